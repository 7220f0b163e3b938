/- The evaluator once more, in a straight style that a kernel runs at less cost; it gives what the first one gives. -/
import Derived.Test.YtompijagcjjamaaE20
namespace Go.Proofs.Ytompijagcjjamaa.Ab

variable {P : Program} {E : Nat → Nat → Seg} {ra : Nat → Nat → Nat × Nat} {base : Nat} {S : Sums} {X : Exts}

theorem eval_bind {α β : Type} (m : AM α) (f : α → AM β) : ∀ s : St, (m.bind f).eval s = (m.eval s).bind fun p => (f p.1).eval p.2 := by
  induction m with
  | pure a => intro s; rfl
  | fail => intro s; rfl
  | br b t e iht ihe =>
    intro s
    cases b
    · exact ihe f s
    · exact iht f s
  | need b k ih =>
    intro s
    cases b
    · rfl
    · exact ih f s
  | read i k ih =>
    intro s
    simp only [AM.bind, AM.eval]
    cases view s.h i with
    | none => rfl
    | some b => exact ih b f _
  | upd i b k ih =>
    intro s
    simp only [AM.bind, AM.eval]
    cases view s.h i with
    | none => rfl
    | some _ => exact ih f _
  | alloc b k ih => intro s; exact ih _ f _
  | trace m k _ ihk =>
    intro s
    simp only [AM.bind, AM.eval]
    cases m.eval { s with rs := [], ws := [] } with
    | none => rfl
    | some p => exact ihk _ _ _ f _

abbrev Ev := St → Option ((AExit × Tmps) × St)
abbrev WalkE := Bool → Code → Tmps → Ev

section defs
variable (P E) (S : Sums) (X : Exts) (R : WalkE)

def endE (fn : Func) (p : AExit × Tmps) (s : St) : Option (AVal × St) := (endA P E fn p).eval s

def callBE (f : FuncId) (as : List AVal) (s : St) : Option (AVal × St) :=
  match S f with
  | some m => (m as).eval s
  | none => match P.funcs[f]? with
    | some fn => match fn.body with
      | some c => match R false c (as ++ List.replicate (fn.ntmps - as.length) .undef) s with
        | some (p, s') => endE P E fn p s'
        | none => none
      | none => none
    | none => none

def callE (f : FuncId) (as : List AVal) (s : St) : Option (AVal × St) :=
  match X f with
  | some m => (m as).eval s
  | none => callBE P E S R f as s

def busyE (id : Nat) (c : Code) (t₁ : Tmps) (s : St) : Option (AVal × St) :=
  match view s.h id with
  | some (.loop ts ps as bd .ready pend) => match R true c t₁ { s with h := (id, some (.loop ts ps as bd .busy pend)) :: s.h, rs := id :: id :: s.rs, ws := id :: s.ws } with
    | some (p, s') => (endRoundA id p).eval s'
    | none => none
  | _ => none

def yieldE (id : Nat) (args : List AVal) (s : St) : Option (AVal × St) :=
  match view s.h id with
  | some (.loop ts ps as bd _ _) => match Nat.beq ps.length args.length with
    | true => match R true as (setAllA ts ps args) { s with rs := id :: s.rs } with
      | some ((.normal, t₁), s') => busyE R id bd t₁ s'
      | _ => none
    | false => none
  | _ => none

def opE (o : Oper) (ρ : Operand → AVal) (s : St) : Option (AVal × St) :=
  match o.op with
  | .call c => match c.callee with
    | .value f => match ρ f with
      | .fn g cap => callE P E S X R g (c.args.toList.map ρ ++ cap) s
      | .yld id => yieldE R id (c.args.toList.map ρ) s
      | _ => none
    | .builtin _ => (aop P E o.op ρ).eval s
    | .invoke _ _ => none
  | op => (aop P E op ρ).eval s

def stepE (all : List Oper) (o : Oper) (ts : Tmps) (s : St) : Option (Tmps × St) :=
  match o.guard with
  | none => match opE P E S X R o (evalA ts) s with
    | some (v, s') => some (putA ts o.dst v, s')
    | none => none
  | some (j, want) => match all[j]? with
    | some oj => match oj.dst with
      | some d => match ts.getD d .undef with
        | .bool b => match b, want with
          | true, true => match opE P E S X R o (evalA (ts.set d (.bool true))) s with
            | some (v, s') => some (putA (ts.set d (.bool true)) o.dst v, s')
            | none => none
          | true, false => some (putA (ts.set d (.bool true)) o.dst .undef, s)
          | false, true => some (putA (ts.set d (.bool false)) o.dst .undef, s)
          | false, false => match opE P E S X R o (evalA (ts.set d (.bool false))) s with
            | some (v, s') => some (putA (ts.set d (.bool false)) o.dst v, s')
            | none => none
        | _ => none
      | none => none
    | none => none

def opsE (all : List Oper) : List Oper → Tmps → Ev
  | [], ts, s => some ((.normal, ts), s)
  | o :: l, ts, s => match stepE P E S X R all o ts s with
    | some (ts', s') => opsE all l ts' s'
    | none => none

def drawE (all : List Oper) (bef : List Nat) : Nat → List Oper → Tmps → List (Nat × List Nat × List Nat) → Ev
  | _, [], ts, fs, s => match foots all bef fs && Region.noSelect all.toArray && edgesOk 0 all with
    | true => some ((.normal, ts), s)
    | false => none
  | i, o :: l, ts, fs, s => match stepE P E S X R all o ts { s with rs := [], ws := [] } with
    | some (ts', s') => drawE all bef (i + 1) l ts' ((i, s'.rs, s'.ws) :: fs) { s' with rs := s'.rs ++ s.rs, ws := s'.ws ++ s.ws }
    | none => none

def loopE (rd : Bool) (c : Code) : Nat → Tmps → Ev
  | 0, _, _ => none
  | n + 1, ts, s => match R rd c ts s with
    | some ((.normal, ts'), s') => loopE rd c n ts' s'
    | r => r

def execFE (n : Nat) (rd : Bool) (c : Code) (ts : Tmps) (s : St) : Option ((AExit × Tmps) × St) :=
  match c with
  | .skip | .label _ => some ((.normal, ts), s)
  | .region _ ops draw => match draw with
    | false => opsE P E S X R ops.toList ops.toList ts s
    | true => drawE P E S X R ops.toList (before ops.toList []) 0 ops.toList ts [] s
  | .seq a b => match R rd a ts s with
    | some ((.normal, ts'), s') => R rd b ts' s'
    | r => r
  | .cond c a b => match evalA ts c with
    | .bool t => match t with
      | true => R rd a ts s
      | false => R rd b ts s
    | _ => none
  | .block id a => match R rd a ts s with
    | some (p, s') => some (blockA id p, s')
    | none => none
  | .loop a => loopE R rd a n ts s
  | .rangeFunc g ps as bd => match rd, evalA ts g with
    | false, .fn f cap => match callBE P E S R f (.yld s.nx :: cap) { s with h := (s.nx, some (.loop ts ps.toList as bd .ready none)) :: s.h, nx := s.nx + 1, ws := s.nx :: s.ws } with
      | some (_, s') => (endLoopA s.nx ts).eval s'
      | none => none
    | _, _ => none
  | .exit id => some ((.exit id, ts), s)
  | .scope a => R rd a ts s
  | .ret => some ((.ret, ts), s)
  | _ => none

def execE : Nat → WalkE
  | 0, _, _, _, _ => none
  | n + 1, rd, c, ts, s => execFE P E S X (execE n) n rd c ts s
end defs

/-! ### It is the same -/
def Alike (R : Walk) (Q : WalkE) : Prop := ∀ rd c ts s, (R rd c ts).eval s = Q rd c ts s

section
variable {R : Walk} {Q : WalkE}

theorem callB_eval (h : Alike R Q) (f : FuncId) (as : List AVal) (s : St) : (callB P E S R f as).eval s = callBE P E S Q f as s := by
  unfold callB callBE
  cases S f with
  | some m => rfl
  | none =>
    simp only
    cases P.funcs[f]? with
    | none => rfl
    | some fn =>
      simp only
      cases fn.body with
      | none => rfl
      | some c =>
        have h' : ∀ rd c ts s, (R rd c ts).eval s = Q rd c ts s := h
        simp only [eval_bind, h']
        cases Q false c (as ++ List.replicate (fn.ntmps - as.length) .undef) s with
        | none => rfl
        | some p => rfl

theorem callA_eval (h : Alike R Q) (f : FuncId) (as : List AVal) (s : St) : (callA P E S X R f as).eval s = callE P E S X Q f as s := by
  unfold callA callE
  cases X f with
  | some m => rfl
  | none => exact callB_eval h f as s

theorem busyA_eval (h : Alike R Q) (id : Nat) (c : Code) (t₁ : Tmps) (s : St) : (busyA R id c t₁).eval s = busyE Q id c t₁ s := by
  unfold busyA busyE
  simp only [AM.eval]
  cases hv : view s.h id with
  | none => rfl
  | some b =>
    match b with
    | .loop ts ps as bd .ready pend =>
      have h' : ∀ rd c ts s, (R rd c ts).eval s = Q rd c ts s := h
      simp only [AM.eval, hv, eval_bind, h']
      cases Q true c t₁ _ with
      | none => rfl
      | some p => rfl
    | .loop ts ps as bd .busy pend => rfl
    | .loop ts ps as bd .done pend => rfl
    | .loop ts ps as bd .exhausted pend => rfl
    | .segs _ => rfl
    | .map _ => rfl

theorem yieldA_eval (h : Alike R Q) (id : Nat) (args : List AVal) (s : St) : (yieldA R id args).eval s = yieldE Q id args s := by
  unfold yieldA yieldE
  simp only [AM.eval]
  cases hv : view s.h id with
  | none => rfl
  | some b =>
    match b with
    | .loop ts ps as bd st pend =>
      have h' : ∀ rd c ts s, (R rd c ts).eval s = Q rd c ts s := h
      simp only [AM.eval, eval_bind, h']
      cases Nat.beq ps.length args.length with
      | false => rfl
      | true =>
        simp only
        cases Q true as (setAllA ts ps args) _ with
        | none => rfl
        | some p =>
          obtain ⟨⟨e, t⟩, s'⟩ := p
          cases e with
          | normal => exact busyA_eval h id bd t s'
          | exit _ => rfl
          | ret => rfl
    | .segs _ => rfl
    | .map _ => rfl

theorem opA_eval (h : Alike R Q) (o : Oper) (ρ : Operand → AVal) (s : St) : (opA P E S X R o ρ).eval s = opE P E S X Q o ρ s := by
  unfold opA opE
  cases o.op with
  | call c =>
    simp only
    cases c.callee with
    | value f =>
      simp only
      cases ρ f with
      | fn g cap => exact callA_eval h _ _ s
      | yld id => exact yieldA_eval h _ _ s
      | _ => rfl
    | builtin _ => rfl
    | invoke _ _ => rfl
  | _ => rfl

theorem gstepA_eval (h : Alike R Q) (all : List Oper) (o : Oper) (ts : Tmps) (s : St) : (gstepA P E S X R all o ts).eval s = stepE P E S X Q all o ts s := by
  have key : ∀ ts' : Tmps, ((opA P E S X R o (evalA ts')).bind fun v => .pure (putA ts' o.dst v)).eval s = match opE P E S X Q o (evalA ts') s with
      | some (v, s') => some (putA ts' o.dst v, s')
      | none => none := by
    intro ts'
    rw [eval_bind, opA_eval h]
    cases opE P E S X Q o (evalA ts') s with
    | none => rfl
    | some p => rfl
  unfold gstepA stepE
  cases o.guard with
  | none => exact key ts
  | some gw =>
    obtain ⟨j, want⟩ := gw
    simp only
    cases all[j]? with
    | none => rfl
    | some oj =>
      simp only
      cases oj.dst with
      | none => rfl
      | some d =>
        simp only
        cases ts.getD d .undef with
        | bool b => cases b <;> cases want <;> simp only [AM.eval] <;> exact key _
        | _ => rfl

theorem opsA_eval (h : Alike R Q) (all : List Oper) : ∀ (l : List Oper) (ts : Tmps) (s : St), (opsA P E S X R all l ts).eval s = opsE P E S X Q all l ts s
  | [], _, _ => rfl
  | o :: l, ts, s => by
    unfold opsA opsE
    rw [eval_bind, gstepA_eval h]
    cases stepE P E S X Q all o ts s with
    | none => rfl
    | some p => exact opsA_eval h all l p.1 p.2

theorem drawA_eval (h : Alike R Q) (all : List Oper) (bef : List Nat) : ∀ (l : List Oper) (i : Nat) (ts : Tmps) (fs : List (Nat × List Nat × List Nat)) (s : St), (drawA P E S X R all bef i l ts fs).eval s = drawE P E S X Q all bef i l ts fs s
  | [], _, _, fs, _ => by
    unfold drawA drawE
    simp only [AM.eval]
    cases (foots all bef fs && Region.noSelect all.toArray && edgesOk 0 all) <;> rfl
  | o :: l, i, ts, fs, s => by
    unfold drawA drawE
    simp only [AM.eval, gstepA_eval h]
    cases stepE P E S X Q all o ts _ with
    | none => rfl
    | some p => exact drawA_eval h all bef l (i + 1) p.1 _ _

theorem loopA_eval (h : Alike R Q) (rd : Bool) (c : Code) : ∀ (n : Nat) (ts : Tmps) (s : St), (loopA R rd c n ts).eval s = loopE Q rd c n ts s
  | 0, _, _ => rfl
  | n + 1, ts, s => by
    unfold loopA loopE
    rw [eval_bind, h rd c ts s]
    cases Q rd c ts s with
    | none => rfl
    | some p =>
      obtain ⟨⟨e, t⟩, s'⟩ := p
      cases e with
      | normal => exact loopA_eval h rd c n t s'
      | exit _ => rfl
      | ret => rfl

theorem execF_eval (h : Alike R Q) (n : Nat) : Alike (execF P E S X R n) (execFE P E S X Q n) := by
  intro rd c ts s
  cases c with
  | skip => rfl
  | label _ => rfl
  | region id ops draw => cases draw with
    | false => exact opsA_eval h _ _ ts s
    | true => exact drawA_eval h _ _ _ _ ts _ s
  | seq a b =>
    have h' : ∀ rd c ts s, (R rd c ts).eval s = Q rd c ts s := h
    simp only [execF, execFE, eval_bind, h']
    cases Q rd a ts s with
    | none => rfl
    | some p =>
      obtain ⟨⟨e, t⟩, s'⟩ := p
      cases e with
      | normal => exact h rd b t s'
      | exit _ => rfl
      | ret => rfl
  | cond c a b =>
    simp only [execF, execFE]
    cases evalA ts c with
    | bool t => cases t <;> simp only [AM.eval] <;> exact h _ _ _ _
    | _ => rfl
  | block id a =>
    have h' : ∀ rd c ts s, (R rd c ts).eval s = Q rd c ts s := h
    simp only [execF, execFE, eval_bind, h']
    cases Q rd a ts s with
    | none => rfl
    | some p => rfl
  | loop a => exact loopA_eval h rd a n ts s
  | rangeFunc g ps as bd =>
    simp only [execF, execFE]
    cases rd with
    | true => rfl
    | false =>
      cases evalA ts g with
      | fn f cap =>
        simp only [AM.eval, eval_bind, callB_eval h]
        cases callBE P E S Q f (.yld s.nx :: cap) _ with
        | none => rfl
        | some p => rfl
      | _ => rfl
  | exit id => rfl
  | scope a => exact h rd a ts s
  | goto _ => rfl
  | ret => rfl
  | refuse _ => rfl

theorem exec_eval : ∀ n, Alike (exec P E S X n) (execE P E S X n)
  | 0 => fun _ _ _ _ => rfl
  | n + 1 => execF_eval (exec_eval n) n
end

/-- A call without arguments, run to its end, in the straight style. -/
theorem known_callsE {f n : Nat} (hX : ExtsOK P noSeg noRa X) (hN : NamesOK P) (hm : P.follows .mixedOrders = true) (h : isTrue (callBE P noSeg (fun _ => none) (execE P noSeg (fun _ => none) X n) f [] s0) = true) (w : World) :
    Calls P f #[] w fun e w' => e = .returned (.bool true) ∧ RowKit.Below w.heap.size w w' :=
  known_calls hX hN hm (n := n) (by rw [callB_eval (exec_eval n)]; exact h) w

end Go.Proofs.Ytompijagcjjamaa.Ab
