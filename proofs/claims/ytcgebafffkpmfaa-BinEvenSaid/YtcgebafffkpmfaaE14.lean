/- The abstract evaluator of code; what one activation's temporaries and deferred marks are to the model's; a function's results. -/
import Derived.Test.YtcgebafffkpmfaaE13
import Derived.RangeFuncLeaves
namespace Go.Proofs.Ytcgebafffkpmfaa.Ab

variable {P : Program} {E : Nat → Nat → Seg} {ra : Nat → Nat → Nat × Nat} {base : Nat}

inductive AExit
  | normal
  | exit (id : Nat)
  | ret

def AExit.toExit : AExit → Exit
  | .normal => .normal
  | .exit id => .exit id
  | .ret => .ret

def AExit.jump : AExit → Option Code
  | .normal => none
  | .exit id => some (.exit id)
  | .ret => some .ret

abbrev Sums := FuncId → Option (List AVal → AM AVal)
abbrev Exts := FuncId → Option (List AVal → AM AVal)
abbrev Walk := FuncId → List Bool → Bool → Code → Tmps → AM (AExit × Tmps)
/-- loops that are told, by their places -/
abbrev Loops := FuncId → List Bool → Option (Tmps → AM (AExit × Tmps))

/-- no function: code whose place is not kept -/
def noF : FuncId := 1000000

section defs
variable (P E)

def oneA (ts : Tmps) : ResultVar → AM AVal
  | .tmp t => .pure (ts.getD t .undef)
  | .cell a t => loadA P E t (ts.getD a .undef)

def allA (ts : Tmps) : List ResultVar → AM (List AVal)
  | [] => .pure []
  | r :: rs => (oneA P E ts r).bind fun v => (allA ts rs).bind fun vs => .pure (v :: vs)

def resA (fn : Func) (ts : Tmps) : AM AVal :=
  match fn.results.toList with
  | [r] => oneA P E ts r
  | rs => (allA P E ts rs).bind fun vs => .pure (.tup vs)

variable (S : Sums) (X : Exts) (L : Loops) (R : Walk)

def endA (fn : Func) (p : AExit × Tmps) : AM AVal :=
  match p.1 with
  | .exit _ => .fail
  | _ => resA P E fn p.2

def callB (f : FuncId) (as : List AVal) : AM AVal :=
  match S f with
  | some s => s as
  | none => match P.funcs[f]? with
    | some fn => match fn.body with
      | some c => (R f [] false c (as ++ List.replicate (fn.ntmps - as.length) .undef)).bind (endA P E fn)
      | none => .fail
    | none => .fail

def callA (f : FuncId) (as : List AVal) : AM AVal :=
  match X f with
  | some x => x as
  | none => callB P E S R f as

def setAllA (ts : Tmps) : List Tmp → List AVal → Tmps
  | p :: ps, v :: vs => setAllA (ts.set p v) ps vs
  | _, _ => ts

/-- a round's end -/
def endRoundA (id : Nat) (p : AExit × Tmps) : AM AVal :=
  .read id fun b => match b with
    | .loop ts ps as bd .busy _ => .upd id (some (.loop ts ps as bd (match p.1 with | .normal => .ready | _ => .done) p.1.jump)) (.pure (.bool (match p.1 with | .normal => true | _ => false)))
    | _ => .fail

def busyA (id : Nat) (c : Code) (t₁ : Tmps) : AM AVal :=
  .read id fun b => match b with
    | .loop ts ps as bd .ready pend => .upd id (some (.loop ts ps as bd .busy pend)) ((R noF [] true c t₁).bind (endRoundA id))
    | _ => .fail

def beginA (id : Nat) (c : Code) (p : AExit × Tmps) : AM AVal :=
  match p.1 with
  | .normal => busyA R id c p.2
  | _ => .fail

def yieldA (id : Nat) (args : List AVal) : AM AVal :=
  .read id fun b => match b with
    | .loop ts ps as bd _ _ => .need (Nat.beq ps.length args.length) ((R noF [] true as (setAllA ts ps args)).bind (beginA R id bd))
    | _ => .fail

def opA (o : Oper) (ρ : Operand → AVal) : AM AVal :=
  match o.op with
  | .call c => match c.callee with
    | .value f => match ρ f with
      | .fn g cap => callA P E S X R g (c.args.toList.map ρ ++ cap)
      | .yld id => yieldA R id (c.args.toList.map ρ)
      | _ => .fail
    | .builtin _ => aop P E o.op ρ
    | .invoke _ _ => .fail
  | op => aop P E op ρ

/-- one operation in its place: done, if it is wanted -/
def gstepA (all : List Oper) (o : Oper) (ts : Tmps) : AM Tmps :=
  match o.guard with
  | none => (opA P E S X R o (evalA ts)).bind fun v => .pure (putA ts o.dst v)
  | some (j, want) => match all[j]? with
    | some oj => match oj.dst with
      | some d => match ts.getD d .undef with
        | .bool b => .br b
          (match want with
            | true => (opA P E S X R o (evalA (ts.set d (.bool true)))).bind fun v => .pure (putA (ts.set d (.bool true)) o.dst v)
            | false => .pure (putA (ts.set d (.bool true)) o.dst (.tup [])))
          (match want with
            | true => .pure (putA (ts.set d (.bool false)) o.dst (.tup []))
            | false => (opA P E S X R o (evalA (ts.set d (.bool false)))).bind fun v => .pure (putA (ts.set d (.bool false)) o.dst v))
        | .tup [] => .pure (putA ts o.dst (.tup []))
        | _ => .fail
      | none => .fail
    | none => .fail

def opsA (all : List Oper) : List Oper → Tmps → AM (AExit × Tmps)
  | [], ts => .pure (.normal, ts)
  | o :: l, ts => (gstepA P E S X R all o ts).bind fun ts => opsA all l ts

def apartL (a b : List Nat) : Bool := a.all fun i => b.all fun j => !(Nat.beq i j)

/-- bit j of the i-th number: the i-th operation always comes behind the j-th -/
def before : List Oper → List Nat → List Nat
  | [], acc => acc
  | o :: l, acc => before l (acc ++ [o.after.toList.foldl (fun s e => bif Region.binds .any e then s ||| 2 ^ e.on ||| acc.getD e.on 0 else s) 0])

def footOk (all : List Oper) (bef : List Nat) (i : Nat) (r w : List Nat) (f : Nat × List Nat × List Nat) : Bool :=
  (bef.getD i 0).testBit f.1 || (apartL w f.2.2 && apartL w f.2.1 && apartL r f.2.2 &&
    match all[i]?, all[f.1]? with
    | some a, some b => b.apart all.toArray a
    | _, _ => false)

/-- each two that are not ordered are apart -/
def foots (all : List Oper) (bef : List Nat) : List (Nat × List Nat × List Nat) → Bool
  | [] => true
  | (i, r, w) :: l => l.all (footOk all bef i r w) && foots all bef l

/-- no edge leads forward -/
def edgesOk : Nat → List Oper → Bool
  | _, [] => true
  | i, o :: l => o.after.toList.all (fun e => !Region.binds .any e || Nat.blt e.on i) && edgesOk (i + 1) l

def drawA (all : List Oper) (bef : List Nat) : Nat → List Oper → Tmps → List (Nat × List Nat × List Nat) → AM (AExit × Tmps)
  | _, [], ts, fs => .need (foots all bef fs && Region.noSelect all.toArray && edgesOk 0 all) (.pure (.normal, ts))
  | i, o :: l, ts, fs => .trace (gstepA P E S X R all o ts) fun ts r w => drawA all bef (i + 1) l ts ((i, r, w) :: fs)

def thenA (f : Tmps → AM (AExit × Tmps)) (p : AExit × Tmps) : AM (AExit × Tmps) :=
  match p.1 with
  | .normal => f p.2
  | _ => .pure p

def blockA (id : Nat) (p : AExit × Tmps) : AExit × Tmps :=
  match p.1 with
  | .exit i => match Nat.beq i id with
    | true => (.normal, p.2)
    | false => p
  | _ => p

def endLoopA (id : Nat) (ts : Tmps) : AM (AExit × Tmps) :=
  .read id fun b => match b with
    | .loop ls ps as bd st pend => .need (match st with | .busy => false | _ => true) (.upd id (some (.loop ls ps as bd .exhausted pend))
      (match pend with
        | none => .pure (.normal, ts)
        | some .ret => .pure (.ret, ts)
        | some (.exit i) => .pure (.exit i, ts)
        | _ => .fail))
    | _ => .fail

def loopA (f : FuncId) (p : List Bool) (rd : Bool) (c : Code) : Nat → Tmps → AM (AExit × Tmps)
  | 0, _ => .fail
  | n + 1, ts => (R f (false :: p) rd c ts).bind (thenA (loopA f p rd c n))

def execF (n : Nat) (f : FuncId) (p : List Bool) (rd : Bool) (c : Code) (ts : Tmps) : AM (AExit × Tmps) :=
  match c with
  | .skip | .label _ => .pure (.normal, ts)
  | .region _ ops draw => match draw with
    | false => opsA P E S X R ops.toList ops.toList ts
    | true => drawA P E S X R ops.toList (before ops.toList []) 0 ops.toList ts []
  | .seq a b => (R f (false :: p) rd a ts).bind (thenA (R f (true :: p) rd b))
  | .cond c a b => match evalA ts c with
    | .bool t => .br t (R f (false :: p) rd a ts) (R f (true :: p) rd b ts)
    | _ => .fail
  | .block id a => (R f (false :: p) rd a ts).bind fun p => .pure (blockA id p)
  | .loop a => match rd, L f p with
    | false, some m => m ts
    | _, _ => loopA R f p rd a n ts
  | .rangeFunc g ps as bd => match rd, evalA ts g with
    | false, .fn g cap => .alloc (.loop ts ps.toList as bd .ready none) fun id => (callB P E S R g (.yld id :: cap)).bind fun _ => endLoopA id ts
    | _, _ => .fail
  | .exit id => .pure (.exit id, ts)
  | .scope a => R f (false :: p) rd a ts
  | .ret => .pure (.ret, ts)
  | _ => .fail

def exec : Nat → Walk
  | 0, _, _, _, _, _ => .fail
  | n + 1, f, p, rd, c, ts => execF P E S X L (exec n) n f p rd c ts
end defs

/-! ### An activation -/

def DefOK (ι : Inj) (h : Log) (w : World) (nb : Nat) (ds : List Deferred) : Prop :=
  (∀ d ∈ ds, ∃ r, d.target = .collected r ∧ nb ≤ r ∧ w.heap[r]? = some (.deferred (some [])) ∧ ¬ Live ι h r) ∧ ds.Pairwise fun x y => x.target ≠ y.target

theorem lt_of_heap {w : World} {r : Nat} {o : Obj} (h : w.heap[r]? = some o) : r < w.heap.size := by
  rcases Nat.lt_or_ge r w.heap.size with h' | h'
  · exact h'
  · simp [Array.getElem?_eq_none h'] at h

theorem DefOK.keeps {ι ι' : Inj} {h h' : Log} {w w' : World} {nb : Nat} {ds : List Deferred} (hd : DefOK ι h w nb ds) (k : Keeps ι h w ι' h' w') : DefOK ι' h' w' nb ds :=
  ⟨fun d hm => let ⟨r, h1, h2, h3, h4⟩ := hd.1 d hm
    ⟨r, h1, h2, by rw [k.block r (lt_of_heap h3) h4]; exact h3, fun hl => h4 (k.live r (lt_of_heap h3) hl)⟩, hd.2⟩

theorem DefOK.nil (ι : Inj) (h : Log) (w : World) (nb : Nat) : DefOK ι h w nb [] := ⟨fun _ hm => by simp at hm, .nil⟩

structure Fit (E : Nat → Nat → Seg) (ra : Nat → Nat → Nat × Nat) (base : Nat) (ι : Inj) (h : Log) (w : World) (nb : Nat) (ts : Tmps) (a : Act) : Prop where
  rel : WRel E ra base ι h w
  tmps : RelL E ra ι ts a.tmps.toList
  defs : DefOK ι h w nb a.defers
  size : nb ≤ w.heap.size


theorem evalA_sound {ι : Inj} {ts : Tmps} {a : Act} (h : RelL E ra ι ts a.tmps.toList) (x : Operand) : Rel E ra ι (evalA ts x) (a.eval x) := by
  cases x with
  | tmp t =>
    have := h.getD t undef
    have e : a.tmps.toList.getD t undef = a.tmps.getD t undef := by
      rw [Array.getD_eq_getD_getElem?, List.getD_eq_getElem?_getD, Array.getElem?_toList]
    rw [e] at this
    exact this
  | const v => exact rel_absV ι v
  | global g => exact .undef _
  | func f => exact .fn .nil

theorem put_rel {ι : Inj} {ts : Tmps} {a : Act} (h : RelL E ra ι ts a.tmps.toList) (dst : Option Tmp) {v : AVal} {v' : Value} (hv : Rel E ra ι v v') : RelL E ra ι (putA ts dst v) (a.put dst v').tmps.toList := by
  cases dst with
  | none => exact h
  | some d => simpa [putA, Act.put] using h.set d hv

theorem put_defers (a : Act) (dst : Option Tmp) (v : Value) : (a.put dst v).defers = a.defers := by cases dst <;> rfl

theorem Fit.put {ι ι' : Inj} {h h' : Log} {w w' : World} {nb : Nat} {ts : Tmps} {a : Act} (f : Fit E ra base ι h w nb ts a) (H : WRel E ra base ι' h' w') (k : Keeps ι h w ι' h' w') (dst : Option Tmp) {v : AVal} {v' : Value} (hv : Rel E ra ι' v v') :
    Fit E ra base ι' h' w' nb (putA ts dst v) (a.put dst v') :=
  ⟨H, put_rel (f.tmps.mono k.ext) dst hv, by rw [put_defers]; exact f.defs.keeps k, Nat.le_trans f.size k.size⟩

theorem Fit.move {ι ι' : Inj} {h h' : Log} {w w' : World} {nb : Nat} {ts : Tmps} {a : Act} (f : Fit E ra base ι h w nb ts a) (H : WRel E ra base ι' h' w') (k : Keeps ι h w ι' h' w') : Fit E ra base ι' h' w' nb ts a :=
  ⟨H, f.tmps.mono k.ext, f.defs.keeps k, Nat.le_trans f.size k.size⟩

theorem loadVar_sound {ι : Inj} {h : Log} {w : World} (H : WRel E ra base ι h w) {t : TypeId} {a : AVal} {a' : Value} (ha : Rel E ra ι a a') {v : AVal} {d : Log} {r : List Nat} (hr : (loadA P E t a).Runs h v d r) :
    d = [] ∧ ∃ x v', a' = .pointer (some x) ∧ (loadVar t x).run P w = .ok v' w ∧ Rel E ra ι v v' := by
  simp only [loadA] at hr
  cases hi : P.info? t with
  | none => simp [hi, AM.Runs] at hr
  | some inf =>
    simp only [hi, runs_bind] at hr
    obtain ⟨cs, d₁, r₁, d₂, r₂, h1, h2, rfl, rfl⟩ := hr
    obtain ⟨rfl, b, x, vs, rfl, hl, hR, hc⟩ := cellsA_sound H ha h1
    have hlen := hR.length
    cases hu : P.underlying t with
    | none => simp [shapeA, hu, AM.Runs] at h2
    | some td =>
      have hagg := run_isAgg hu w
      have hsz := run_sizeOf hi w
      cases hag : aggB td with
      | true =>
        rw [hag] at hagg
        simp only [shapeA, hu, hag] at h2
        obtain ⟨rfl, rfl, rfl⟩ := h2
        refine ⟨rfl, _, .agg vs.toArray, rfl, ?_, .agg hR⟩
        simp [loadVar, hagg, hsz, run_loadCells' hl hc]
      | false =>
        rw [hag] at hagg
        simp only [shapeA, hu, hag] at h2
        match cs, vs, hR, hlen, h2 with
        | [v₀], [y], hR, _, h2 =>
          obtain ⟨rfl, rfl, rfl⟩ := h2
          refine ⟨rfl, _, y, rfl, ?_, ?_⟩
          · have hc0 := hc 0 (by simp at hl; omega)
            simp only [Nat.add_zero, List.getElem?_cons_zero] at hc0
            simp [loadVar, hagg, hc0]
          · cases hR with | cons h _ => exact h
        | [], _, _, _, h2 => simp [one1, AM.Runs] at h2
        | _ :: _ :: _, _, _, _, h2 => simp [one1, AM.Runs] at h2

/-! ### A function's results -/

def oneS (tmps : Array Value) : ResultVar → Sem Value
  | .tmp t => pure (tmps.getD t undef)
  | .cell a t => do loadVar t (← asAddr (tmps.getD a undef))

theorem oneA_sound {ι : Inj} {h : Log} {w : World} (H : WRel E ra base ι h w) {ts : Tmps} {tmps : Array Value} (ht : RelL E ra ι ts tmps.toList) (r : ResultVar) {v : AVal} {d : Log} {rs : List Nat} (hr : (oneA P E ts r).Runs h v d rs) :
    d = [] ∧ ∃ v', (oneS tmps r).run P w = .ok v' w ∧ Rel E ra ι v v' := by
  have hev : ∀ t, Rel E ra ι (ts.getD t .undef) (tmps.getD t undef) := fun t => by
    have := ht.getD t undef
    rwa [show tmps.toList.getD t undef = tmps.getD t undef by rw [Array.getD_eq_getD_getElem?, List.getD_eq_getElem?_getD, Array.getElem?_toList]] at this
  cases r with
  | tmp t =>
    obtain ⟨rfl, rfl, rfl⟩ := hr
    exact ⟨rfl, _, rfl, hev t⟩
  | cell a t =>
    simp only [oneA] at hr
    obtain ⟨h1, x, v', h2, h3, h4⟩ := loadVar_sound (P := P) H (hev a) hr
    exact ⟨h1, v', by simp [oneS, h2, asAddr, h3], h4⟩

theorem allA_sound {ι : Inj} {h : Log} {w : World} (H : WRel E ra base ι h w) {ts : Tmps} {tmps : Array Value} (ht : RelL E ra ι ts tmps.toList) : ∀ (l : List ResultVar) {vs : List AVal} {d : Log} {rs : List Nat}, (allA P E ts l).Runs h vs d rs →
    d = [] ∧ ∃ f : ResultVar → Value, (∀ x ∈ l, (oneS tmps x).run P w = .ok (f x) w) ∧ RelL E ra ι vs (l.map f) := by
  let f : ResultVar → Value := fun x => match (oneS tmps x).run P w with
    | .ok v _ => v
    | .halt _ _ => undef
  have key : ∀ (l : List ResultVar) {vs : List AVal} {d : Log} {rs : List Nat}, (allA P E ts l).Runs h vs d rs → d = [] ∧ (∀ x ∈ l, (oneS tmps x).run P w = .ok (f x) w) ∧ RelL E ra ι vs (l.map f) := by
    intro l
    induction l with
    | nil =>
      rintro vs d rs ⟨rfl, rfl, rfl⟩
      exact ⟨rfl, fun _ hx => by simp at hx, .nil⟩
    | cons r l ih =>
      intro vs d rs hr
      simp only [allA, runs_bind] at hr
      obtain ⟨v, d₁, r₁, d₂, r₂, h1, ⟨us, d₃, r₃, d₄, r₄, h2, ⟨rfl, rfl, rfl⟩, rfl, rfl⟩, rfl, rfl⟩ := hr
      obtain ⟨rfl, v', g1, g2⟩ := oneA_sound H ht r h1
      obtain ⟨rfl, g3, g4⟩ := ih h2
      have hf : f r = v' := by simp only [f, g1]
      refine ⟨rfl, fun x hx => ?_, ?_⟩
      · rcases List.mem_cons.1 hx with rfl | hx
        · rw [hf]; exact g1
        · exact g3 x hx
      · rw [List.map_cons, hf]; exact .cons g2 g4
  exact fun l vs d rs hr => let ⟨h1, h2, h3⟩ := key l hr; ⟨h1, f, h2, h3⟩

theorem resA_sound {ι : Inj} {h : Log} {w : World} (H : WRel E ra base ι h w) {ts : Tmps} {tmps : Array Value} (ht : RelL E ra ι ts tmps.toList) {fn : Func} {v : AVal} {d : Log} {rs : List Nat} (hr : (resA P E fn ts).Runs h v d rs) :
    d = [] ∧ ∃ v', (results fn tmps).run P w = .ok v' w ∧ Rel E ra ι v v' := by
  have hres : ∀ f : ResultVar → Value, (∀ x ∈ fn.results.toList, (oneS tmps x).run P w = .ok (f x) w) →
      (results fn tmps).run P w = .ok (if h : (fn.results.map f).size = 1 then (fn.results.map f)[0] else .tuple (fn.results.map f)) w := by
    intro f hf
    have hm := run_mapM (P := P) (w := w) (oneS tmps) f fn.results hf
    have e : results fn tmps = (do let vs ← fn.results.mapM (oneS tmps); pure (if h : vs.size = 1 then vs[0] else .tuple vs)) := rfl
    rw [e, Sem.run_bind, hm]
    rfl
  unfold resA at hr
  split at hr
  · rename_i r hl
    obtain ⟨h1, v', h2, h3⟩ := oneA_sound H ht r hr
    have := hres (fun _ => v') (fun x hx => by rw [hl] at hx; simp at hx; subst hx; exact h2)
    refine ⟨h1, v', ?_, h3⟩
    rw [this]
    have hs : fn.results.size = 1 := by rw [← Array.length_toList, hl]; rfl
    simp [hs]
  · rename_i hne
    simp only [runs_bind] at hr
    obtain ⟨vs, d₁, r₁, d₂, r₂, h1, ⟨rfl, rfl, rfl⟩, rfl, rfl⟩ := hr
    obtain ⟨rfl, f, h2, h3⟩ := allA_sound H ht _ h1
    refine ⟨rfl, _, hres f h2, ?_⟩
    have hs : (fn.results.map f).size ≠ 1 := by
      intro he
      simp only [← Array.length_toList] at he
      match hh : fn.results.toList with
      | [r] => exact hne r hh
      | [] => simp [hh] at he
      | _ :: _ :: _ => simp [hh] at he
    rw [dif_neg hs]
    have : fn.results.map f = (fn.results.toList.map f).toArray := by apply Array.ext'; simp
    rw [this]
    exact .tup h3

end Go.Proofs.Ytcgebafffkpmfaa.Ab
