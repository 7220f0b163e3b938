/- Calls of functions, rounds of a range over a function, and single operations: against the model's walk. -/
import Derived.Test.YtcgebafffkpmfaaE14
import Derived.RangeFuncRecord
import Derived.RangeFuncCalls
import Derived.OrdersIn
namespace Go.Proofs.Ytcgebafffkpmfaa.Ab

variable {P : Program} {E : Nat → Nat → Seg} {ra : Nat → Nat → Nat × Nat} {base : Nat} {S : Sums} {X : Exts} {R : Walk}

abbrev FW (ro : Option Nat) : Fence := { fn := fun _ => True, depth := none, alive := false, round := ro }

theorem FW_none : FW none = Fence.wide := rfl

/-- the part of a code to which a turn leads -/
def kid : Code → Bool → Option Code
  | .seq a _, false => some a
  | .seq _ b, true => some b
  | .cond _ a _, false => some a
  | .cond _ _ b, true => some b
  | .block _ a, false => some a
  | .loop a, false => some a
  | .scope a, false => some a
  | _, _ => none

/-- the code at a place: the last turn first -/
def codeAt (P : Program) (f : FuncId) : List Bool → Option Code
  | [] => match P.funcs[f]? with
    | some fn => fn.body
    | none => none
  | b :: p => match codeAt P f p with
    | some c => kid c b
    | none => none

def At (P : Program) (f : FuncId) (p : List Bool) (c : Code) : Prop := f = noF ∨ codeAt P f p = some c

theorem At.kid {f : FuncId} {p : List Bool} {c c' : Code} (h : At P f p c) {b : Bool} (hk : Ab.kid c b = some c') : At P f (b :: p) c' :=
  h.imp id fun e => by simp only [codeAt, e]; exact hk

def ExecOK (P : Program) (E : Nat → Nat → Seg) (ra : Nat → Nat → Nat × Nat) (base : Nat) (R : Walk) : Prop :=
  ∀ (f : FuncId) (pl : List Bool) (ro : Option Nat) (c : Code) (ts : Tmps) (ι : Inj) (h : Log) (w : World) (nb : Nat) (a : Act) (p : AExit × Tmps) (d : Log) (r : List Nat),
    At P f pl c → Fit E ra base ι h w nb ts a → (R f pl ro.isSome c ts).Runs h p d r → ∀ Q : Exit → Act → World → Prop,
    (∀ ι' a' w', Fit E ra base ι' (d ++ h) w' nb p.2 a' → Keeps ι h w ι' (d ++ h) w' → Q p.1.toExit a' w') → c.wpIn (FW ro) 0 P Q a w

def CallOK (P : Program) (E : Nat → Nat → Seg) (ra : Nat → Nat → Nat × Nat) (base : Nat) (f : FuncId) (as : List AVal) (h : Log) (v : AVal) (d : Log) : Prop :=
  ∀ (ι : Inj) (w : World) (as' : Array Value), WRel E ra base ι h w → RelL E ra ι as as'.toList →
    CallsIn (FW none) 0 P f as' w fun e w' => ∃ v' ι', e = .returned v' ∧ Rel E ra ι' v v' ∧ WRel E ra base ι' (d ++ h) w' ∧ Keeps ι h w ι' (d ++ h) w'

def HasBody (P : Program) (f : FuncId) : Prop := ∃ fn, P.funcs[f]? = some fn ∧ fn.body.isSome = true

def SumsOK (P : Program) (E : Nat → Nat → Seg) (ra : Nat → Nat → Nat × Nat) (base : Nat) (S : Sums) : Prop :=
  ∀ f s, S f = some s → HasBody P f ∧ ∀ as h v d r, (s as).Runs h v d r → CallOK P E ra base f as h v d

def ExtsOK (P : Program) (E : Nat → Nat → Seg) (ra : Nat → Nat → Nat × Nat) (X : Exts) : Prop :=
  ∀ f x as h v d r, X f = some x → (x as).Runs h v d r → d = [] ∧ ∀ (ι : Inj) (w : World) (as' : Array Value), RelL E ra ι as as'.toList → ∃ v', (callFunc f as').run P w = .ok (.value v') w ∧ Rel E ra ι v v'

/-- told loops: each is what its code does, where it stands -/
def LoopsOK (P : Program) (E : Nat → Nat → Seg) (ra : Nat → Nat → Nat × Nat) (base : Nat) (L : Loops) : Prop :=
  ∀ f pl m, L f pl = some m → f ≠ noF ∧ ∀ c, codeAt P f pl = some (.loop c) → ∀ (ts : Tmps) (ι : Inj) (h : Log) (w : World) (nb : Nat) (a : Act) (p : AExit × Tmps) (d : Log) (r : List Nat),
    Fit E ra base ι h w nb ts a → (m ts).Runs h p d r → ∀ Q : Exit → Act → World → Prop,
    (∀ ι' a' w', Fit E ra base ι' (d ++ h) w' nb p.2 a' → Keeps ι h w ι' (d ++ h) w' → Q p.1.toExit a' w') → (Code.loop c).wpIn (FW none) 0 P Q a w

def NamesOK (P : Program) : Prop := ∀ (f : FuncId) (fn : Func), P.funcs[f]? = some fn → (fn.name == "runtime.NumGoroutine") = false

theorem run_callFunc {f : FuncId} (hn : NamesOK P) (hb : HasBody P f) (as : Array Value) (w : World) : (callFunc f as).run P w = .ok (.enter f as) w := by
  obtain ⟨fn, h1, h2⟩ := hb
  have h3 : fn.name ≠ "runtime.NumGoroutine" := by simpa using hn f fn h1
  have h4 : fn.body ≠ none := by cases hh : fn.body <;> simp_all
  simp [callFunc, program, Sem.run, h1, h3, h4]

/-! ### A function -/

theorem leaves_marks {ι ι' : Inj} {h h' : Log} {w : World} {fn : Func} {ts : Tmps} {tmps : Array Value} {v : AVal} {rs : List Nat} {d : Log}
    (hle : base ≤ w.heap.size) (ht : RelL E ra ι' ts tmps.toList) (hr : (resA P E fn ts).Runs h' v d rs) : ∀ (ds : List Deferred) (w' : World),
    DefOK ι' h' w' w.heap.size ds → WRel E ra base ι' h' w' → Keeps ι h w ι' h' w' →
    LeavesInM (FW none) 0 P fn tmps (fun e w' => ∃ v' ι', e = .returned v' ∧ Rel E ra ι' v v' ∧ WRel E ra base ι' h' w' ∧ Keeps ι h w ι' h' w') ds .returning w' := by
  intro ds
  induction ds with
  | nil =>
    intro w' _ H k
    obtain ⟨_, v', h1, h2⟩ := resA_sound H ht hr
    exact ⟨v', h1, v', ι', rfl, h2, H, k⟩
  | cons m ds ih =>
    intro w' hd H k
    obtain ⟨r, h1, h2, h3, h4⟩ := hd.1 m (by simp)
    refine ⟨by simp, .inl ⟨r, _, h1, run_takeDeferred h3, ih _ ⟨fun m' hm' => ?_, (List.pairwise_cons.1 hd.2).2⟩ ?_ ?_⟩⟩
    · obtain ⟨r', g1, g2, g3, g4⟩ := hd.1 m' (by simp [hm'])
      refine ⟨r', g1, g2, ?_, g4⟩
      have hne : r' ≠ r := fun e => (List.pairwise_cons.1 hd.2).1 m' hm' (by rw [h1, g1, e])
      rw [World.putObj_heap_other hne]; exact g3
    · refine ⟨H.dom, fun id B hB => (H.own id B hB).mono (.refl _) fun b o sz hb => World.putObj_heap_other fun e => h4 ⟨id, B, o, sz, hB, e ▸ hb⟩, H.inj, by rw [World.putObj_size]; exact H.le, H.roLt, H.roWF,
        H.roKeep (.refl _) fun b hb => World.putObj_heap_other fun e => ?_⟩
      omega
    · refine ⟨k.ext, k.os, k.tape, k.output, by rw [World.putObj_size]; exact k.size, fun b hb hn => ?_, k.live⟩
      rw [World.putObj_heap_other (by omega)]; exact k.block b hb hn

theorem resA_nil {h : Log} {fn : Func} {ts : Tmps} {ι : Inj} {w : World} {tmps : Array Value} {v : AVal} {rs : List Nat} {d : Log} (H : WRel E ra base ι h w) (ht : RelL E ra ι ts tmps.toList) (hr : (resA P E fn ts).Runs h v d rs) : d = [] :=
  (resA_sound H ht hr).1

theorem wide_n {n : Nat} {ro : Option Nat} : (FW ro).depth.isSome = true → 1 ≤ n := fun h => by simp at h

theorem callB_sound (hR : ExecOK P E ra base R) (hS : SumsOK P E ra base S) {f : FuncId} {as : List AVal} {h : Log} {v : AVal} {d : Log} {r : List Nat} (hr : (callB P E S R f as).Runs h v d r) :
    HasBody P f ∧ CallOK P E ra base f as h v d := by
  unfold callB at hr
  split at hr
  · rename_i s hs
    exact ⟨(hS f s hs).1, (hS f s hs).2 _ _ _ _ _ hr⟩
  · split at hr
    · rename_i fn hf
      split at hr
      · rename_i c hc
        refine ⟨⟨fn, hf, by simp [hc]⟩, fun ι w as' H ha => ?_⟩
        rw [runs_bind] at hr
        obtain ⟨p, d₁, r₁, d₂, r₂, h1, h2, rfl, rfl⟩ := hr
        have hlen : as'.size = as.length := by rw [← Array.length_toList]; exact ha.length
        refine callsIn_of_wp_marks hf hc trivial ?_
        have hfit : Fit E ra base ι h w w.heap.size (as ++ List.replicate (fn.ntmps - as.length) .undef) { tmps := as' ++ Array.replicate (fn.ntmps - as'.size) undef, defers := [] } :=
          ⟨H, by simp only [Array.toList_append, Array.toList_replicate, hlen]; exact ha.append (.replicate (.undef _) _), .nil _ _ _ _, Nat.le_refl _⟩
        refine hR f [] none c _ ι h w w.heap.size _ p d₁ r₁ (.inr (by simp only [codeAt, hf]; exact hc)) hfit h1 _ fun ι' a' w' hfit' k => ?_
        obtain ⟨e, ts⟩ := p
        have fin : (resA P E fn ts).Runs (d₁ ++ h) v d₂ r₂ → LeavesInM (FW none) 0 P fn a'.tmps (fun e w'' => ∃ v' ι'', e = .returned v' ∧ Rel E ra ι'' v v' ∧ WRel E ra base ι'' (d₂ ++ d₁ ++ h) w'' ∧ Keeps ι h w ι'' (d₂ ++ d₁ ++ h) w'') a'.defers .returning w' := by
          intro h2
          have hd := resA_nil hfit'.rel hfit'.tmps h2
          subst hd
          exact leaves_marks H.le hfit'.tmps h2 a'.defers w' hfit'.defs hfit'.rel k
        cases e with
        | normal => exact fin h2
        | ret => exact fin h2
        | exit id => exact (h2 : False).elim
      · exact hr.elim
    · exact hr.elim

/-! ### Rounds -/

theorem setAll_rel {ι : Inj} : ∀ (ps : List Tmp) (vs : List AVal) (us : List Value) (ts : Tmps) (tmps : Array Value), RelL E ra ι vs us → RelL E ra ι ts tmps.toList →
    RelL E ra ι (setAllA ts ps vs) ((ps.zip us).foldl (fun tmps (x : Tmp × Value) => tmps.setIfInBounds x.1 x.2) tmps).toList
  | [], _, _, _, _, hv, ht => by cases hv <;> exact ht
  | p :: ps, _, _, ts, tmps, hv, ht => by
    cases hv with
    | nil => exact ht
    | cons hv hvs => exact setAll_rel ps _ _ _ _ hvs (by simpa using ht.set p hv)

/-- A loop's record, found. -/
theorem loop_at {ι : Inj} {h : Log} {w : World} (H : WRel E ra base ι h w) {id : Nat} {ts : Tmps} {ps : List Nat} {as bd : Code} {st : LoopState} {pe : Option Code} (hv : view h id = some (.loop ts ps as bd st pe)) {b o sz : Nat} (hb : ι id = some (b, o, sz)) :
    ∃ l, w.heap[b]? = some (.loop l) ∧ base ≤ b ∧ RelL E ra ι ts l.tmps.toList ∧ l.params.toList = ps ∧ l.assign = as ∧ l.body = bd ∧ l.state = st ∧ l.pending = pe := by
  obtain ⟨b', o', sz', l, h1, h2, h3, h4⟩ := H.own id _ hv
  rw [hb] at h1
  simp only [Option.some.injEq, Prod.mk.injEq] at h1
  obtain ⟨rfl, rfl, rfl⟩ := h1
  exact ⟨l, h3, h2, h4⟩

/-- It turns. -/
theorem loop_turn {ι : Inj} {h : Log} {w : World} (H : WRel E ra base ι h w) {id : Nat} {B : Blk} (hv : view h id = some B) {b o sz : Nat} (hb : ι id = some (b, o, sz)) {l : Loop} (hlt : b < w.heap.size) (hge : base ≤ b)
    {ts : Tmps} {ps : List Nat} {as bd : Code} {st : LoopState} {pe : Option Code} (h4 : RelL E ra ι ts l.tmps.toList ∧ l.params.toList = ps ∧ l.assign = as ∧ l.body = bd ∧ l.state = st ∧ l.pending = pe) :
    WRel E ra base ι ((id, some (.loop ts ps as bd st pe)) :: h) (w.putObj b (.loop l)) ∧ Keeps ι h w ι ((id, some (.loop ts ps as bd st pe)) :: h) (w.putObj b (.loop l)) :=
  H.turn hv hb (fun _ hk => World.putObj_heap_other hk) World.putObj_size rfl rfl rfl ⟨b, o, sz, l, hb, hge, World.putObj_heap_same hlt, h4⟩

/-- Yield's contract, in the world. -/
theorem yieldA_sound (hR : ExecOK P E ra base R) {ι : Inj} {h : Log} {w : World} (H : WRel E ra base ι h w) {id : Nat} {args : List AVal} {args' : Array Value} (ha : RelL E ra ι args args'.toList) {b o sz : Nat} (hb : ι id = some (b, o, sz))
    {v : AVal} {d : Log} {r : List Nat} (hr : (yieldA R id args).Runs h v d r) :
    ∃ (g : FuncId) (tmps : Array Value) (as bd : Code), (Instr.yield b args').run P w = .ok (.round b g tmps as bd) w ∧
      ∀ ro, RoundIn (FW ro) 0 P b g tmps as bd w fun e w' => ∃ v' ι', e = .returned v' ∧ Rel E ra ι' v v' ∧ WRel E ra base ι' (d ++ h) w' ∧ Keeps ι h w ι' (d ++ h) w' := by
  simp only [yieldA, AM.Runs] at hr
  obtain ⟨B, r', hv, rfl, hr⟩ := hr
  cases B with
  | segs _ => exact hr.elim
  | map _ => exact hr.elim
  | loop ts ps as bd st pe =>
    obtain ⟨hlen, hr⟩ := hr
    have hlen := Nat.eq_of_beq_eq_true hlen
    rw [runs_bind] at hr
    obtain ⟨⟨e, t₁⟩, d₁, r₁, d₂, r₂, h1, h2, rfl, rfl⟩ := hr
    obtain ⟨l, l1, l2, l3, l4, l5, l6, l7, l8⟩ := loop_at H hv hb
    have hs : args'.size = l.params.size := by rw [← Array.length_toList, ← Array.length_toList, l4, hlen]; exact ha.length
    refine ⟨_, _, _, _, run_yield l1 hs, fun ro => roundIn_of_wpIn trivial ?_⟩
    have htm : RelL E ra ι (setAllA ts ps args) ((l.params.zip args').foldl (fun tmps (t, a) => tmps.setIfInBounds t a) l.tmps).toList := by
      have := setAll_rel (E := E) (ra := ra) (ι := ι) ps args args'.toList ts l.tmps ha l3
      rw [← Array.foldl_toList, Array.toList_zip, l4]
      exact this
    rw [l5, l6]
    cases e with
    | exit _ => exact (h2 : False).elim
    | ret => exact (h2 : False).elim
    | normal =>
      simp only [beginA, busyA, AM.Runs] at h2
      obtain ⟨B, r₃, hv₂, rfl, h2⟩ := h2
      refine hR noF [] (some b) as _ ι h w 0 { tmps := _, defers := [] } _ d₁ r₁ (.inl rfl) ⟨H, htm, .nil _ _ _ _, Nat.zero_le _⟩ h1 _ fun ι₁ a₁ w₁ f₁ k₁ => ?_
      match B, h2 with
      | .loop ts₂ ps₂ as₂ bd₂ .ready pe₂, h2 =>
        obtain ⟨B', d₃, r₄, hv₃, rfl, rfl, h3⟩ := h2
        rw [runs_bind] at h3
        obtain ⟨⟨e₂, t₂⟩, d₄, r₅, d₅, r₆, h4, h5, rfl, rfl⟩ := h3
        obtain ⟨l', m1, m2, m3, m4, m5, m6, m7, m8⟩ := loop_at f₁.rel hv₂ (k₁.ext _ _ hb)
        refine ⟨_, run_beginRound m1 m7, ?_⟩
        have T := loop_turn f₁.rel hv₂ (k₁.ext _ _ hb) (l := { l' with state := .busy }) (lt_of_heap m1) m2 (ts := ts₂) (ps := ps₂) (as := as₂) (bd := bd₂) (st := .busy) (pe := pe₂) ⟨m3, m4, m5, m6, rfl, m8⟩
        refine hR noF [] (some b) bd _ ι₁ _ _ 0 a₁ _ d₄ r₅ (.inl rfl) (f₁.move T.1 T.2) h4 _ fun ι₂ a₂ w₂ f₂ k₂ => ?_
        simp only [endRoundA, AM.Runs] at h5
        obtain ⟨B₃, r₇, hv₄, rfl, h5⟩ := h5
        match B₃, h5 with
        | .loop ts₃ ps₃ as₃ bd₃ .busy pe₃, h5 =>
          obtain ⟨B₄, d₆, r₈, hv₅, rfl, rfl, rfl, rfl, rfl⟩ := h5
          have hb₂ := k₂.ext _ _ (k₁.ext _ _ hb)
          obtain ⟨l₂, n1, n2, n3, n4, n5, n6, n7, n8⟩ := loop_at f₂.rel hv₄ hb₂
          have fin : ∀ (jump : Option Code), ∃ v w', (Instr.endRound b jump).run P w₂ = .ok v w' ∧ v = .bool jump.isNone ∧
              WRel E ra base ι₂ ((id, some (.loop ts₃ ps₃ as₃ bd₃ (if jump.isNone then .ready else .done) jump)) :: (d₄ ++ (id, some (.loop ts₂ ps₂ as₂ bd₂ .busy pe₂)) :: (d₁ ++ h))) w' ∧
              Keeps ι h w ι₂ ((id, some (.loop ts₃ ps₃ as₃ bd₃ (if jump.isNone then .ready else .done) jump)) :: (d₄ ++ (id, some (.loop ts₂ ps₂ as₂ bd₂ .busy pe₂)) :: (d₁ ++ h))) w' := by
            intro jump
            have T₂ := loop_turn f₂.rel hv₄ hb₂ (l := { l₂ with state := if jump.isNone then .ready else .done, pending := jump }) (lt_of_heap n1) n2 (ts := ts₃) (ps := ps₃) (as := as₃) (bd := bd₃) (st := if jump.isNone then .ready else .done) (pe := jump) ⟨n3, n4, n5, n6, rfl, rfl⟩
            exact ⟨_, _, run_endRound jump n1, rfl, T₂.1, ((k₁.trans T.2).trans k₂).trans T₂.2⟩
          cases e₂ with
          | normal =>
            obtain ⟨v, w', g1, rfl, g3, g4⟩ := fin none
            exact ⟨_, w', g1, _, ι₂, rfl, .bool true, by simpa [AExit.jump] using g3, by simpa [AExit.jump] using g4⟩
          | exit i =>
            obtain ⟨v, w', g1, rfl, g3, g4⟩ := fin (some (.exit i))
            exact ⟨_, w', g1, _, ι₂, rfl, .bool false, by simpa [AExit.jump] using g3, by simpa [AExit.jump] using g4⟩
          | ret =>
            obtain ⟨v, w', g1, rfl, g3, g4⟩ := fin (some .ret)
            exact ⟨_, w', g1, _, ι₂, rfl, .bool false, by simpa [AExit.jump] using g3, by simpa [AExit.jump] using g4⟩

/-! ### An operation -/

theorem opA_sound (hR : ExecOK P E ra base R) (hS : SumsOK P E ra base S) (hX : ExtsOK P E ra X) (hN : NamesOK P) {ι : Inj} {h : Log} {w : World} {a : Act} (H : WRel E ra base ι h w) {ρ : Operand → AVal} (hρ : ∀ x, Rel E ra ι (ρ x) (a.eval x))
    {o : Oper} {v : AVal} {d : Log} {r : List Nat} (hr : (opA P E S X R o ρ).Runs h v d r) (ro : Option Nat) {K : Act → World → Prop} {Q : Exit → Act → World → Prop}
    (hK : ∀ ι' v' w', Rel E ra ι' v v' → WRel E ra base ι' (d ++ h) w' → Keeps ι h w ι' (d ++ h) w' → K (a.put o.dst v') w') : o.wpIn (FW ro) 0 P a w K Q := by
  have simple : (aop P E o.op ρ).Runs h v d r → (∀ c, o.op ≠ .defer c) → o.wpIn (FW ro) 0 P a w K Q := by
    intro hr hnd
    obtain ⟨w', ι', h1, h2, h3⟩ := aop_sound H hρ hr
    refine ⟨fun _ _ => trivial, ?_⟩
    rw [Oper.semAt_eq _ _ _ hnd]
    rcases h1 with ⟨v', h1, h4⟩ | ⟨h1, rfl⟩
    · rw [h1]; exact hK ι' v' w' h4 h2 h3
    · rw [h1]; exact hK ι' undef w' (.undef _) h2 h3
  unfold opA at hr
  split at hr
  · rename_i c hc
    have hnd : ∀ c, o.op ≠ .defer c := fun c' h => by rw [hc] at h; cases h
    split at hr
    · rename_i f hf
      refine ⟨fun _ _ => trivial, ?_⟩
      rw [Oper.semAt_eq _ _ _ hnd]
      have hargs : RelL E ra ι (c.args.toList.map ρ) (c.args.map a.eval).toList := by
        rw [Array.toList_map]; exact relL_map hρ _
      have hex : execOp a.eval o = (do let d ← Deferred.ofValue (a.eval f) (c.args.map a.eval); invoke d.target d.args) := by
        simp only [execOp, hc, resolve, hf]
      rw [hex]
      have hfr := hρ f
      split at hr
      · rename_i g cap hg
        rw [hg] at hfr
        generalize a.eval f = fv at hfr
        cases hfr with | fn hcap =>
        rename_i caps
        have hrun : Sem.run P (do let d ← Deferred.ofValue (.func (.func g) #[] caps.toArray) (c.args.map a.eval); invoke d.target d.args) w = (callFunc g (c.args.map a.eval ++ caps.toArray)).run P w := by
          simp [Deferred.ofValue, invoke]
        rw [hrun]
        have hall : RelL E ra ι (c.args.toList.map ρ ++ cap) (c.args.map a.eval ++ caps.toArray).toList := by
          rw [Array.toList_append]; exact hargs.append (by simpa using hcap)
        unfold callA at hr
        split at hr
        · rename_i x hx
          obtain ⟨rfl, h1⟩ := hX g x _ h v d r hx hr
          obtain ⟨v', h2, h3⟩ := h1 ι w _ hall
          rw [h2]
          exact hK ι v' w h3 H (.refl _ _ _)
        · obtain ⟨h1, h2⟩ := callB_sound hR hS hr
          rw [run_callFunc hN h1]
          refine ⟨wide_n, CallsIn.mono (R := fun e w' => ∃ v' ι', e = .returned v' ∧ Rel E ra ι' v v' ∧ WRel E ra base ι' (d ++ h) w' ∧ Keeps ι h w ι' (d ++ h) w') (h2 ι w _ H hall) ?_⟩
          rintro e w' ⟨v', ι', rfl, h3, h4, h5⟩
          exact hK ι' v' w' h3 h4 h5
      · rename_i id hg
        rw [hg] at hfr
        generalize a.eval f = fv at hfr
        cases hfr with | yld hb =>
        rename_i b oo sz
        obtain ⟨g, tmps, as, bd, h1, h2⟩ := yieldA_sound hR H hargs hb hr
        have hrun : Sem.run P (do let d ← Deferred.ofValue (.func (.yield b) #[] #[]) (c.args.map a.eval); invoke d.target d.args) w = (Instr.yield b (c.args.map a.eval)).run P w := by
          simp [Deferred.ofValue, invoke]
        rw [hrun, h1]
        refine ⟨wide_n, (h2 ro).mono ?_⟩
        rintro e w' ⟨v', ι', rfl, h3, h4, h5⟩
        exact hK ι' v' w' h3 h4 h5
      · exact hr.elim
    · exact simple hr hnd
    · exact hr.elim
  · rename_i hnc
    refine simple hr fun c hc => ?_
    rw [hc] at hr
    exact hr

end Go.Proofs.Ytcgebafffkpmfaa.Ab
