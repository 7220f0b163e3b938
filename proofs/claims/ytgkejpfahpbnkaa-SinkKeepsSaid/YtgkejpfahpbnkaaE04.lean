/- The engine. -/
import Derived.Test.YtgkejpfahpbnkaaE03
import Derived.RangeFuncRecord
import Derived.RangeFuncCalls
import Derived.OrdersIn
import Derived.Scope
import Derived.ProofKit
import Derived.Laws.Externs

namespace Go.Proofs.Ytgkejpfahpbnkaa.Ab
variable {P : Program} {E : Nat → Nat → Seg} {ra : Nat → Nat → Nat × Nat} {base : Nat} {S : Sums} {X : Exts} {R : Walk}
abbrev FW (ro : Option Nat) : Fence := { fn := fun _ => True, depth := none, alive := false, round := ro }
def kid : Code → Bool → Option Code
  | .seq a _, false => some a
  | .seq _ b, true => some b
  | .cond _ a _, false => some a
  | .cond _ _ b, true => some b
  | .block _ a, false => some a
  | .loop a, false => some a
  | .scope a, false => some a
  | _, _ => none
def codeAt (P : Program) (f : FuncId) : List Bool → Option Code
  | [] => match P.funcs[f]? with
    | some fn => fn.body
    | none => none
  | b :: p => match codeAt P f p with
    | some c => kid c b
    | none => none
def At (P : Program) (f : FuncId) (p : List Bool) (c : Code) : Prop := f = noF ∨ codeAt P f p = some c
theorem At.kid {f : FuncId} {p : List Bool} {c c' : Code} (h : At P f p c) {b : Bool} (hk : Ab.kid c b = some c') : At P f (b :: p) c' :=
  h.imp id fun e => by simp only [codeAt, e]; exact hk
def ExecOK (P : Program) (E : Nat → Nat → Seg) (ra : Nat → Nat → Nat × Nat) (base : Nat) (R : Walk) : Prop :=
  ∀ (f : FuncId) (pl : List Bool) (ro : Option Nat) (c : Code) (ts : Tmps) (ι : Inj) (h : Log) (w : World) (nb : Nat) (a : Act) (p : AExit × Tmps) (d : Log) (r : List Nat),
    At P f pl c → Fit E ra base ι h w nb ts a → (R f pl ro.isSome c ts).Runs h p d r → ∀ Q : Exit → Act → World → Prop,
    (∀ ι' a' w', Fit E ra base ι' (d ++ h) w' nb p.2 a' → Keeps ι h w ι' (d ++ h) w' → Q p.1.toExit a' w') → c.wpIn (FW ro) 0 P Q a w
def CallOK (P : Program) (E : Nat → Nat → Seg) (ra : Nat → Nat → Nat × Nat) (base : Nat) (f : FuncId) (as : List AVal) (h : Log) (v : AVal) (d : Log) : Prop :=
  ∀ (ι : Inj) (w : World) (as' : Array Value), WRel E ra base ι h w → RelL E ra ι as as'.toList →
    CallsIn (FW none) 0 P f as' w fun e w' => ∃ v' ι', e = .returned v' ∧ Rel E ra ι' v v' ∧ WRel E ra base ι' (d ++ h) w' ∧ Keeps ι h w ι' (d ++ h) w'
def HasBody (P : Program) (f : FuncId) : Prop := ∃ fn, P.funcs[f]? = some fn ∧ fn.body.isSome = true
def SumsOK (P : Program) (E : Nat → Nat → Seg) (ra : Nat → Nat → Nat × Nat) (base : Nat) (S : Sums) : Prop :=
  ∀ f s, S f = some s → HasBody P f ∧ ∀ as h v d r, (s as).Runs h v d r → CallOK P E ra base f as h v d
def ExtsOK (P : Program) (E : Nat → Nat → Seg) (ra : Nat → Nat → Nat × Nat) (X : Exts) : Prop :=
  ∀ f x as h v d r, X f = some x → (x as).Runs h v d r → d = [] ∧ ∀ (ι : Inj) (w : World) (as' : Array Value), RelL E ra ι as as'.toList → ∃ v', (callFunc f as').run P w = .ok (.value v') w ∧ Rel E ra ι v v'
def LoopsOK (P : Program) (E : Nat → Nat → Seg) (ra : Nat → Nat → Nat × Nat) (base : Nat) (L : Loops) : Prop :=
  ∀ f pl m, L f pl = some m → f ≠ noF ∧ ∀ c, codeAt P f pl = some (.loop c) → ∀ (ts : Tmps) (ι : Inj) (h : Log) (w : World) (nb : Nat) (a : Act) (p : AExit × Tmps) (d : Log) (r : List Nat),
    Fit E ra base ι h w nb ts a → (m ts).Runs h p d r → ∀ Q : Exit → Act → World → Prop,
    (∀ ι' a' w', Fit E ra base ι' (d ++ h) w' nb p.2 a' → Keeps ι h w ι' (d ++ h) w' → Q p.1.toExit a' w') → (Code.loop c).wpIn (FW none) 0 P Q a w
def NamesOK (P : Program) : Prop := ∀ (f : FuncId) (fn : Func), P.funcs[f]? = some fn → (fn.name == "runtime.NumGoroutine") = false
theorem run_callFunc {f : FuncId} (hn : NamesOK P) (hb : HasBody P f) (as : Array Value) (w : World) : (callFunc f as).run P w = .ok (.enter f as) w := by
  obtain ⟨fn, h1, h2⟩ := hb
  have h3 : fn.name ≠ "runtime.NumGoroutine" := by simpa using hn f fn h1
  have h4 : fn.body ≠ none := by cases hh : fn.body <;> simp_all
  simp [callFunc, program, Sem.run, h1, h3, h4]
theorem leaves_marks {ι ι' : Inj} {h h' : Log} {w : World} {fn : Func} {ts : Tmps} {tmps : Array Value} {v : AVal} {rs : List Nat} {d : Log}
    (hle : ∀ b, Ro base b → b < w.heap.size) (ht : RelL E ra ι' ts tmps.toList) (hr : (resA P E fn ts).Runs h' v d rs) : ∀ (ds : List Deferred) (w' : World),
    DefOK ι' h' w' w.heap.size ds → WRel E ra base ι' h' w' → Keeps ι h w ι' h' w' →
    LeavesInM (FW none) 0 P fn tmps (fun e w' => ∃ v' ι', e = .returned v' ∧ Rel E ra ι' v v' ∧ WRel E ra base ι' h' w' ∧ Keeps ι h w ι' h' w') ds .returning w' := by
  intro ds
  induction ds with
  | nil =>
    intro w' _ H k
    obtain ⟨_, v', h1, h2⟩ := resA_sound H ht hr
    exact ⟨v', h1, v', ι', rfl, h2, H, k⟩
  | cons m ds ih =>
    intro w' hd H k
    obtain ⟨r, h1, h2, h3, h4⟩ := hd.1 m (by simp)
    refine ⟨by simp, .inl ⟨r, _, h1, run_takeDeferred h3, ih _ ⟨fun m' hm' => ?_, (List.pairwise_cons.1 hd.2).2⟩ ?_ ?_⟩⟩
    · obtain ⟨r', g1, g2, g3, g4⟩ := hd.1 m' (by simp [hm'])
      refine ⟨r', g1, g2, ?_, g4⟩
      have hne : r' ≠ r := fun e => (List.pairwise_cons.1 hd.2).1 m' hm' (by rw [h1, g1, e])
      rw [World.putObj_heap_other hne]; exact g3
    · refine ⟨H.dom, fun id B hB => (H.own id B hB).mono (.refl _) fun b o sz hb => World.putObj_heap_other fun e => h4 ⟨id, B, o, sz, hB, e ▸ hb⟩, H.inj, by rw [World.putObj_size]; exact H.le, H.roLt, H.roWF,
        H.roKeep (.refl _) fun b hb => World.putObj_heap_other fun e => ?_⟩
      have := hle b hb; omega
    · refine ⟨k.ext, k.os, k.tape, k.output, by rw [World.putObj_size]; exact k.size, fun b hb hn => ?_, k.live⟩
      rw [World.putObj_heap_other (by omega)]; exact k.block b hb hn
theorem resA_nil {h : Log} {fn : Func} {ts : Tmps} {ι : Inj} {w : World} {tmps : Array Value} {v : AVal} {rs : List Nat} {d : Log} (H : WRel E ra base ι h w) (ht : RelL E ra ι ts tmps.toList) (hr : (resA P E fn ts).Runs h v d rs) : d = [] :=
  (resA_sound H ht hr).1
theorem wide_n {n : Nat} {ro : Option Nat} : (FW ro).depth.isSome = true → 1 ≤ n := fun h => by simp at h
theorem callB_sound (hR : ExecOK P E ra base R) (hS : SumsOK P E ra base S) {f : FuncId} {as : List AVal} {h : Log} {v : AVal} {d : Log} {r : List Nat} (hr : (callB P E S R f as).Runs h v d r) :
    HasBody P f ∧ CallOK P E ra base f as h v d := by
  unfold callB at hr
  split at hr
  · rename_i s hs
    exact ⟨(hS f s hs).1, (hS f s hs).2 _ _ _ _ _ hr⟩
  · split at hr
    · rename_i fn hf
      split at hr
      · rename_i c hc
        refine ⟨⟨fn, hf, by simp [hc]⟩, fun ι w as' H ha => ?_⟩
        rw [runs_bind] at hr
        obtain ⟨p, d₁, r₁, d₂, r₂, h1, h2, rfl, rfl⟩ := hr
        have hlen : as'.size = as.length := by rw [← Array.length_toList]; exact ha.length
        refine callsIn_of_wp_marks hf hc trivial ?_
        have hfit : Fit E ra base ι h w w.heap.size (as ++ List.replicate (fn.ntmps - as.length) .undef) { tmps := as' ++ Array.replicate (fn.ntmps - as'.size) undef, defers := [] } :=
          ⟨H, by simp only [Array.toList_append, Array.toList_replicate, hlen]; exact ha.append (.replicate (.undef _) _), .nil _ _ _ _, Nat.le_refl _⟩
        refine hR f [] none c _ ι h w w.heap.size _ p d₁ r₁ (.inr (by simp only [codeAt, hf]; exact hc)) hfit h1 _ fun ι' a' w' hfit' k => ?_
        obtain ⟨e, ts⟩ := p
        have fin : (resA P E fn ts).Runs (d₁ ++ h) v d₂ r₂ → LeavesInM (FW none) 0 P fn a'.tmps (fun e w'' => ∃ v' ι'', e = .returned v' ∧ Rel E ra ι'' v v' ∧ WRel E ra base ι'' (d₂ ++ d₁ ++ h) w'' ∧ Keeps ι h w ι'' (d₂ ++ d₁ ++ h) w'') a'.defers .returning w' := by
          intro h2
          have hd := resA_nil hfit'.rel hfit'.tmps h2
          subst hd
          exact leaves_marks H.le hfit'.tmps h2 a'.defers w' hfit'.defs hfit'.rel k
        cases e with
        | normal => exact fin h2
        | ret => exact fin h2
        | exit id => exact (h2 : False).elim
      · exact hr.elim
    · exact hr.elim
theorem setAll_rel {ι : Inj} : ∀ (ps : List Tmp) (vs : List AVal) (us : List Value) (ts : Tmps) (tmps : Array Value), RelL E ra ι vs us → RelL E ra ι ts tmps.toList →
    RelL E ra ι (setAllA ts ps vs) ((ps.zip us).foldl (fun tmps (x : Tmp × Value) => tmps.setIfInBounds x.1 x.2) tmps).toList
  | [], _, _, _, _, hv, ht => by cases hv <;> exact ht
  | p :: ps, _, _, ts, tmps, hv, ht => by
    cases hv with
    | nil => exact ht
    | cons hv hvs => exact setAll_rel ps _ _ _ _ hvs (by simpa using ht.set p hv)
theorem loop_at {ι : Inj} {h : Log} {w : World} (H : WRel E ra base ι h w) {id : Nat} {ts : Tmps} {ps : List Nat} {as bd : Code} {st : LoopState} {pe : Option Code} (hv : view h id = some (.loop ts ps as bd st pe)) {b o sz : Nat} (hb : ι id = some (b, o, sz)) :
    ∃ l, w.heap[b]? = some (.loop l) ∧ ¬ Ro base b ∧ RelL E ra ι ts l.tmps.toList ∧ l.params.toList = ps ∧ l.assign = as ∧ l.body = bd ∧ l.state = st ∧ l.pending = pe := by
  obtain ⟨b', o', sz', l, h1, h2, h3, h4⟩ := H.own id _ hv
  rw [hb] at h1
  simp only [Option.some.injEq, Prod.mk.injEq] at h1
  obtain ⟨rfl, rfl, rfl⟩ := h1
  exact ⟨l, h3, h2, h4⟩
theorem loop_turn {ι : Inj} {h : Log} {w : World} (H : WRel E ra base ι h w) {id : Nat} {B : Blk} (hv : view h id = some B) {b o sz : Nat} (hb : ι id = some (b, o, sz)) {l : Loop} (hlt : b < w.heap.size) (hge : ¬ Ro base b)
    {ts : Tmps} {ps : List Nat} {as bd : Code} {st : LoopState} {pe : Option Code} (h4 : RelL E ra ι ts l.tmps.toList ∧ l.params.toList = ps ∧ l.assign = as ∧ l.body = bd ∧ l.state = st ∧ l.pending = pe) :
    WRel E ra base ι ((id, some (.loop ts ps as bd st pe)) :: h) (w.putObj b (.loop l)) ∧ Keeps ι h w ι ((id, some (.loop ts ps as bd st pe)) :: h) (w.putObj b (.loop l)) :=
  H.turn hv hb (fun _ hk => World.putObj_heap_other hk) World.putObj_size rfl rfl rfl ⟨b, o, sz, l, hb, hge, World.putObj_heap_same hlt, h4⟩
theorem yieldA_sound (hR : ExecOK P E ra base R) {ι : Inj} {h : Log} {w : World} (H : WRel E ra base ι h w) {id : Nat} {args : List AVal} {args' : Array Value} (ha : RelL E ra ι args args'.toList) {b o sz : Nat} (hb : ι id = some (b, o, sz))
    {v : AVal} {d : Log} {r : List Nat} (hr : (yieldA R id args).Runs h v d r) :
    ∃ (g : FuncId) (tmps : Array Value) (as bd : Code), (Instr.yield b args').run P w = .ok (.round b g tmps as bd) w ∧
      ∀ ro, RoundIn (FW ro) 0 P b g tmps as bd w fun e w' => ∃ v' ι', e = .returned v' ∧ Rel E ra ι' v v' ∧ WRel E ra base ι' (d ++ h) w' ∧ Keeps ι h w ι' (d ++ h) w' := by
  simp only [yieldA, AM.Runs] at hr
  obtain ⟨B, r', hv, rfl, hr⟩ := hr
  cases B with
  | segs _ => exact hr.elim
  | map _ => exact hr.elim
  | loop ts ps as bd st pe =>
    obtain ⟨hlen, hr⟩ := hr
    have hlen := Nat.eq_of_beq_eq_true hlen
    rw [runs_bind] at hr
    obtain ⟨⟨e, t₁⟩, d₁, r₁, d₂, r₂, h1, h2, rfl, rfl⟩ := hr
    obtain ⟨l, l1, l2, l3, l4, l5, l6, l7, l8⟩ := loop_at H hv hb
    have hs : args'.size = l.params.size := by rw [← Array.length_toList, ← Array.length_toList, l4, hlen]; exact ha.length
    refine ⟨_, _, _, _, run_yield l1 hs, fun ro => roundIn_of_wpIn trivial ?_⟩
    have htm : RelL E ra ι (setAllA ts ps args) ((l.params.zip args').foldl (fun tmps (t, a) => tmps.setIfInBounds t a) l.tmps).toList := by
      have := setAll_rel (E := E) (ra := ra) (ι := ι) ps args args'.toList ts l.tmps ha l3
      rw [← Array.foldl_toList, Array.toList_zip, l4]
      exact this
    rw [l5, l6]
    cases e with
    | exit _ => exact (h2 : False).elim
    | ret => exact (h2 : False).elim
    | normal =>
      simp only [beginA, busyA, AM.Runs] at h2
      obtain ⟨B, r₃, hv₂, rfl, h2⟩ := h2
      refine hR noF [] (some b) as _ ι h w 0 { tmps := _, defers := [] } _ d₁ r₁ (.inl rfl) ⟨H, htm, .nil _ _ _ _, Nat.zero_le _⟩ h1 _ fun ι₁ a₁ w₁ f₁ k₁ => ?_
      match B, h2 with
      | .loop ts₂ ps₂ as₂ bd₂ .ready pe₂, h2 =>
        obtain ⟨B', d₃, r₄, hv₃, rfl, rfl, h3⟩ := h2
        rw [runs_bind] at h3
        obtain ⟨⟨e₂, t₂⟩, d₄, r₅, d₅, r₆, h4, h5, rfl, rfl⟩ := h3
        obtain ⟨l', m1, m2, m3, m4, m5, m6, m7, m8⟩ := loop_at f₁.rel hv₂ (k₁.ext _ _ hb)
        refine ⟨_, run_beginRound m1 m7, ?_⟩
        have T := loop_turn f₁.rel hv₂ (k₁.ext _ _ hb) (l := { l' with state := .busy }) (lt_of_heap m1) m2 (ts := ts₂) (ps := ps₂) (as := as₂) (bd := bd₂) (st := .busy) (pe := pe₂) ⟨m3, m4, m5, m6, rfl, m8⟩
        refine hR noF [] (some b) bd _ ι₁ _ _ 0 a₁ _ d₄ r₅ (.inl rfl) (f₁.move T.1 T.2) h4 _ fun ι₂ a₂ w₂ f₂ k₂ => ?_
        simp only [endRoundA, AM.Runs] at h5
        obtain ⟨B₃, r₇, hv₄, rfl, h5⟩ := h5
        match B₃, h5 with
        | .loop ts₃ ps₃ as₃ bd₃ .busy pe₃, h5 =>
          obtain ⟨B₄, d₆, r₈, hv₅, rfl, rfl, rfl, rfl, rfl⟩ := h5
          have hb₂ := k₂.ext _ _ (k₁.ext _ _ hb)
          obtain ⟨l₂, n1, n2, n3, n4, n5, n6, n7, n8⟩ := loop_at f₂.rel hv₄ hb₂
          have fin : ∀ (jump : Option Code), ∃ v w', (Instr.endRound b jump).run P w₂ = .ok v w' ∧ v = .bool jump.isNone ∧
              WRel E ra base ι₂ ((id, some (.loop ts₃ ps₃ as₃ bd₃ (if jump.isNone then .ready else .done) jump)) :: (d₄ ++ (id, some (.loop ts₂ ps₂ as₂ bd₂ .busy pe₂)) :: (d₁ ++ h))) w' ∧
              Keeps ι h w ι₂ ((id, some (.loop ts₃ ps₃ as₃ bd₃ (if jump.isNone then .ready else .done) jump)) :: (d₄ ++ (id, some (.loop ts₂ ps₂ as₂ bd₂ .busy pe₂)) :: (d₁ ++ h))) w' := by
            intro jump
            have T₂ := loop_turn f₂.rel hv₄ hb₂ (l := { l₂ with state := if jump.isNone then .ready else .done, pending := jump }) (lt_of_heap n1) n2 (ts := ts₃) (ps := ps₃) (as := as₃) (bd := bd₃) (st := if jump.isNone then .ready else .done) (pe := jump) ⟨n3, n4, n5, n6, rfl, rfl⟩
            exact ⟨_, _, run_endRound jump n1, rfl, T₂.1, ((k₁.trans T.2).trans k₂).trans T₂.2⟩
          cases e₂ with
          | normal =>
            obtain ⟨v, w', g1, rfl, g3, g4⟩ := fin none
            exact ⟨_, w', g1, _, ι₂, rfl, .bool true, by simpa [AExit.jump] using g3, by simpa [AExit.jump] using g4⟩
          | exit i =>
            obtain ⟨v, w', g1, rfl, g3, g4⟩ := fin (some (.exit i))
            exact ⟨_, w', g1, _, ι₂, rfl, .bool false, by simpa [AExit.jump] using g3, by simpa [AExit.jump] using g4⟩
          | ret =>
            obtain ⟨v, w', g1, rfl, g3, g4⟩ := fin (some .ret)
            exact ⟨_, w', g1, _, ι₂, rfl, .bool false, by simpa [AExit.jump] using g3, by simpa [AExit.jump] using g4⟩
theorem opA_sound (hR : ExecOK P E ra base R) (hS : SumsOK P E ra base S) (hX : ExtsOK P E ra X) (hN : NamesOK P) {ι : Inj} {h : Log} {w : World} {a : Act} (H : WRel E ra base ι h w) {ρ : Operand → AVal} (hρ : ∀ x, Rel E ra ι (ρ x) (a.eval x))
    {o : Oper} {v : AVal} {d : Log} {r : List Nat} (hr : (opA P E S X R o ρ).Runs h v d r) (ro : Option Nat) {K : Act → World → Prop} {Q : Exit → Act → World → Prop}
    (hK : ∀ ι' v' w', Rel E ra ι' v v' → WRel E ra base ι' (d ++ h) w' → Keeps ι h w ι' (d ++ h) w' → K (a.put o.dst v') w') : o.wpIn (FW ro) 0 P a w K Q := by
  have simple : (aop P E o.op ρ).Runs h v d r → (∀ c, o.op ≠ .defer c) → o.wpIn (FW ro) 0 P a w K Q := by
    intro hr hnd
    obtain ⟨w', ι', h1, h2, h3⟩ := aop_sound H hρ hr
    refine ⟨fun _ _ => trivial, ?_⟩
    rw [Oper.semAt_eq _ _ _ hnd]
    rcases h1 with ⟨v', h1, h4⟩ | ⟨h1, rfl⟩
    · rw [h1]; exact hK ι' v' w' h4 h2 h3
    · rw [h1]; exact hK ι' undef w' (.undef _) h2 h3
  unfold opA at hr
  split at hr
  · rename_i c hc
    have hnd : ∀ c, o.op ≠ .defer c := fun c' h => by rw [hc] at h; cases h
    split at hr
    · rename_i f hf
      refine ⟨fun _ _ => trivial, ?_⟩
      rw [Oper.semAt_eq _ _ _ hnd]
      have hargs : RelL E ra ι (c.args.toList.map ρ) (c.args.map a.eval).toList := by
        rw [Array.toList_map]; exact relL_map hρ _
      have hex : execOp a.eval o = (do let d ← Deferred.ofValue (a.eval f) (c.args.map a.eval); invoke d.target d.args) := by
        simp only [execOp, hc, resolve, hf]
      rw [hex]
      have hfr := hρ f
      split at hr
      · rename_i g cap hg
        rw [hg] at hfr
        generalize a.eval f = fv at hfr
        cases hfr with | fn hcap =>
        rename_i caps
        have hrun : Sem.run P (do let d ← Deferred.ofValue (.func (.func g) #[] caps.toArray) (c.args.map a.eval); invoke d.target d.args) w = (callFunc g (c.args.map a.eval ++ caps.toArray)).run P w := by
          simp [Deferred.ofValue, invoke]
        rw [hrun]
        have hall : RelL E ra ι (c.args.toList.map ρ ++ cap) (c.args.map a.eval ++ caps.toArray).toList := by
          rw [Array.toList_append]; exact hargs.append (by simpa using hcap)
        unfold callA at hr
        split at hr
        · rename_i x hx
          obtain ⟨rfl, h1⟩ := hX g x _ h v d r hx hr
          obtain ⟨v', h2, h3⟩ := h1 ι w _ hall
          rw [h2]
          exact hK ι v' w h3 H (.refl _ _ _)
        · obtain ⟨h1, h2⟩ := callB_sound hR hS hr
          rw [run_callFunc hN h1]
          refine ⟨wide_n, CallsIn.mono (R := fun e w' => ∃ v' ι', e = .returned v' ∧ Rel E ra ι' v v' ∧ WRel E ra base ι' (d ++ h) w' ∧ Keeps ι h w ι' (d ++ h) w') (h2 ι w _ H hall) ?_⟩
          rintro e w' ⟨v', ι', rfl, h3, h4, h5⟩
          exact hK ι' v' w' h3 h4 h5
      · rename_i id hg
        rw [hg] at hfr
        generalize a.eval f = fv at hfr
        cases hfr with | yld hb =>
        rename_i b oo sz
        obtain ⟨g, tmps, as, bd, h1, h2⟩ := yieldA_sound hR H hargs hb hr
        have hrun : Sem.run P (do let d ← Deferred.ofValue (.func (.yield b) #[] #[]) (c.args.map a.eval); invoke d.target d.args) w = (Instr.yield b (c.args.map a.eval)).run P w := by
          simp [Deferred.ofValue, invoke]
        rw [hrun, h1]
        refine ⟨wide_n, (h2 ro).mono ?_⟩
        rintro e w' ⟨v', ι', rfl, h3, h4, h5⟩
        exact hK ι' v' w' h3 h4 h5
      · exact hr.elim
    · exact simple hr hnd
    · exact hr.elim
  · rename_i hnc
    refine simple hr fun c hc => ?_
    rw [hc] at hr
    exact hr
end Go.Proofs.Ytgkejpfahpbnkaa.Ab

namespace Go.Proofs.Ytgkejpfahpbnkaa.Ab
variable {P : Program} {E : Nat → Nat → Seg} {ra : Nat → Nat → Nat × Nat} {base : Nat} {S : Sums} {X : Exts} {R : Walk}
def wantedA (all : List Oper) (o : Oper) (ts : Tmps) : Option Bool :=
  match o.guard with
  | none => some true
  | some (j, want) => match all[j]? with
    | some oj => match oj.dst with
      | some d => match ts.getD d .undef with
        | .bool b => some (b == want)
        | .tup [] => some false
        | _ => none
      | none => none
    | none => none
section
variable (P E S X R)
def StepR (all : List Oper) (o : Oper) (ts : Tmps) (h : Log) (v : AVal) (d : Log) (r : List Nat) : Prop :=
  (wantedA all o ts = some true ∧ (opA P E S X R o (evalA ts)).Runs h v d r) ∨ (wantedA all o ts = some false ∧ v = .tup [] ∧ d = [] ∧ r = [])
end
theorem set_getD : ∀ (ts : Tmps) (d : Nat) (b : Bool), ts.getD d .undef = .bool b → ts.set d (.bool b) = ts
  | [], _, _, h => by simp at h
  | x :: ts, 0, b, h => by simp at h; simp [h]
  | x :: ts, d + 1, b, h => by simpa using set_getD ts d b (by simpa using h)
theorem gstep_runs {all : List Oper} {o : Oper} {ts ts' : Tmps} {h : Log} {d : Log} {r : List Nat} (hr : (gstepA P E S X R all o ts).Runs h ts' d r) :
    ∃ v, ts' = putA ts o.dst v ∧ StepR P E S X R all o ts h v d r := by
  have fin : ((opA P E S X R o (evalA ts)).bind fun v => .pure (putA ts o.dst v)).Runs h ts' d r → wantedA all o ts = some true → ∃ v, ts' = putA ts o.dst v ∧ StepR P E S X R all o ts h v d r := by
    intro hr hw
    rw [runs_bind] at hr
    obtain ⟨v, d₁, r₁, d₂, r₂, h1, ⟨rfl, rfl, rfl⟩, rfl, rfl⟩ := hr
    exact ⟨v, rfl, .inl ⟨hw, h1⟩⟩
  have fin2 : (AM.pure (putA ts o.dst (.tup []))).Runs h ts' d r → wantedA all o ts = some false → ∃ v, ts' = putA ts o.dst v ∧ StepR P E S X R all o ts h v d r := by
    rintro ⟨rfl, rfl, rfl⟩ hw
    exact ⟨.tup [], rfl, .inr ⟨hw, rfl, rfl, rfl⟩⟩
  unfold gstepA at hr
  split at hr
  · rename_i hg
    exact fin hr (by simp [wantedA, hg])
  · rename_i j want hg
    split at hr
    · rename_i oj hj
      split at hr
      · rename_i dd hdd
        split at hr
        · rename_i b hb
          have hset := set_getD ts dd b hb
          have hw : wantedA all o ts = some (b == want) := by simp only [wantedA, hg, hj, hdd, hb]
          cases b <;> cases want <;> simp only [AM.Runs, hset] at hr
          · exact fin hr hw
          · exact fin2 hr hw
          · exact fin2 hr hw
          · exact fin hr hw
        · rename_i hb
          exact fin2 hr (by simp only [wantedA, hg, hj, hdd, hb])
        · exact hr.elim
      · exact hr.elim
    · exact hr.elim
theorem wanted_sound {ι : Inj} {ts : Tmps} {tmps : Array Value} (ht : RelL E ra ι ts tmps.toList) {ops : Array Oper} {o : Oper} {x : Bool} (h : wantedA ops.toList o ts = some x) : Region.wanted o (yielded ops tmps) = x := by
  unfold wantedA at h
  unfold Region.wanted
  split at h
  · rename_i hg
    simp only [Option.some.injEq] at h
    simp [hg, h]
  · rename_i j want hg
    split at h
    · rename_i oj hj
      split at h
      · rename_i d hd
        split at h
        · rename_i b hb
          simp only [Option.some.injEq] at h
          have hget : ts[d]? = some (.bool b) := by
            rw [List.getD_eq_getElem?_getD] at hb
            cases hh : ts[d]? with
            | none => simp [hh] at hb
            | some y => simp [hh] at hb; rw [hb]
          obtain ⟨y, hy, hry⟩ := ht.get hget
          cases hry
          have hy' : tmps[d]? = some (.bool b) := by simpa using hy
          have hj' : ops[j]? = some oj := by simpa using hj
          have : yielded ops tmps j = some b := by simp [yielded, hj', hd, hy']
          rw [hg]
          simp only [this]
          rw [← h]
          cases b <;> cases want <;> rfl
        · rename_i hb
          simp only [Option.some.injEq] at h
          have hget : ts[d]? = some (.tup []) := by
            rw [List.getD_eq_getElem?_getD] at hb
            cases hh : ts[d]? with
            | none => simp [hh] at hb
            | some y => simp [hh] at hb; rw [hb]
          obtain ⟨y, hy, hry⟩ := ht.get hget
          cases hry with
          | tup hl =>
            have hy' : tmps[d]? = some (.tuple #[]) := by cases hl; simpa using hy
            have hj' : ops[j]? = some oj := by simpa using hj
            have : yielded ops tmps j = none := by simp [yielded, hj', hd, hy']
            rw [hg]
            simp only [this]
            rw [← h]
            cases want <;> rfl
        · cases h
      · cases h
    · cases h
theorem step_sound (hR : ExecOK P E ra base R) (hS : SumsOK P E ra base S) (hX : ExtsOK P E ra X) (hN : NamesOK P) {ι : Inj} {h : Log} {w : World} {nb : Nat} {ts : Tmps} {a : Act} (hf : Fit E ra base ι h w nb ts a) {ops : Array Oper} {i : Nat} {o : Oper} (ho : ops[i]? = some o)
    {v : AVal} {d : Log} {r : List Nat} (hs : StepR P E S X R ops.toList o ts h v d r) (ro : Option Nat) {K : Act → World → Prop} {Q : Exit → Act → World → Prop}
    (hK : ∀ ι' a' w', Fit E ra base ι' (d ++ h) w' nb (putA ts o.dst v) a' → Keeps ι h w ι' (d ++ h) w' → K a' w') : wpOpIn (FW ro) 0 P ops Q i K a w := by
  unfold wpOpIn
  simp only [ho]
  rcases hs with ⟨hw, hr⟩ | ⟨hw, rfl, rfl, rfl⟩
  · rw [if_pos (wanted_sound hf.tmps hw)]
    exact opA_sound hR hS hX hN hf.rel (evalA_sound hf.tmps) hr ro fun ι' v' w' h1 h2 h3 => hK ι' _ w' (hf.put h2 h3 _ h1) h3
  · rw [if_neg (by rw [wanted_sound hf.tmps hw]; simp)]
    exact ⟨fun _ _ => trivial, hK ι _ w (hf.put hf.rel (.refl _ _ _) _ (.tup .nil)) (.refl _ _ _)⟩
theorem opsA_sound (hR : ExecOK P E ra base R) (hS : SumsOK P E ra base S) (hX : ExtsOK P E ra X) (hN : NamesOK P) {ops : Array Oper} (ro : Option Nat) {Q : Exit → Act → World → Prop} : ∀ (l : List Oper) (i : Nat), ops.toList.drop i = l → ∀ {ι : Inj} {h : Log} {w : World} {nb : Nat} {ts : Tmps} {a : Act}, Fit E ra base ι h w nb ts a →
    ∀ {p : AExit × Tmps} {d : Log} {r : List Nat}, (opsA P E S X R ops.toList l ts).Runs h p d r →
    (∀ ι' a' w', Fit E ra base ι' (d ++ h) w' nb p.2 a' → Keeps ι h w ι' (d ++ h) w' → Q p.1.toExit a' w') → wpOpsIn (FW ro) 0 P ops Q (List.range' i l.length) a w := by
  intro l
  induction l with
  | nil =>
    rintro i _ ι h w nb ts a hf p d r ⟨rfl, rfl, rfl⟩ hQ
    exact hQ ι a w hf (.refl _ _ _)
  | cons o l ih =>
    intro i hd ι h w nb ts a hf p d r hr hQ
    simp only [opsA, runs_bind] at hr
    obtain ⟨ts', d₁, r₁, d₂, r₂, h1, h2, rfl, rfl⟩ := hr
    obtain ⟨v, rfl, hs⟩ := gstep_runs h1
    have ho : ops[i]? = some o := by
      have : ops.toList[i]? = some o := by
        rw [← List.head?_drop, hd]; rfl
      simpa using this
    rw [List.length_cons, List.range'_succ, wpOpsIn_cons]
    refine step_sound hR hS hX hN hf ho hs ro fun ι' a' w' f' k' => ?_
    refine ih (i + 1) (by rw [← List.drop_drop, hd]; rfl) f' h2 fun ι₂ a₂ w₂ f₂ k₂ => ?_
    rw [List.append_assoc] at hQ
    exact hQ ι₂ a₂ w₂ f₂ (k'.trans k₂)
def Eqv (h h' : Log) : Prop := (∀ i, view h' i = view h i) ∧ ∀ i, i ∈ ids h' ↔ i ∈ ids h
theorem Eqv.refl (h : Log) : Eqv h h := ⟨fun _ => rfl, fun _ => Iff.rfl⟩
theorem Eqv.symm {h h' : Log} (e : Eqv h h') : Eqv h' h := ⟨fun i => (e.1 i).symm, fun i => (e.2 i).symm⟩
theorem Eqv.trans {a b c : Log} (x : Eqv a b) (y : Eqv b c) : Eqv a c := ⟨fun i => (y.1 i).trans (x.1 i), fun i => (y.2 i).trans (x.2 i)⟩
theorem Eqv.app {h h' : Log} (e : Eqv h h') (d : Log) : Eqv (d ++ h) (d ++ h') :=
  ⟨fun i => by rw [view_append, view_append, e.1 i], fun i => by simp only [ids, List.map_append, List.mem_append]; exact or_congr Iff.rfl (e.2 i)⟩
theorem Eqv.comm {x y : Log} (h : Log) (hd : ∀ i ∈ ids y, i ∉ ids x) : Eqv (y ++ (x ++ h)) (x ++ (y ++ h)) := by
  refine ⟨fun i => ?_, fun i => ?_⟩
  · simp only [view_append]
    by_cases hx : i ∈ ids x <;> by_cases hy : i ∈ ids y <;> simp [hx, hy]
    exact absurd hx (hd i hy)
  · simp only [ids, List.map_append, List.mem_append]
    constructor
    · rintro (h | h | h) <;> simp [h]
    · rintro (h | h | h) <;> simp [h]
theorem runs_eqv {α : Type} {m : AM α} {h h' : Log} (e : Eqv h h') {a : α} {d : Log} {r : List Nat} (hr : m.Runs h a d r) : m.Runs h' a d r :=
  runs_local m h h' a d r hr (fun i _ => e.1 i) (fun i _ hn hm => hn ((e.2 i).1 hm))
theorem Live.eqv {ι : Inj} {h h' : Log} (e : Eqv h h') {b : Nat} (hl : Live ι h' b) : Live ι h b := by
  obtain ⟨id, B, o, sz, h1, h2⟩ := hl
  exact ⟨id, B, o, sz, by rw [← e.1]; exact h1, h2⟩
theorem WRel.eqv {ι : Inj} {h h' : Log} {w : World} (H : WRel E ra base ι h w) (e : Eqv h h') : WRel E ra base ι h' w :=
  ⟨fun id x hx => (e.2 id).2 (H.dom id x hx), fun id B hB => H.own id B (by rw [← e.1]; exact hB), fun id id' B B' x x' h1 h2 => H.inj id id' B B' x x' (by rw [← e.1]; exact h1) (by rw [← e.1]; exact h2), H.le, H.roLt, H.roWF, H.ro⟩
theorem Keeps.eqv {ι ι' : Inj} {h h' h'' : Log} {w w' : World} (k : Keeps ι h w ι' h' w') (e : Eqv h' h'') : Keeps ι h w ι' h'' w' :=
  ⟨k.ext, k.os, k.tape, k.output, k.size, k.block, fun b hb hl => k.live b hb (hl.eqv e)⟩
theorem DefOK.eqv {ι : Inj} {h h' : Log} {w : World} {nb : Nat} {ds : List Deferred} (hd : DefOK ι h w nb ds) (e : Eqv h h') : DefOK ι h' w nb ds :=
  ⟨fun d hm => let ⟨r, h1, h2, h3, h4⟩ := hd.1 d hm; ⟨r, h1, h2, h3, fun hl => h4 (hl.eqv e)⟩, hd.2⟩
theorem Fit.eqv {ι : Inj} {h h' : Log} {w : World} {nb : Nat} {ts : Tmps} {a : Act} (f : Fit E ra base ι h w nb ts a) (e : Eqv h h') : Fit E ra base ι h' w nb ts a := ⟨f.rel.eqv e, f.tmps, f.defs.eqv e, f.size⟩
end Go.Proofs.Ytgkejpfahpbnkaa.Ab

namespace Go.Proofs.Ytgkejpfahpbnkaa.Ab
variable {P : Program} {E : Nat → Nat → Seg} {ra : Nat → Nat → Nat × Nat} {base : Nat} {S : Sums} {X : Exts} {R : Walk}
structure Yld where
  i : Nat
  o : Oper
  v : AVal
  d : Log
  r : List Nat
section
variable (P E S X R)
def Chain (all : List Oper) : Tmps → Log → List Yld → Prop
  | _, _, [] => True
  | ts, h, y :: l => StepR P E S X R all y.o ts h y.v y.d y.r ∧ Chain all (putA ts y.o.dst y.v) (y.d ++ h) l
end
def endT : Tmps → List Yld → Tmps
  | ts, [] => ts
  | ts, y :: l => endT (putA ts y.o.dst y.v) l
def endH : Log → List Yld → Log
  | h, [] => h
  | h, y :: l => endH (y.d ++ h) l
def Indep (all : List Oper) (x y : Yld) : Prop :=
  (∀ i ∈ ids y.d, i ∉ ids x.d) ∧ (∀ i ∈ ids y.d, i ∉ x.r) ∧ (∀ i ∈ y.r, i ∉ ids x.d) ∧ x.o.apart all.toArray y.o = true
theorem chain_eqv {all : List Oper} : ∀ (l : List Yld) {ts : Tmps} {h h' : Log}, Eqv h h' → Chain P E S X R all ts h l → Chain P E S X R all ts h' l
  | [], _, _, _, _, _ => trivial
  | y :: l, _, _, _, e, hc => ⟨hc.1.imp (fun x => ⟨x.1, runs_eqv e x.2⟩) id, chain_eqv l (e.app y.d) hc.2⟩
theorem endH_eqv : ∀ (l : List Yld) {h h' : Log}, Eqv h h' → Eqv (endH h l) (endH h' l)
  | [], _, _, e => e
  | y :: l, _, _, e => endH_eqv l (e.app y.d)
theorem evalA_put {ts : Tmps} {dst : Option Tmp} {v : AVal} {x : Operand} (h : ∀ d, dst = some d → x ≠ .tmp d) : evalA (putA ts dst v) x = evalA ts x := by
  cases dst with
  | none => rfl
  | some d =>
    cases x with
    | tmp t =>
      have hne : d ≠ t := fun e => h d rfl (e ▸ rfl)
      simp [evalA, putA, List.getD_eq_getElem?_getD, List.getElem?_set_ne hne]
    | _ => rfl
theorem opA_congr {o : Oper} {ρ ρ' : Operand → AVal} (h : ∀ x ∈ o.op.operands, ρ x = ρ' x) : opA P E S X R o ρ = opA P E S X R o ρ' := by
  unfold opA
  split
  · rename_i c hc
    rw [hc] at h
    split
    · rename_i f hf
      have hmap : c.args.toList.map ρ = c.args.toList.map ρ' := map_congr' fun x hx => h x (by simp [Op.operands, Call.operands, hf]; exact .inr (by simpa using hx))
      have hfe : ρ f = ρ' f := h f (by simp [Op.operands, Call.operands, hf])
      rw [hmap, hfe]
    · rw [hc]; exact aop_congr h
    · rfl
  · exact aop_congr h
theorem opA_put {all : List Oper} {o : Oper} {ts : Tmps} {dst : Option Tmp} {v : AVal} (h : ∀ d, dst = some d → d ∉ o.looksAt all.toArray) : opA P E S X R o (evalA (putA ts dst v)) = opA P E S X R o (evalA ts) :=
  opA_congr fun x hx => evalA_put fun d hd hxd => h d hd (by
    subst hxd
    exact List.mem_append_left _ (List.mem_filterMap.2 ⟨.tmp d, by simpa using hx, rfl⟩))
theorem wantedA_put {all : List Oper} {o : Oper} {ts : Tmps} {dst : Option Tmp} {v : AVal} (h : ∀ d, dst = some d → d ∉ o.looksAt all.toArray) : wantedA all o (putA ts dst v) = wantedA all o ts := by
  cases dst with
  | none => rfl
  | some d =>
    unfold wantedA
    cases hg : o.guard with
    | none => rfl
    | some gw =>
      obtain ⟨g, want⟩ := gw
      simp only
      cases hj : all[g]? with
      | none => rfl
      | some oj =>
        simp only
        cases hd : oj.dst with
        | none => rfl
        | some t =>
          have hne : d ≠ t := by
            intro e
            subst e
            refine h d rfl (List.mem_append_right _ ?_)
            simp [hg, hj, hd]
          simp [putA, List.getD_eq_getElem?_getD, List.getElem?_set_ne hne]
theorem stepR_put {all : List Oper} {o : Oper} {ts : Tmps} {dst : Option Tmp} {u : AVal} (hn : ∀ d, dst = some d → d ∉ o.looksAt all.toArray) {h : Log} {v : AVal} {d : Log} {r : List Nat} :
    StepR P E S X R all o (putA ts dst u) h v d r ↔ StepR P E S X R all o ts h v d r := by
  unfold StepR
  rw [opA_put hn, wantedA_put hn]
theorem put_comm {ts : Tmps} {a b : Option Tmp} {u v : AVal} (h : ∀ d, a = some d → b ≠ some d) : putA (putA ts a u) b v = putA (putA ts b v) a u := by
  cases a with
  | none => rfl
  | some x =>
    cases b with
    | none => rfl
    | some y =>
      have : x ≠ y := fun e => h x rfl (by rw [e])
      exact List.set_comm _ _ this
theorem swap_steps {all : List Oper} {x y : Yld} (hi : Indep all x y) {ts : Tmps} {h : Log} (h1 : StepR P E S X R all x.o ts h x.v x.d x.r) (h2 : StepR P E S X R all y.o (putA ts x.o.dst x.v) (x.d ++ h) y.v y.d y.r) :
    StepR P E S X R all y.o ts h y.v y.d y.r ∧ StepR P E S X R all x.o (putA ts y.o.dst y.v) (y.d ++ h) x.v x.d x.r := by
  obtain ⟨i1, i2, i3, i4⟩ := hi
  obtain ⟨a1, a2, a3⟩ := Oper.apart_spec i4
  rw [stepR_put a1] at h2
  rw [stepR_put a3]
  refine ⟨h2.imp (fun q => ⟨q.1, ?_⟩) id, h1.imp (fun q => ⟨q.1, ?_⟩) id⟩
  · refine runs_local _ _ _ _ _ _ q.2 (fun i hr => ?_) (fun i _ hn hm => hn (by simp only [ids, List.map_append, List.mem_append]; exact .inr hm))
    rw [view_append, if_neg (i3 i hr)]
  · refine runs_local _ _ _ _ _ _ q.2 (fun i hr => ?_) (fun i hm hn hm' => ?_)
    · rw [view_append, if_neg (fun hy => i2 i hy hr)]
    · simp only [ids, List.map_append, List.mem_append] at hm'
      rcases hm' with h' | h'
      · exact i1 i h' hm
      · exact hn h'
theorem move_front {all : List Oper} {y : Yld} {post : List Yld} : ∀ (pre : List Yld) {ts : Tmps} {h : Log}, (∀ x ∈ pre, Indep all x y) → Chain P E S X R all ts h (pre ++ y :: post) →
    StepR P E S X R all y.o ts h y.v y.d y.r ∧ Chain P E S X R all (putA ts y.o.dst y.v) (y.d ++ h) (pre ++ post) ∧
    endT ts (pre ++ y :: post) = endT (putA ts y.o.dst y.v) (pre ++ post) ∧ Eqv (endH h (pre ++ y :: post)) (endH (y.d ++ h) (pre ++ post))
  | [], _, _, _, hc => ⟨hc.1, hc.2, rfl, .refl _⟩
  | x :: pre, ts, h, hp, hc => by
    obtain ⟨c1, c2⟩ := hc
    have hi := hp x (by simp)
    obtain ⟨m1, m2, m3, m4⟩ := move_front pre (fun z hz => hp z (by simp [hz])) c2
    obtain ⟨s1, s2⟩ := swap_steps hi c1 m1
    have ecomm : putA (putA ts x.o.dst x.v) y.o.dst y.v = putA (putA ts y.o.dst y.v) x.o.dst x.v := put_comm fun d hd => (Oper.apart_spec hi.2.2.2).2.1 d hd
    have heq := Eqv.comm (x := x.d) (y := y.d) h hi.1
    rw [ecomm] at m2 m3
    exact ⟨s1, ⟨s2, chain_eqv _ heq m2⟩, m3, m4.trans (endH_eqv _ heq)⟩
inductive Bef (all : List Oper) : Nat → Nat → Prop
  | edge {i : Nat} {o : Oper} {e : Edge} (ho : all[i]? = some o) (he : e ∈ o.after) (hb : Region.binds .any e = true) : Bef all e.on i
  | trans {i j : Nat} {o : Oper} {e : Edge} (ho : all[i]? = some o) (he : e ∈ o.after) (hb : Region.binds .any e = true) (h : Bef all j e.on) : Bef all j i
theorem before_aux (all : List Oper) : ∀ (l : List Oper) (acc : List Nat), all.drop acc.length = l →
    (∀ i j, (acc.getD i 0).testBit j = true → Bef all j i) → ∀ i j, ((before l acc).getD i 0).testBit j = true → Bef all j i
  | [], acc, _, h => h
  | o :: l, acc, hd, h => by
    have ho : all[acc.length]? = some o := by rw [← List.head?_drop, hd]; rfl
    refine before_aux all l _ (by rw [List.length_append, List.length_singleton, ← List.drop_drop, hd]; rfl) fun i j hb => ?_
    rw [List.getD_eq_getElem?_getD] at hb
    rcases Nat.lt_trichotomy i acc.length with hlt | heq | hgt
    · rw [List.getElem?_append_left hlt] at hb
      exact h i j (by rw [List.getD_eq_getElem?_getD]; exact hb)
    · subst heq
      rw [List.getElem?_append_right (Nat.le_refl _)] at hb
      simp only [Nat.sub_self, List.getElem?_cons_zero, Option.getD_some] at hb
      have key : ∀ (es : List Edge) (s : Nat), (∀ e ∈ es, e ∈ o.after) → (∀ j, s.testBit j = true → Bef all j acc.length) → ∀ j, (es.foldl (fun s e => bif Region.binds .any e then s ||| 2 ^ e.on ||| acc.getD e.on 0 else s) s).testBit j = true → Bef all j acc.length := by
        intro es
        induction es with
        | nil => exact fun s _ hs j hj => hs j hj
        | cons e es ih =>
          intro s hm hs j hj
          refine ih _ (fun e he => hm e (by simp [he])) (fun j hj => ?_) j hj
          cases hbe : Region.binds .any e with
          | false => simp only [hbe, cond_false] at hj; exact hs j hj
          | true =>
            simp only [hbe, cond_true, Nat.testBit_or, Bool.or_eq_true] at hj
            rcases hj with (hj | hj) | hj
            · exact hs j hj
            · have : j = e.on := by
                rw [Nat.testBit_two_pow] at hj
                simpa using (of_decide_eq_true hj).symm
              subst this
              exact .edge ho (hm e (by simp)) hbe
            · exact .trans ho (hm e (by simp)) hbe (h _ _ hj)
      exact key o.after.toList 0 (fun e he => by simpa using he) (fun j hj => by simp at hj) j hb
    · rw [List.getElem?_append_right (by omega)] at hb
      have : i - acc.length ≠ 0 := by omega
      obtain ⟨k, hk⟩ : ∃ k, i - acc.length = k + 1 := ⟨i - acc.length - 1, by omega⟩
      simp [hk] at hb
theorem before_spec (all : List Oper) (i j : Nat) (h : ((before all []).getD i 0).testBit j = true) : Bef all j i :=
  before_aux all all [] rfl (fun i j h => by simp at h) i j h
theorem edgesOk_spec {all : List Oper} : ∀ (l : List Oper) (k : Nat), all.drop k = l → edgesOk k l = true → ∀ i o, k ≤ i → all[i]? = some o → ∀ e ∈ o.after, Region.binds .any e = true → e.on < i
  | [], k, hd, _, i, o, hi, ho => by
    have : all.length ≤ k := by
      have := congrArg List.length hd
      simp at this; omega
    rw [List.getElem?_eq_none (by omega)] at ho
    cases ho
  | x :: l, k, hd, h, i, o, hi, ho => by
    have hx : all[k]? = some x := by rw [← List.head?_drop, hd]; rfl
    simp only [edgesOk, Bool.and_eq_true, List.all_eq_true] at h
    rcases Nat.eq_or_lt_of_le hi with rfl | hlt
    · rw [hx] at ho
      cases ho
      intro e he hb
      have := h.1 e (by simpa using he)
      simp only [hb, Bool.not_true, Bool.false_or] at this
      exact Nat.le_of_ble_eq_true this
    · exact edgesOk_spec l (k + 1) (by rw [← List.drop_drop, hd]; rfl) h.2 i o hlt ho
def foot (y : Yld) : Nat × List Nat × List Nat := (y.i, y.r, ids y.d)
theorem draw_runs {all : List Oper} {bef : List Nat} : ∀ (l : List Oper) (i : Nat), all.drop i = l → ∀ {ts : Tmps} {h : Log} {fs : List (Nat × List Nat × List Nat)} {p : AExit × Tmps} {d : Log} {r : List Nat}, (drawA P E S X R all bef i l ts fs).Runs h p d r →
    ∃ ys : List Yld, Chain P E S X R all ts h ys ∧ ys.map (·.i) = List.range' i l.length ∧ (∀ y ∈ ys, all[y.i]? = some y.o) ∧ p = (.normal, endT ts ys) ∧ d ++ h = endH h ys ∧
      foots all bef ((ys.map foot).reverse ++ fs) = true ∧ Region.noSelect all.toArray = true ∧ edgesOk 0 all = true
  | [], i, _, ts, h, fs, p, d, r, hr => by
    obtain ⟨hc, rfl, rfl, rfl⟩ := hr
    simp only [Bool.and_eq_true] at hc
    exact ⟨[], trivial, rfl, by simp, rfl, rfl, by simpa using hc.1.1, hc.1.2, hc.2⟩
  | o :: l, i, hd, ts, h, fs, p, d, r, hr => by
    obtain ⟨ts', d₁, r₁, d₂, r₂, h1, h2, rfl, rfl⟩ := hr
    obtain ⟨v, rfl, hs⟩ := gstep_runs h1
    obtain ⟨ys, c1, c2, c3, c4, c5, c6, c7⟩ := draw_runs l (i + 1) (by rw [← List.drop_drop, hd]; rfl) h2
    have ho : all[i]? = some o := by rw [← List.head?_drop, hd]; rfl
    refine ⟨⟨i, o, v, d₁, r₁⟩ :: ys, ⟨hs, c1⟩, ?_, ?_, c4, ?_, ?_, c7⟩
    · rw [List.map_cons, c2, List.length_cons, List.range'_succ]
    · intro y hy
      rcases List.mem_cons.1 hy with rfl | hy
      · exact ho
      · exact c3 y hy
    · rw [List.append_assoc]; exact c5
    · rw [List.map_cons, List.reverse_cons, List.append_assoc]; exact c6
theorem apartL_spec {a b : List Nat} (h : apartL a b = true) : ∀ i ∈ a, i ∉ b := by
  intro i hi hb
  simp only [apartL, List.all_eq_true] at h
  have := h i hi i hb
  simp at this
theorem footOk_spec {all : List Oper} {x y : Yld} (hx : all[x.i]? = some x.o) (hy : all[y.i]? = some y.o) (h : footOk all (before all []) y.i y.r (ids y.d) (foot x) = true) : Bef all x.i y.i ∨ Indep all x y := by
  simp only [footOk, foot, Bool.or_eq_true, Bool.and_eq_true] at h
  rcases h with h | ⟨⟨⟨h1, h2⟩, h3⟩, h4⟩
  · exact .inl (before_spec all _ _ h)
  · rw [hx, hy] at h4
    exact .inr ⟨apartL_spec h1, apartL_spec h2, apartL_spec h3, h4⟩
theorem foots_spec {all : List Oper} : ∀ (ys : List Yld), (∀ y ∈ ys, all[y.i]? = some y.o) → foots all (before all []) (ys.map foot) = true → ys.Pairwise fun y x => Bef all x.i y.i ∨ Indep all x y
  | [], _, _ => .nil
  | y :: ys, ho, h => by
    simp only [List.map_cons, foots, foot, Bool.and_eq_true, List.all_eq_true, List.mem_map] at h
    refine .cons (fun x hx => footOk_spec (ho x (by simp [hx])) (ho y (by simp)) (h.1 _ ⟨x, hx, rfl⟩)) (foots_spec ys (fun z hz => ho z (by simp [hz])) h.2)
def Shut (ops : Array Oper) (listed : Array Bool) : Prop := ∀ i o, listed.getD i false = true → ops[i]? = some o → ∀ e ∈ o.after, Region.binds .any e = true → listed.getD e.on false = true
theorem bef_listed {ops : Array Oper} {listed : Array Bool} (hs : Shut ops listed) {i j : Nat} (h : Bef ops.toList j i) (hr : ∀ o, ops[i]? = some o → ∀ e ∈ o.after, Region.binds .any e = true → listed.getD e.on false = true) : listed.getD j false = true := by
  induction h with
  | edge ho he hb => exact hr _ (by simpa using ho) _ he hb
  | trans ho he hb _ ih => exact ih fun o' ho' e' he' hb' => hs _ _ (hr _ (by simpa using ho) _ he hb) ho' e' he' hb'
theorem getD_conv {l : Array Bool} {i : Nat} (h : i < l.size) (a b : Bool) : l.getD i a = l.getD i b := by simp [Array.getD, h]
theorem getD_size {l : Array Bool} {i : Nat} (h : l.getD i true = false) : i < l.size := by
  rcases Nat.lt_or_ge i l.size with h' | h'
  · exact h'
  · simp [Array.getD, Nat.not_lt.2 h'] at h
theorem draw_any (hR : ExecOK P E ra base R) (hS : SumsOK P E ra base S) (hX : ExtsOK P E ra X) (hN : NamesOK P) {ops : Array Oper} (ro : Option Nat) {Q : Exit → Act → World → Prop} (hedge : edgesOk 0 ops.toList = true) {nb : Nat} : ∀ (fuel : Nat) (listed : Array Bool) (ys : List Yld) {ι : Inj} {h : Log} {w : World} {ts : Tmps} {a : Act},
    ys.length ≤ fuel → listed.size = ops.size → (∀ y ∈ ys, ops[y.i]? = some y.o) → (∀ i, listed.getD i true = false ↔ ∃ y ∈ ys, y.i = i) → ys.Pairwise (fun x y => x.i < y.i) →
    ys.Pairwise (fun x y => Bef ops.toList x.i y.i ∨ Indep ops.toList x y) → Shut ops listed → Fit E ra base ι h w nb ts a → Chain P E S X R ops.toList ts h ys →
    (∀ ι' a' w' h', Fit E ra base ι' h' w' nb (endT ts ys) a' → Eqv h' (endH h ys) → Keeps ι h w ι' h' w' → Q .normal a' w') → wpAnyIn (FW ro) 0 P .any ops Q fuel listed a w := by
  have hdone : ∀ (listed : Array Bool) (ys : List Yld), listed.size = ops.size → (∀ y ∈ ys, ops[y.i]? = some y.o) → (∀ i, listed.getD i true = false ↔ ∃ y ∈ ys, y.i = i) → ys.Pairwise (fun x y => x.i < y.i) → Region.ready .any ops listed = [] → ys = [] := by
    intro listed ys hsz ho hun hsort hrd
    match ys with
    | [] => rfl
    | y :: ys =>
      exfalso
      have : y.i ∈ Region.ready .any ops listed := by
        rw [mem_ready]
        refine ⟨(hun y.i).2 ⟨y, by simp, rfl⟩, y.o, ho y (by simp), fun e he hb => ?_⟩
        have hlt := edgesOk_spec ops.toList 0 rfl hedge y.i y.o (Nat.zero_le _) (by simpa using ho y (by simp)) e he hb
        have hys : y.i < listed.size := getD_size ((hun y.i).2 ⟨y, by simp, rfl⟩)
        rw [getD_conv (by omega) false true]
        cases hh : listed.getD e.on true with
        | true => rfl
        | false =>
          obtain ⟨z, hz, hze⟩ := (hun e.on).1 hh
          rcases List.mem_cons.1 hz with rfl | hz
          · omega
          · have := (List.pairwise_cons.1 hsort).1 z hz
            omega
      rw [hrd] at this
      cases this
  intro fuel
  induction fuel with
  | zero =>
    intro listed ys ι h w ts a hl hsz ho hun hsort hpw hshut hf hc hQ
    have : ys = [] := List.length_eq_zero_iff.1 (by omega)
    subst this
    refine ⟨?_, hQ ι a w h hf (.refl _) (.refl _ _ _)⟩
    rw [List.eq_nil_iff_forall_not_mem]
    intro j hj
    obtain ⟨z, hz, _⟩ := (hun j).1 (mem_ready.1 hj).1
    cases hz
  | succ fuel ih =>
    intro listed ys ι h w ts a hl hsz ho hun hsort hpw hshut hf hc hQ
    refine ⟨fun hrd => ?_, fun i hi => ?_⟩
    · have := hdone listed ys hsz ho hun hsort hrd
      subst this
      exact hQ ι a w h hf (.refl _) (.refl _ _ _)
    · obtain ⟨hu, o, hoi, hall⟩ := mem_ready.1 hi
      obtain ⟨y, hy, hyi⟩ := (hun i).1 hu
      obtain ⟨pre, post, rfl⟩ := List.append_of_mem hy
      have hyo : y.o = o := by
        have := ho y hy
        rw [hyi, hoi] at this
        exact (Option.some.inj this).symm
      have hind : ∀ x ∈ pre, Indep ops.toList x y := by
        intro x hx
        refine ((List.pairwise_append.1 hpw).2.2 x hx y (by simp)).resolve_left fun hb => ?_
        have h1 := bef_listed hshut (hyi ▸ hb) (fun o' ho' e he hbb => by rw [hoi] at ho'; cases ho'; exact hall e he hbb)
        have h2 := (hun x.i).2 ⟨x, by simp [hx], rfl⟩
        rw [getD_conv (getD_size h2) true false, h1] at h2
        cases h2
      obtain ⟨s1, s2, s3, s4⟩ := move_front pre hind hc
      have hne : ∀ z ∈ pre ++ post, z.i ≠ i := by
        intro z hz
        rcases List.mem_append.1 hz with hz | hz
        · have := (List.pairwise_append.1 hsort).2.2 z hz y (by simp)
          omega
        · have := (List.pairwise_cons.1 (List.pairwise_append.1 hsort).2.1).1 z hz
          omega
      have hsub : (pre ++ post).Sublist (pre ++ y :: post) := List.Sublist.append_left (List.sublist_cons_self _ _) _
      refine step_sound hR hS hX hN hf (o := y.o) (by rw [hyo]; exact hoi) s1 ro fun ι' a' w' f' k' => ?_
      refine ih (listed.setIfInBounds i true) (pre ++ post) (by simp at hl ⊢; omega) (by simpa using hsz) (fun z hz => ho z (hsub.subset hz)) (fun j => ?_) (hsort.sublist hsub) (hpw.sublist hsub) ?_ f' s2 fun ι₂ a₂ w₂ h₂ f₂ e₂ k₂ => ?_
      · by_cases hj : j = i
        · subst hj
          have hlt := getD_size hu
          constructor
          · intro hh
            simp [Array.getD, hlt] at hh
          · rintro ⟨z, hz, hzi⟩
            exact absurd hzi (hne z hz)
        · rw [getD_set_ne true (Ne.symm hj), hun j]
          constructor
          · rintro ⟨z, hz, hzj⟩
            rcases List.mem_append.1 hz with hz | hz
            · exact ⟨z, List.mem_append_left _ hz, hzj⟩
            · rcases List.mem_cons.1 hz with rfl | hz
              · exact absurd (hzj.symm.trans hyi) hj
              · exact ⟨z, List.mem_append_right _ hz, hzj⟩
          · rintro ⟨z, hz, hzj⟩
            exact ⟨z, hsub.subset hz, hzj⟩
      · intro j oj hj hoj e he hb
        refine getD_set_true ?_
        by_cases hji : j = i
        · subst hji
          rw [hoi] at hoj; cases hoj
          exact hall e he hb
        · rw [getD_set_ne false (Ne.symm hji)] at hj
          exact hshut j oj hj hoj e he hb
      · refine hQ ι₂ a₂ w₂ h₂ (by rw [s3]; exact f₂) (e₂.trans s4.symm) (k'.trans k₂)
end Go.Proofs.Ytgkejpfahpbnkaa.Ab

namespace Go.Proofs.Ytgkejpfahpbnkaa.Ab
variable {P : Program} {E : Nat → Nat → Seg} {ra : Nat → Nat → Nat × Nat} {base : Nat} {S : Sums} {X : Exts} {L : Loops} {R : Walk}
theorem pushed {ι : Inj} {h : Log} {w w' : World} (H : WRel E ra base ι h w) {o : Obj} (hw : w'.heap = w.heap.push o) (ho : w'.os = w.os) (ht : w'.tape = w.tape) (hp : w'.output = w.output) : WRel E ra base ι h w' ∧ Keeps ι h w ι h w' := by
  have hlt : ∀ b, b < w.heap.size → w'.heap[b]? = w.heap[b]? := fun b hb => by rw [hw]; exact heap_push _ _ _ hb
  refine ⟨⟨H.dom, fun id B hB => (H.own id B hB).mono (.refl _) fun b o sz hb => hlt b ?_, H.inj, ?_, H.roLt, H.roWF, H.roKeep (.refl _) fun b hb => hlt b (H.le b hb)⟩, ⟨.refl _, ho, ht, hp, ?_, fun b hb _ => hlt b hb, fun _ _ hl => hl⟩⟩
  · obtain ⟨b', o', sz', h1, _, h3⟩ := (H.own id B hB).at
    rw [hb] at h1
    simp only [Option.some.injEq, Prod.mk.injEq] at h1
    omega
  · intro b hb; rw [hw, Array.size_push]; have := H.le b hb; omega
  · rw [hw, Array.size_push]; omega
theorem live_lt {ι : Inj} {h : Log} {w : World} (H : WRel E ra base ι h w) {b : Nat} (hl : Live ι h b) : b < w.heap.size := by
  obtain ⟨id, B, o, sz, h1, h2⟩ := hl
  obtain ⟨b', o', sz', h3, _, h4⟩ := (H.own id B h1).at
  rw [h2] at h3
  simp only [Option.some.injEq, Prod.mk.injEq] at h3
  omega
theorem range_pairwise : ∀ (n i : Nat), (List.range' i n).Pairwise (· < ·)
  | 0, _ => .nil
  | n + 1, i => by
    rw [List.range'_succ]
    exact .cons (fun j hj => by rw [List.mem_range'_1] at hj; omega) (range_pairwise n (i + 1))
theorem drawA_sound (hR : ExecOK P E ra base R) (hS : SumsOK P E ra base S) (hX : ExtsOK P E ra X) (hN : NamesOK P) (hm : P.follows .mixedOrders = true) {id : Nat} {ops : Array Oper} (ro : Option Nat) {Q : Exit → Act → World → Prop} {ι : Inj} {h : Log} {w : World} {nb : Nat} {ts : Tmps} {a : Act}
    (hf : Fit E ra base ι h w nb ts a) {p : AExit × Tmps} {d : Log} {r : List Nat} (hr : (drawA P E S X R ops.toList (before ops.toList []) 0 ops.toList ts []).Runs h p d r)
    (hQ : ∀ ι' a' w', Fit E ra base ι' (d ++ h) w' nb p.2 a' → Keeps ι h w ι' (d ++ h) w' → Q p.1.toExit a' w') : (Code.region id ops true).wpIn (FW ro) 0 P Q a w := by
  obtain ⟨ys, c1, c2, c3, rfl, c5, c6, c7, c8⟩ := draw_runs ops.toList 0 rfl hr
  have k : Keeps ι h w ι h { w with drawn := w.drawn + 1 } := .same ι h rfl rfl rfl rfl
  have f' := hf.move (hf.rel.same (w' := { w with drawn := w.drawn + 1 }) rfl) k
  have hmem : ∀ i, (∃ y ∈ ys, y.i = i) ↔ i < ops.size := by
    intro i
    have : i ∈ ys.map (·.i) ↔ i < ops.size := by rw [c2, List.mem_range'_1]; simp
    rw [← this, List.mem_map]
  have hlen : ys.length = ops.size := by
    have := congrArg List.length c2
    simpa using this
  refine wpIn_region_any hm (draw_any hR hS hX hN ro c8 ops.size _ ys (by omega) (by simp) (fun y hy => by simpa using c3 y hy) (fun i => ?_) ?_ ?_ ?_ f' c1 fun ι' a' w' h' f₂ e₂ k₂ => ?_)
  · rw [hmem i]
    by_cases hi : i < ops.size <;> simp [Array.getD, hi]
  · have := range_pairwise ops.toList.length 0
    rw [← c2, List.pairwise_map] at this
    exact this
  · rw [List.append_nil, ← List.map_reverse] at c6
    have := foots_spec ys.reverse (fun y hy => c3 y (by simpa using hy)) c6
    rw [List.pairwise_reverse] at this
    exact this
  · intro i o hi _ e _ _
    by_cases h' : i < ops.size
    · simp [Array.getD, h'] at hi
    · simp [Array.getD, h'] at hi
  · rw [← c5] at e₂
    exact hQ ι' a' w' (f₂.eqv e₂) ((k.trans k₂).eqv e₂)
theorem endLoopA_sound {ι : Inj} {h : Log} {w : World} {nb : Nat} {ts : Tmps} {a : Act} (hf : Fit E ra base ι h w nb ts a) {id b o sz : Nat} (hb : ι id = some (b, o, sz)) {p : AExit × Tmps} {d : Log} {r : List Nat} (hr : (endLoopA id ts).Runs h p d r)
    {Q : Exit → Act → World → Prop} (hQ : ∀ w', Fit E ra base ι (d ++ h) w' nb p.2 a → Keeps ι h w ι (d ++ h) w' → Q p.1.toExit a w') (v : Value) : rangePost (FW none) 0 P b Q a (.returned v) w := by
  simp only [endLoopA, AM.Runs] at hr
  obtain ⟨B, r', hv, rfl, hr⟩ := hr
  match B, hr with
  | .loop ls ps as bd st pend, hr =>
    obtain ⟨hst, B', d', r'', hv', rfl, rfl, hr2⟩ := hr
    obtain ⟨l, l1, l2, l3, l4, l5, l6, l7, l8⟩ := loop_at hf.rel hv hb
    have T := loop_turn hf.rel hv hb (l := { l with state := .exhausted }) (lt_of_heap l1) l2 (ts := ls) (ps := ps) (as := as) (bd := bd) (st := .exhausted) (pe := pend) ⟨l3, l4, l5, l6, rfl, l8⟩
    have hnb : l.state ≠ .busy := by
      rw [l7]
      intro e
      rw [e] at hst
      cases hst
    have run := run_endLoop (P := P) l1 hnb
    generalize w.putObj b (.loop { l with state := .exhausted }) = W at T run
    rw [l8] at run
    refine ⟨pend, W, run, ?_⟩
    match pend, hr2 with
    | none, hr2 =>
      obtain ⟨rfl, rfl, rfl⟩ := hr2
      exact hQ _ (hf.move T.1 T.2) T.2
    | some .ret, hr2 =>
      obtain ⟨rfl, rfl, rfl⟩ := hr2
      exact wpIn_ret (hQ _ (hf.move T.1 T.2) T.2)
    | some (.exit i), hr2 =>
      obtain ⟨rfl, rfl, rfl⟩ := hr2
      exact wpIn_exit (hQ _ (hf.move T.1 T.2) T.2)
section
variable {b : Frame} {a : Act} {k : List Item} {cs : List Frame} {w : World} {Q : Exit → Act → World → Prop}
theorem stepR_scope {c : Code} : step P (lone (b.atR a (.code (.scope c) :: k)) cs w) = .next (lone (b.atR a (.code c :: .inScope c :: k)) cs w) :=
  step_lone_go (by simp [stepG, stepG.exec, Frame.atR])
theorem stepR_inScope {c : Code} : step P (lone (b.atR a (.inScope c :: k)) cs w) = .next (lone (b.atR a k) cs w) :=
  step_lone_go (by simp [stepG, stepG.exec, Frame.atR])
theorem wpIn_scope {F : Fence} {n : Nat} {c : Code} (h : c.wpIn F n P (Exit.noGoto Q) a w) : (Code.scope c).wpIn F n P Q a w := by
  intro b k cs hro hb hr
  have h0 : (lone (b.atR a (.code (.scope c) :: k)) cs w).fenced P F := fenced_calm hb hr rfl
  obtain ⟨e, a₁, w₁, hq, harr⟩ := h b (.inScope c :: k) cs hro hb hr
  cases e with
  | normal => exact ⟨.normal, a₁, w₁, hq, .head h0 stepR_scope (StepsIn.trans harr (.one (fenced_calm hb hr rfl) stepR_inScope))⟩
  | exit id =>
    have hx : exitTo id (.inScope c :: k) = exitTo id k := by simp [exitTo]
    exact ⟨.exit id, a₁, w₁, hq, fun k' hk => .head h0 stepR_scope (harr.1 k' (by rw [hx]; exact hk)),
      fun hr' hk => let ⟨k₁, h1, h2⟩ := harr.2 hr' (by rw [hx]; exact hk); ⟨k₁, h1, .head h0 stepR_scope h2⟩⟩
  | goto l => exact hq.elim
  | ret => exact ⟨_, a₁, w₁, hq, .of_steps (.one h0 stepR_scope) harr⟩
  | panic ch => exact ⟨_, a₁, w₁, hq, .of_steps (.one h0 stepR_scope) harr⟩
  | outgrown => exact ⟨_, a₁, w₁, hq, .of_steps (.one h0 stepR_scope) harr⟩
end
theorem wpIn_loop_count {F : Fence} {n : Nat} {Q : Exit → Act → World → Prop} {c : Code} (I : Nat → Act → World → Prop) (h0 : ∀ a w, ¬ I 0 a w) (round : ∀ j a w, I (j + 1) a w → c.wpIn F n P (Exit.then (I j) Q) a w) {j : Nat} {a : Act} {w : World} (h : I j a w) : (Code.loop c).wpIn F n P Q a w := by
  intro b k cs hro hb hr
  have key : ∀ j a w, I j a w → ∃ e a' w', Q e a' w' ∧ ArrivesIn (Machine.fenced P F) P (lone (b.atR a (.code c :: .inLoop c :: k)) cs w) b k cs e a' w' := by
    intro j
    induction j with
    | zero => exact fun a w hI => (h0 a w hI).elim
    | succ j ih =>
      intro a w hI
      obtain ⟨e, a₁, w₁, hq, harr⟩ := round j a w hI b (.inLoop c :: k) cs hro hb hr
      cases e with
      | normal =>
        obtain ⟨e₂, a₂, w₂, hq₂, harr₂⟩ := ih a₁ w₁ hq
        exact ⟨e₂, a₂, w₂, hq₂, .of_steps (StepsIn.trans harr (.one (fenced_calm hb hr rfl) stepR_inLoop)) harr₂⟩
      | exit id => exact ⟨_, a₁, w₁, hq, .pass (x := .inLoop c) rfl (fun _ _ => .inl (by simp)) harr⟩
      | goto l => exact ⟨_, a₁, w₁, hq, .pass (x := .inLoop c) rfl (fun _ _ => .inl (by simp)) harr⟩
      | ret => exact ⟨_, a₁, w₁, hq, .pass (x := .inLoop c) rfl (fun _ _ => .inl (by simp)) harr⟩
      | panic ch => exact ⟨_, a₁, w₁, hq, .pass (x := .inLoop c) rfl (fun _ _ => .inl (by simp)) harr⟩
      | outgrown => exact ⟨_, a₁, w₁, hq, .pass (x := .inLoop c) rfl (fun _ _ => .inl (by simp)) harr⟩
  obtain ⟨e, a', w', hq, harr⟩ := key _ a w h
  exact ⟨e, a', w', hq, .of_steps (.one (fenced_calm hb hr rfl) stepR_loop) harr⟩
theorem loopA_sound (hR : ExecOK P E ra base R) {f : FuncId} {pl : List Bool} {ro : Option Nat} {c : Code} (hat : At P f pl (.loop c)) {Q : Exit → Act → World → Prop} {ι : Inj} {h : Log} {w : World} {nb : Nat} {p : AExit × Tmps} (j : Nat) {ts : Tmps} {a : Act} {d : Log} {r : List Nat}
    (hf : Fit E ra base ι h w nb ts a) (hr : (loopA R f pl ro.isSome c j ts).Runs h p d r)
    (hQ : ∀ ι' a' w', Fit E ra base ι' (d ++ h) w' nb p.2 a' → Keeps ι h w ι' (d ++ h) w' → Q p.1.toExit a' w') : (Code.loop c).wpIn (FW ro) 0 P Q a w := by
  refine wpIn_loop_count (fun j a' w' => ∃ ι' ts' d₁ d₂ r, Fit E ra base ι' (d₁ ++ h) w' nb ts' a' ∧ Keeps ι h w ι' (d₁ ++ h) w' ∧ (loopA R f pl ro.isSome c j ts').Runs (d₁ ++ h) p d₂ r ∧ d = d₂ ++ d₁) ?_ ?_ (j := j) ⟨ι, ts, [], d, r, hf, .refl _ _ _, hr, by simp⟩
  · rintro a w ⟨ι', ts', d₁, d₂, r, _, _, h3, _⟩
    exact h3
  · rintro j a₁ w₁ ⟨ι₁, ts₁, d₁, d₂, r₁, f₁, k₁, h3, rfl⟩
    simp only [loopA, runs_bind] at h3
    obtain ⟨⟨e, ts₂⟩, d₃, r₃, d₄, r₄, h4, h5, rfl, rfl⟩ := h3
    refine hR f (false :: pl) ro c ts₁ ι₁ _ w₁ nb a₁ _ d₃ r₃ (hat.kid rfl) f₁ h4 _ fun ι₂ a₂ w₂ f₂ k₂ => ?_
    have k := k₁.trans k₂
    cases e with
    | normal =>
      have h6 : (loopA R f pl ro.isSome c j ts₂).Runs (d₃ ++ (d₁ ++ h)) p d₄ r₄ := h5
      exact ⟨ι₂, ts₂, d₃ ++ d₁, d₄, r₄, by simpa using f₂, by simpa using k, by simpa using h6, by simp⟩
    | exit i => obtain ⟨rfl, rfl, rfl⟩ := h5; exact hQ ι₂ a₂ w₂ (by simpa using f₂) (by simpa using k)
    | ret => obtain ⟨rfl, rfl, rfl⟩ := h5; exact hQ ι₂ a₂ w₂ (by simpa using f₂) (by simpa using k)
theorem execF_sound (hL : LoopsOK P E ra base L) (hR : ExecOK P E ra base R) (hS : SumsOK P E ra base S) (hX : ExtsOK P E ra X) (hN : NamesOK P) (hm : P.follows .mixedOrders = true) (n : Nat) : ExecOK P E ra base (execF P E S X L R n) := by
  intro fi pl ro c ts ι h w nb a p d r hat hf hr Q hQ
  unfold execF at hr
  split at hr
  · obtain ⟨rfl, rfl, rfl⟩ := hr
    exact wpIn_skip (hQ ι a w hf (.refl _ _ _))
  · obtain ⟨rfl, rfl, rfl⟩ := hr
    exact wpIn_label (hQ ι a w hf (.refl _ _ _))
  · rename_i id ops draw
    cases draw with
    | false =>
      refine wpIn_region ?_
      have := opsA_sound hR hS hX hN ro (Q := Q) ops.toList 0 rfl hf hr hQ
      rw [List.range_eq_range']
      simpa using this
    | true => exact drawA_sound hR hS hX hN hm ro hf hr hQ
  · rename_i x y
    rw [runs_bind] at hr
    obtain ⟨⟨e, ts₁⟩, d₁, r₁, d₂, r₂, h1, h2, rfl, rfl⟩ := hr
    refine wpIn_seq (hR fi _ ro x ts ι h w nb a _ d₁ r₁ (hat.kid rfl) hf h1 _ fun ι' a' w' f' k' => ?_)
    rw [List.append_assoc] at hQ
    cases e with
    | normal => exact hR fi _ ro y ts₁ ι' _ w' nb a' p d₂ r₂ (hat.kid rfl) f' h2 _ fun ι₂ a₂ w₂ f₂ k₂ => hQ ι₂ a₂ w₂ f₂ (k'.trans k₂)
    | exit i => obtain ⟨rfl, rfl, rfl⟩ := h2; exact hQ ι' a' w' f' k'
    | ret => obtain ⟨rfl, rfl, rfl⟩ := h2; exact hQ ι' a' w' f' k'
  · rename_i g x y
    split at hr
    · rename_i t ht
      have hg := evalA_sound hf.tmps g
      rw [ht] at hg
      generalize hv : a.eval g = gv at hg
      cases hg
      refine wpIn_cond hv ?_
      cases t
      · exact hR fi _ ro y ts ι h w nb a p d r (hat.kid rfl) hf hr Q hQ
      · exact hR fi _ ro x ts ι h w nb a p d r (hat.kid rfl) hf hr Q hQ
    · exact hr.elim
  · rename_i id x
    rw [runs_bind] at hr
    obtain ⟨⟨e, ts₁⟩, d₁, r₁, d₂, r₂, h1, ⟨rfl, rfl, rfl⟩, rfl, rfl⟩ := hr
    refine wpIn_block (hR fi _ ro x ts ι h w nb a _ _ _ (hat.kid rfl) hf h1 _ fun ι' a' w' f' k' => ?_)
    have := hQ ι' a' w'
    cases e with
    | normal => exact this f' k'
    | ret => exact this f' k'
    | exit i =>
      simp only [AExit.toExit, Exit.inBlock]
      by_cases hi : i = id
      · subst hi
        rw [if_pos rfl]
        have e : blockA i (.exit i, ts₁) = (.normal, ts₁) := by simp [blockA]
        rw [e] at this
        exact this f' k'
      · rw [if_neg hi]
        have e : blockA id (.exit i, ts₁) = (.exit i, ts₁) := by
          have : Nat.beq i id = false := by
            cases hh : Nat.beq i id with
            | false => rfl
            | true => exact absurd (Nat.eq_of_beq_eq_true hh) hi
          simp [blockA, this]
        rw [e] at this
        exact this f' k'
  · rename_i x
    split at hr
    · rename_i m hro hm'
      cases ro with
      | some l => cases hro
      | none =>
        obtain ⟨h1, h2⟩ := hL fi pl m hm'
        rcases hat with h | hat
        · exact absurd h h1
        · exact h2 x hat ts ι h w nb a p d r hf hr Q hQ
    · exact loopA_sound hR hat n hf hr hQ
  · rename_i g ps as bd
    split at hr
    · rename_i f cap hro hg
      cases ro with
      | some l => cases hro
      | none =>
        obtain ⟨id, d', hid, rfl, hr⟩ := hr
        rw [runs_bind] at hr
        obtain ⟨u, d₁, r₁, d₂, r₂, h1, h2, rfl, rfl⟩ := hr
        have hgv := evalA_sound hf.tmps g
        rw [hg] at hgv
        generalize hv : a.eval g = gv at hgv
        cases hgv with | fn hcap =>
        rename_i caps
        obtain ⟨hbody, hcall⟩ := callB_sound hR hS h1
        refine wpIn_rangeFunc fun fn _ => ?_
        have T₁ := pushed hf.rel (w' := w.alloc (.deferred (some []))) (o := .deferred (some [])) rfl rfl rfl rfl
        have hsz : (w.alloc (.deferred (some []))).heap.size = w.heap.size + 1 := World.size_alloc _ _
        let L : Loop := { state := .ready, pending := none, fn, tmps := a.tmps, params := ps, assign := as, body := bd, defers := w.heap.size }
        have T₂ := T₁.1.alloc (w' := (w.alloc (.deferred (some []))).alloc (.loop L)) hid (.loop L) rfl rfl rfl rfl (.loop ts ps.toList as bd .ready none) (0, 0)
          ⟨w.heap.size + 1, 0, 0, L, by rw [hsz]; simp [put], by rw [← hsz]; exact fun hr => absurd (T₁.1.le _ hr) (Nat.lt_irrefl _), by rw [← hsz]; exact World.alloc_heap_new _ _, hf.tmps.mono (put_ext (T₁.1.fresh hid)), rfl, rfl, rfl, rfl, rfl⟩
        rw [hsz] at T₂
        have K₂ := T₁.2.trans T₂.2
        refine ⟨w.heap.size + 1, [{ target := .collected w.heap.size, args := #[] }], (w.alloc (.deferred (some []))).alloc (.loop L), { target := .fn (.func f) caps.toArray, args := #[.func (.yield (w.heap.size + 1)) #[] #[]] }, (w.alloc (.deferred (some []))).alloc (.loop L), f, #[.func (.yield (w.heap.size + 1)) #[] #[]] ++ caps.toArray, (w.alloc (.deferred (some []))).alloc (.loop L),
          run_enterLoop_outer _ _ _ _ _, ?_, fun _ _ => trivial, ?_, wide_n, ?_⟩
        · simp only [resolve, hv]
          simp [Deferred.ofValue, Act.eval]
        · exact run_callFunc hN hbody _ _
        · refine CallsIn.mono (hcall _ _ _ T₂.1 ?_) ?_
          · simp only [Array.toList_append]
            exact .cons (.yld (o := 0) (sz := 0) (by simp [put])) (by simpa using hcap.mono K₂.ext)
          · rintro e w' ⟨v', ι', rfl, g1, g2, g3⟩
            have K₃ := K₂.trans g3
            have hr0 : ((w.alloc (.deferred (some []))).alloc (.loop L)).heap[w.heap.size]? = some (.deferred (some [])) := by
              show ((w.heap.push _).push _)[w.heap.size]? = _
              rw [Array.getElem?_push, if_neg (by simp)]
              simp
            have hfit : Fit E ra base (put ι id (w.heap.size + 1, 0, 0)) ((id, some (.loop ts ps.toList as bd .ready none)) :: h) ((w.alloc (.deferred (some []))).alloc (.loop L)) nb ts { a with defers := [{ target := .collected w.heap.size, args := #[] }] ++ a.defers } := by
              refine ⟨T₂.1, hf.tmps.mono K₂.ext, ⟨fun m hm => ?_, ?_⟩, Nat.le_trans hf.size K₂.size⟩
              · rcases List.mem_cons.1 hm with rfl | hm
                · refine ⟨w.heap.size, rfl, hf.size, hr0, fun hl => ?_⟩
                  have := K₂.live
                  obtain ⟨j, C, o', sz', hC, hj⟩ := hl
                  simp only [view] at hC
                  cases hje : Nat.beq id j with
                  | true =>
                    have := Nat.eq_of_beq_eq_true hje
                    subst this
                    simp [put] at hj
                  | false =>
                    have hne : j ≠ id := fun e => by subst e; simp at hje
                    simp only [hje] at hC
                    simp only [put, if_neg hne] at hj
                    exact Nat.lt_irrefl _ (live_lt hf.rel ⟨j, C, o', sz', hC, hj⟩)
                · obtain ⟨q, q1, q2, q3, q4⟩ := (hf.defs.keeps K₂).1 m hm
                  exact ⟨q, q1, q2, q3, q4⟩
              · refine .cons (fun m hm => ?_) hf.defs.2
                obtain ⟨q, q1, q2, q3, q4⟩ := hf.defs.1 m hm
                rw [q1]
                intro e
                simp only [Target.collected.injEq] at e
                have := lt_of_heap q3
                omega
            have hQ' : ∀ w'', Fit E ra base ι' (d₂ ++ (d₁ ++ (id, some (.loop ts ps.toList as bd .ready none)) :: h)) w'' nb p.2 { a with defers := [{ target := .collected w.heap.size, args := #[] }] ++ a.defers } → Keeps ι' (d₁ ++ (id, some (.loop ts ps.toList as bd .ready none)) :: h) w' ι' (d₂ ++ (d₁ ++ (id, some (.loop ts ps.toList as bd .ready none)) :: h)) w'' → Q p.1.toExit { a with defers := [{ target := .collected w.heap.size, args := #[] }] ++ a.defers } w'' := by
              intro w'' f'' k''
              have := hQ ι' _ w'' (by simpa using f'') (by simpa using K₃.trans k'')
              exact this
            exact endLoopA_sound (b := w.heap.size + 1) (o := 0) (sz := 0) (hfit.move g2 g3) (g3.ext id _ (by simp [put])) h2 hQ' v'
    · exact hr.elim
  · obtain ⟨rfl, rfl, rfl⟩ := hr
    exact wpIn_exit (hQ ι a w hf (.refl _ _ _))
  · rename_i x
    refine wpIn_scope (hR fi _ ro x ts ι h w nb a p d r (hat.kid rfl) hf hr _ fun ι' a' w' f' k' => ?_)
    have := hQ ι' a' w' f' k'
    revert this
    cases p.1 <;> exact id
  · obtain ⟨rfl, rfl, rfl⟩ := hr
    exact wpIn_ret (hQ ι a w hf (.refl _ _ _))
  · exact hr.elim
theorem exec_sound (hL : LoopsOK P E ra base L) (hS : SumsOK P E ra base S) (hX : ExtsOK P E ra X) (hN : NamesOK P) (hm : P.follows .mixedOrders = true) : ∀ n, ExecOK P E ra base (exec P E S X L n)
  | 0 => fun _ _ _ _ _ _ _ _ _ _ _ _ _ _ _ hr => hr.elim
  | n + 1 => execF_sound hL (exec_sound hL hS hX hN hm n) hS hX hN hm n
end Go.Proofs.Ytgkejpfahpbnkaa.Ab

namespace Go.Proofs.Ytgkejpfahpbnkaa.Ab
open Go.ChangeShapes Go.WideShapes Go.ChangeAt Go.RowKit
variable {P : Program} {E : Nat → Nat → Seg} {ra : Nat → Nat → Nat × Nat} {base : Nat} {S : Sums} {X : Exts} {R : Walk}
theorem extNone_ok : ExtsOK P E ra (fun _ => none) := fun _ _ _ _ _ _ _ hx => by cases hx
def noL : Loops := fun _ _ => none
theorem noL_ok : LoopsOK P E ra base noL := fun _ _ _ h => by cases h
theorem sumNone_ok : SumsOK P E ra base (fun _ => none) := fun _ _ hx => by cases hx
def namesB (P : Program) : Bool := P.funcs.toList.all fun fn => !(fn.name == "runtime.NumGoroutine")
theorem names_ok (h : namesB P = true) : NamesOK P := by
  intro f fn hf
  have : fn ∈ P.funcs.toList := by
    rw [Array.mem_toList_iff]; exact Array.mem_of_getElem? hf
  have := List.all_eq_true.1 h fn this
  simpa using this
theorem WRel.start {w : World} (hE : ∀ tid par, 0 < (E tid par).n → (ra tid par).1 < w.heap.size) (hwf : ∀ tid par, (E tid par).WF)
    (hro : ∀ tid par j v, cellOf [E tid par] j = some v → ∃ c, w.cell? ⟨(ra tid par).1, (ra tid par).2 + j, none⟩ = some c ∧ Rel E ra (fun _ => none) v c) :
    WRel E ra (2 ^ w.heap.size - 1) (fun _ => none) [] w :=
  ⟨fun _ _ h => (by cases h), fun _ _ h => (by cases h), fun _ _ _ _ _ _ h => (by cases h), fun _ h => Ro.first.1 h, fun t p h => Ro.first.2 (hE t p h), hwf, hro⟩
def s0 : St := ⟨[], 0, [], []⟩
theorem trodAll_below {H : Type} {enc : TypeId × Value → H} {W W' : World} (hl : laidOutB P = true) (hb : RowKit.Below W.heap.size W W') : ∀ {ts : List TypeId} {vs : List Value} {ds : List (DataW H)} {ps : List MemPlace},
    (∀ t ∈ ts, P.readableRec t = true ∧ t < P.types.size) → DataW.TrodAll enc P W 0 (fun _ => true) true ts vs ds ps → (∀ x ∈ ps, x.block < W.heap.size) →
    DataW.TrodAll enc P W' 0 (fun b => decide (b < W.heap.size)) true ts vs ds ps
  | [], _, _, _, _, h, _ => by
    obtain ⟨rfl, rfl, rfl⟩ := trodAll_nil h
    exact trodAll_mk0
  | t :: ts, _, _, _, ht, h, hp => by
    obtain ⟨v, vs1, d, ds1, a, b, rfl, rfl, rfl, h1, h2⟩ := trodAll_cons h
    exact ⟨a, b, RowKit.Below.trod hl (ht t (by simp)).1 (ht t (by simp)).2 h1 hb (fun x hx => hp x (by simp [hx])), trodAll_below hl hb (fun t ht' => ht t (by simp [ht'])) h2 (fun x hx => hp x (by simp [hx])), rfl⟩
def lawB (P : Program) (fn : Func) : Bool :=
  match fn.resultTypes.toList with
  | [tb] => (match P.underlying tb with
    | some .bool => true
    | _ => false) && fn.params.toList.all fun t => P.readableRec t && Nat.blt t P.types.size
  | _ => false
theorem lawB_spec {fn : Func} (h : lawB P fn = true) : ∃ tb, fn.resultTypes = #[tb] ∧ P.underlying tb = some .bool ∧ ∀ t ∈ fn.params.toList, P.readableRec t = true ∧ t < P.types.size := by
  unfold lawB at h
  split at h
  · rename_i tb e
    simp only [Bool.and_eq_true, List.all_eq_true] at h
    refine ⟨tb, by apply Array.ext'; simpa using e, ?_, fun t ht => ⟨(h.2 t ht).1, Nat.le_of_ble_eq_true (h.2 t ht).2⟩⟩
    revert h
    split
    · rename_i e'; intro _; exact e'
    · rintro ⟨h, _⟩; cases h
  · cases h
theorem post_true {H : Type} {enc : TypeId × Value → H} {fn : Func} {s : ChangeSpec} {W W' : World} {args : Array Value} {ds gs : List (DataW H)} {before : List MemPlace} (hl : laidOutB P = true)
    (hlaw : lawB P fn = true) (hv : s.vars = [])
    (hW : DataW.Whole enc P fn.params.toList s.vars false W args.toList ds gs before) (hs : s.fn H ds = { results := [.lit (.bool true)], args := ds }) (hb : RowKit.Below W.heap.size W W') :
    s.post enc P fn false true false false W args (.bool true) W' := by
  obtain ⟨tb, hrt, htb, hts⟩ := lawB_spec hlaw
  have hlt := hW.lt
  have hW' := hW
  obtain ⟨p, q, hA, hV, rfl, _, _⟩ := hW
  rw [hv] at hV
  obtain ⟨rfl, rfl⟩ := trodVars_none hV
  have hs' : s.fn H (ds ++ []) = { results := [.lit (.bool true)], args := ds } := by rw [List.append_nil]; exact hs
  refine ⟨ds, [], _, [], p, [], hW', ?_, ?_, ?_, hb.frame _, fun h => by cases h⟩
  · rw [hs', hrt]; exact trodAll_mk1 (shut_bool htb true)
  · rw [hs']; exact trodAll_below hl hb hts hA (fun x hx => hlt x (by simp [hx]))
  · rw [hs', hv]; rfl
end Go.Proofs.Ytgkejpfahpbnkaa.Ab

namespace Go.Proofs.Ytgkejpfahpbnkaa.Ab
variable {P : Program} {E : Nat → Nat → Seg} {ra : Nat → Nat → Nat × Nat} {base : Nat} {S : Sums} {X : Exts} {R : Walk}
def renA (τ : Nat → Nat) : AAddr → AAddr
  | .own id off i st => .own (τ id) off i st
  | .ro tid par i c => .ro tid par i c
mutual
def renV (τ : Nat → Nat) : AVal → AVal
  | .undef => .undef
  | .bool b => .bool b
  | .int k n => .int k n
  | .str s => .str s
  | .nilp => .nilp
  | .ptr a => .ptr (renA τ a)
  | .nils => .nils
  | .slice a l c => .slice (renA τ a) l c
  | .nilf => .nilf
  | .fn f cs => .fn f (renL τ cs)
  | .yld id => .yld (τ id)
  | .nili => .nili
  | .iface t v => .iface t (renV τ v)
  | .nilm => .nilm
  | .mapv id => .mapv (τ id)
  | .agg cs => .agg (renL τ cs)
  | .tup cs => .tup (renL τ cs)
def renL (τ : Nat → Nat) : List AVal → List AVal
  | [] => []
  | v :: l => renV τ v :: renL τ l
end
def usesA (p : Nat → Bool) : AAddr → Bool
  | .own id _ _ _ => p id
  | .ro _ _ _ _ => true
mutual
def usesV (p : Nat → Bool) : AVal → Bool
  | .undef => true
  | .bool _ => true
  | .int _ _ => true
  | .str _ => true
  | .nilp => true
  | .ptr a => usesA p a
  | .nils => true
  | .slice a _ _ => usesA p a
  | .nilf => true
  | .fn _ cs => usesL p cs
  | .yld id => p id
  | .nili => true
  | .iface _ v => usesV p v
  | .nilm => true
  | .mapv id => p id
  | .agg cs => usesL p cs
  | .tup cs => usesL p cs
def usesL (p : Nat → Bool) : List AVal → Bool
  | [] => true
  | v :: l => usesV p v && usesL p l
end
def renC (τ : Nat → Nat) : Col → Col
  | .val xs => .val (renL τ xs)
  | .mix t ns bs v => .mix t ns bs (renV τ v)
  | c => c
def renS (τ : Nat → Nat) (s : Seg) : Seg := { s with cols := s.cols.map (renC τ) }
def renB (τ : Nat → Nat) : Blk → Blk
  | .segs l => .segs (l.map (renS τ))
  | .map es => .map (es.map fun e => (renV τ e.1, renV τ e.2))
  | .loop ts ps as bd st pe => .loop (renL τ ts) ps as bd st pe
def usesC (p : Nat → Bool) : Col → Bool
  | .val xs => usesL p xs
  | .mix _ _ _ v => usesV p v
  | _ => true
def usesB (p : Nat → Bool) : Blk → Bool
  | .segs l => l.all fun s => s.cols.all (usesC p)
  | .map _ => false
  | .loop ts _ _ _ _ _ => usesL p ts
def Names (p : Nat → Bool) (τ : Nat → Nat) (ι ι' : Inj) : Prop := ∀ id y, p id = true → ι id = some y → ι' (τ id) = some y
theorem relA_ren {p : Nat → Bool} {τ : Nat → Nat} {ι ι' : Inj} (hn : Names p τ ι ι') {a : AAddr} {x : Addr} (hu : usesA p a = true) (h : RelA E ra ι a x) : RelA E ra ι' (renA τ a) x := by
  cases a with
  | own id off i st => obtain ⟨b, o, sz, h1, h2⟩ := h; exact ⟨b, o, sz, hn _ _ hu h1, h2⟩
  | ro tid par i c => exact h
theorem named_ren {p : Nat → Bool} {τ : Nat → Nat} {ι ι' : Inj} (hn : Names p τ ι ι') {a : AAddr} (hu : usesA p a = true) (h : Named ι a) : Named ι' (renA τ a) := by
  cases a with
  | own id off i st => obtain ⟨y, h1⟩ := h; exact ⟨y, hn _ _ hu h1⟩
  | ro tid par i c => exact h
theorem relS_ren {p : Nat → Bool} {τ : Nat → Nat} {ι ι' : Inj} (hn : Names p τ ι ι') {a : AAddr} {len : Nat} {cap : Option Nat} {x : Addr} {cap' : Nat} (hu : usesA p a = true) (h : RelS E ra ι a len cap x cap') : RelS E ra ι' (renA τ a) len cap x cap' := by
  obtain ⟨h1, h2, h3⟩ := h
  refine ⟨h1, h2, h3.imp id ?_⟩
  cases a with
  | own id off i st => rintro ⟨b, o, sz, h4, h5⟩; exact ⟨b, o, sz, hn _ _ hu h4, h5⟩
  | ro tid par i c => exact id
mutual
theorem rel_ren {p : Nat → Bool} {τ : Nat → Nat} {ι ι' : Inj} (hn : Names p τ ι ι') : ∀ {v : AVal} {x : Value}, usesV p v = true → Rel E ra ι v x → Rel E ra ι' (renV τ v) x
  | .undef, _, _, .undef v => by rw [renV]; exact .undef v
  | .bool _, _, _, .bool b => by rw [renV]; exact .bool b
  | .int _ _, _, _, .int k n => by rw [renV]; exact .int k n
  | .str _, _, _, .str s => by rw [renV]; exact .str s
  | .nilp, _, _, .nilp => by rw [renV]; exact .nilp
  | .ptr _, _, hu, .ptr h => by rw [renV]; rw [usesV] at hu; exact .ptr (relA_ren hn hu h)
  | .nils, _, _, .nils => by rw [renV]; exact .nils
  | .slice _ _ _, _, hu, .slice h hN => by rw [renV]; rw [usesV] at hu; exact .slice (relS_ren hn hu h) (named_ren hn hu hN)
  | .nilf, _, _, .nilf => by rw [renV]; exact .nilf
  | .fn _ _, _, hu, .fn h => by rw [renV]; rw [usesV] at hu; exact .fn (relL_ren hn hu h)
  | .yld _, _, hu, .yld h => by rw [renV]; rw [usesV] at hu; exact .yld (hn _ _ hu h)
  | .nili, _, _, .nili => by rw [renV]; exact .nili
  | .iface _ _, _, hu, .iface h => by rw [renV]; rw [usesV] at hu; exact .iface (rel_ren hn hu h)
  | .nilm, _, _, .nilm => by rw [renV]; exact .nilm
  | .mapv _, _, hu, .mapv h => by rw [renV]; rw [usesV] at hu; exact .mapv (hn _ _ hu h)
  | .agg _, _, hu, .agg h => by rw [renV]; rw [usesV] at hu; exact .agg (relL_ren hn hu h)
  | .tup _, _, hu, .tup h => by rw [renV]; rw [usesV] at hu; exact .tup (relL_ren hn hu h)
theorem relL_ren {p : Nat → Bool} {τ : Nat → Nat} {ι ι' : Inj} (hn : Names p τ ι ι') : ∀ {cs : List AVal} {vs : List Value}, usesL p cs = true → RelL E ra ι cs vs → RelL E ra ι' (renL τ cs) vs
  | [], _, _, .nil => by rw [renL]; exact .nil
  | _ :: _, _, hu, .cons h t => by
    rw [renL]; rw [usesL, Bool.and_eq_true] at hu
    exact .cons (rel_ren hn hu.1 h) (relL_ren hn hu.2 t)
end
theorem colAt_ren (τ : Nat → Nat) (c : Col) (r : Nat) : colAt (renC τ c) r = renV τ (colAt c r) := by
  cases c with
  | int k xs => simp only [renC, colAt, renV]
  | bool xs => simp only [renC, colAt, renV]
  | str xs => simp only [renC, colAt, renV]
  | nilc n => simp only [renC, colAt, renV]
  | val xs =>
    simp only [renC, colAt]
    induction xs generalizing r with
    | nil => simp [renL, renV]
    | cons x xs ih => cases r with
      | zero => simp [renL]
      | succ r => simpa [renL] using ih r
  | subs t ns bs =>
    simp only [renC, colAt]
    cases bs.getD r true <;> simp [renV, renA]
  | mix t ns bs v =>
    simp only [renC, colAt]
    cases Nat.ble (r + 1) ns.length <;> cases bs.getD r true <;> simp [renV, renA]
theorem cellOf_ren (τ : Nat → Nat) : ∀ (l : List Seg) (j : Nat), cellOf (l.map (renS τ)) j = (cellOf l j).map (renV τ)
  | [], j => rfl
  | s :: l, j => by
    simp only [List.map_cons, cellOf, renS]
    cases Nat.ble (j + 1) (s.n * s.st) with
    | true =>
      simp only [List.getElem?_map]
      cases s.cols[j % s.st]? with
      | none => rfl
      | some c => simp only [Option.map_some, colAt_ren]
    | false => exact cellOf_ren τ l _
theorem usesL_get {p : Nat → Bool} : ∀ {l : List AVal} {v : AVal}, usesL p l = true → v ∈ l → usesV p v = true
  | x :: l, v, h, hm => by
    rw [usesL, Bool.and_eq_true] at h
    rcases List.mem_cons.1 hm with rfl | hm
    · exact h.1
    · exact usesL_get h.2 hm
theorem uses_col {p : Nat → Bool} {c : Col} (h : usesC p c = true) (r : Nat) : usesV p (colAt c r) = true := by
  cases c with
  | int k xs => simp [colAt, usesV]
  | bool xs => simp [colAt, usesV]
  | str xs => simp [colAt, usesV]
  | nilc n => simp [colAt, usesV]
  | val xs =>
    simp only [colAt, List.getD_eq_getElem?_getD]
    cases hr : xs[r]? with
    | none => simp [usesV]
    | some v => exact usesL_get h (List.mem_of_getElem? hr)
  | subs t ns bs =>
    simp only [colAt]
    cases bs.getD r true <;> simp [usesV, usesA]
  | mix t ns bs v =>
    simp only [colAt]
    cases Nat.ble (r + 1) ns.length <;> cases bs.getD r true <;> first | exact h | simp [usesV, usesA]
theorem uses_cell {p : Nat → Bool} : ∀ {l : List Seg} {j : Nat} {v : AVal}, (l.all fun s => s.cols.all (usesC p)) = true → cellOf l j = some v → usesV p v = true
  | s :: l, j, v, hu, h => by
    simp only [List.all_cons, Bool.and_eq_true] at hu
    simp only [cellOf] at h
    cases hb : Nat.ble (j + 1) (s.n * s.st) with
    | true =>
      simp only [hb] at h
      cases hc : s.cols[j % s.st]? with
      | none => simp [hc] at h
      | some c =>
        simp only [hc, Option.some.injEq] at h
        subst h
        exact uses_col (List.all_eq_true.1 hu.1 c (List.mem_of_getElem? hc)) _
    | false => simp only [hb] at h; exact uses_cell hu.2 h
theorem renL_length (τ : Nat → Nat) : ∀ l : List AVal, (renL τ l).length = l.length
  | [] => rfl
  | v :: l => by rw [renL, List.length_cons, renL_length τ l, List.length_cons]
theorem renC_len (τ : Nat → Nat) (c : Col) : (renC τ c).len = c.len := by cases c <;> simp [renC, Col.len, renL_length]
theorem renS_total (τ : Nat → Nat) : ∀ l : List Seg, total (l.map (renS τ)) = total l
  | [] => rfl
  | s :: l => by simp only [List.map_cons, total, renS, renS_total τ l]
theorem renS_WF {τ : Nat → Nat} {l : List Seg} : WFs (l.map (renS τ)) ↔ WFs l := by
  constructor
  · intro h s hs
    have := h (renS τ s) (List.mem_map_of_mem hs)
    refine ⟨by simpa [renS] using this.1, fun c hc => ?_⟩
    have := this.2 (renC τ c) (by simp only [renS]; exact List.mem_map_of_mem hc)
    rwa [renC_len] at this
  · intro h s hs
    obtain ⟨q, hq, rfl⟩ := List.mem_map.1 hs
    refine ⟨by simpa [renS] using (h q hq).1, fun c hc => ?_⟩
    simp only [renS] at hc
    obtain ⟨c', hc', rfl⟩ := List.mem_map.1 hc
    rw [renC_len]; exact (h q hq).2 c' hc'
theorem blk_ren {p : Nat → Bool} {τ : Nat → Nat} {ι ι' : Inj} {w : World} (hn : Names p τ ι ι') {id : Nat} (hp : p id = true) {B : Blk} (hu : usesB p B = true) (h : BlkRel E ra base ι w id B) : BlkRel E ra base ι' w (τ id) (renB τ B) := by
  cases B with
  | segs l =>
    obtain ⟨b, o, cs, el, fz, h1, h2, h3, h4, h5, h6, h7⟩ := h
    refine ⟨b, o, cs, el, fz, hn _ _ hp h1, h2, h3, h4, by rw [renS_total]; exact h5, renS_WF.2 h6, fun j v hv => ?_⟩
    rw [cellOf_ren] at hv
    cases hc : cellOf l j with
    | none => rw [hc] at hv; cases hv
    | some v0 =>
      rw [hc] at hv
      simp only [Option.map_some, Option.some.injEq] at hv
      subst hv
      obtain ⟨c, hc1, hc2⟩ := h7 j v0 hc
      exact ⟨c, hc1, rel_ren hn (uses_cell hu hc) hc2⟩
  | map es => cases hu
  | loop ts ps as bd st pe =>
    obtain ⟨b, o, sz, r, h1, h2, h3, h4, h5⟩ := h
    exact ⟨b, o, sz, r, hn _ _ hp h1, h2, h3, relL_ren hn hu h4, h5⟩
section
variable {p : Nat → Bool} {σ : Nat → Nat} {ι ιc : Inj}
theorem relA_fwd (hc : ∀ id, p id = true → ιc id = ι (σ id)) {a : AAddr} {x : Addr} (hu : usesA p a = true) (h : RelA E ra ι (renA σ a) x) : RelA E ra ιc a x := by
  cases a with
  | own id off i st => obtain ⟨b, o, sz, h1, h2⟩ := h; exact ⟨b, o, sz, by rw [hc _ hu]; exact h1, h2⟩
  | ro tid par i c => exact h
theorem relS_fwd (hc : ∀ id, p id = true → ιc id = ι (σ id)) {a : AAddr} {len : Nat} {cap : Option Nat} {x : Addr} {cap' : Nat} (hu : usesA p a = true) (h : RelS E ra ι (renA σ a) len cap x cap') : RelS E ra ιc a len cap x cap' := by
  obtain ⟨h1, h2, h3⟩ := h
  refine ⟨h1, h2, h3.imp id ?_⟩
  cases a with
  | own id off i st => rintro ⟨b, o, sz, h4, h5⟩; exact ⟨b, o, sz, by rw [hc _ hu]; exact h4, h5⟩
  | ro tid par i c => exact id
theorem named_fwd (hc : ∀ id, p id = true → ιc id = ι (σ id)) {a : AAddr} (hu : usesA p a = true) (h : Named ι (renA σ a)) : Named ιc a := by
  cases a with
  | own id off i st => obtain ⟨y, h1⟩ := h; exact ⟨y, by rw [hc _ hu]; exact h1⟩
  | ro tid par i c => trivial
mutual
theorem rel_fwd (hc : ∀ id, p id = true → ιc id = ι (σ id)) : ∀ (v : AVal) {x : Value}, usesV p v = true → Rel E ra ι (renV σ v) x → Rel E ra ιc v x
  | .undef, _, _, _ => .undef _
  | .bool b, _, _, h => by rw [renV] at h; cases h; exact .bool b
  | .int k n, _, _, h => by rw [renV] at h; cases h; exact .int k n
  | .str s, _, _, h => by rw [renV] at h; cases h; exact .str s
  | .nilp, _, _, h => by rw [renV] at h; cases h; exact .nilp
  | .ptr a, _, hu, h => by rw [renV] at h; rw [usesV] at hu; cases h with | ptr h => exact .ptr (relA_fwd hc hu h)
  | .nils, _, _, h => by rw [renV] at h; cases h; exact .nils
  | .slice a l c, _, hu, h => by rw [renV] at h; rw [usesV] at hu; cases h with | slice h hN => exact .slice (relS_fwd hc hu h) (named_fwd hc hu hN)
  | .nilf, _, _, h => by rw [renV] at h; cases h; exact .nilf
  | .fn f cs, _, hu, h => by rw [renV] at h; rw [usesV] at hu; cases h with | fn h => exact .fn (relL_fwd hc cs hu h)
  | .yld id, _, hu, h => by rw [renV] at h; rw [usesV] at hu; cases h with | yld h => exact .yld (by rw [hc _ hu]; exact h)
  | .nili, _, _, h => by rw [renV] at h; cases h; exact .nili
  | .iface t v, _, hu, h => by rw [renV] at h; rw [usesV] at hu; cases h with | iface h => exact .iface (rel_fwd hc v hu h)
  | .nilm, _, _, h => by rw [renV] at h; cases h; exact .nilm
  | .mapv id, _, hu, h => by rw [renV] at h; rw [usesV] at hu; cases h with | mapv h => exact .mapv (by rw [hc _ hu]; exact h)
  | .agg cs, _, hu, h => by rw [renV] at h; rw [usesV] at hu; cases h with | agg h => exact .agg (relL_fwd hc cs hu h)
  | .tup cs, _, hu, h => by rw [renV] at h; rw [usesV] at hu; cases h with | tup h => exact .tup (relL_fwd hc cs hu h)
theorem relL_fwd (hc : ∀ id, p id = true → ιc id = ι (σ id)) : ∀ (cs : List AVal) {vs : List Value}, usesL p cs = true → RelL E ra ι (renL σ cs) vs → RelL E ra ιc cs vs
  | [], _, _, h => by rw [renL] at h; cases h; exact .nil
  | v :: cs, _, hu, h => by
    rw [renL] at h; rw [usesL, Bool.and_eq_true] at hu
    cases h with | cons h t => exact .cons (rel_fwd hc v hu.1 h) (relL_fwd hc cs hu.2 t)
end
theorem blk_fwd (hc : ∀ id, p id = true → ιc id = ι (σ id)) {w : World} {id : Nat} (hp : p id = true) {B : Blk} (hu : usesB p B = true) (h : BlkRel E ra base ι w (σ id) (renB σ B)) : BlkRel E ra base ιc w id B := by
  cases B with
  | segs l =>
    obtain ⟨b, o, cs, el, fz, h1, h2, h3, h4, h5, h6, h7⟩ := h
    refine ⟨b, o, cs, el, fz, by rw [hc _ hp]; exact h1, h2, h3, h4, by rw [renS_total] at h5; exact h5, renS_WF.1 h6, fun j v hv => ?_⟩
    obtain ⟨c, hc1, hc2⟩ := h7 j (renV σ v) (by rw [cellOf_ren, hv]; rfl)
    exact ⟨c, hc1, rel_fwd hc v (uses_cell hu hv) hc2⟩
  | map es => cases hu
  | loop ts ps as bd st pe =>
    obtain ⟨b, o, sz, r, h1, h2, h3, h4, h5⟩ := h
    exact ⟨b, o, sz, r, by rw [hc _ hp]; exact h1, h2, h3, relL_fwd hc ts hu h4, h5⟩
end
def Plain (E : Nat → Nat → Seg) : Prop := ∀ tid par j v, cellOf [E tid par] j = some v → usesV (fun _ => false) v = true
theorem names_none {ι ι' : Inj} (τ : Nat → Nat) : Names (fun _ => false) τ ι ι' := fun _ _ h => by cases h
mutual
theorem renV_plain : ∀ {v : AVal}, usesV (fun _ => false) v = true → renV id v = v
  | .undef, _ => by rw [renV]
  | .bool _, _ => by rw [renV]
  | .int _ _, _ => by rw [renV]
  | .str _, _ => by rw [renV]
  | .nilp, _ => by rw [renV]
  | .ptr (.own _ _ _ _), h => by rw [usesV, usesA] at h; cases h
  | .ptr (.ro _ _ _ _), _ => by rw [renV, renA]
  | .nils, _ => by rw [renV]
  | .slice (.own _ _ _ _) _ _, h => by rw [usesV, usesA] at h; cases h
  | .slice (.ro _ _ _ _) _ _, _ => by rw [renV, renA]
  | .nilf, _ => by rw [renV]
  | .fn _ _, h => by rw [usesV] at h; rw [renV, renL_plain h]
  | .yld _, h => by rw [usesV] at h; cases h
  | .nili, _ => by rw [renV]
  | .iface _ _, h => by rw [usesV] at h; rw [renV, renV_plain h]
  | .nilm, _ => by rw [renV]
  | .mapv _, h => by rw [usesV] at h; cases h
  | .agg _, h => by rw [usesV] at h; rw [renV, renL_plain h]
  | .tup _, h => by rw [usesV] at h; rw [renV, renL_plain h]
theorem renL_plain : ∀ {l : List AVal}, usesL (fun _ => false) l = true → renL id l = l
  | [], _ => by rw [renL]
  | v :: l, h => by rw [usesL, Bool.and_eq_true] at h; rw [renL, renV_plain h.1, renL_plain h.2]
end
theorem rel_plain {ι ι' : Inj} {v : AVal} {x : Value} (hu : usesV (fun _ => false) v = true) (h : Rel E ra ι v x) : Rel E ra ι' v x := by
  have := rel_ren (names_none (ι := ι) (ι' := ι') id) hu h
  rwa [renV_plain hu] at this
def canI (ι : Inj) (σ : Nat → Nat) (k : Nat) : Inj := fun i => if i < k then ι (σ i) else none
structure Small (h hc : Log) (k : Nat) (σ : Nat → Nat) : Prop where
  ids : ∀ i, i ∈ ids hc ↔ i < k
  all : ∀ i, i < k → ∃ B, view hc i = some B
  view : ∀ i B, view hc i = some B → view h (σ i) = some (renB σ B)
  inj : ∀ i j, i < k → j < k → σ i = σ j → i = j
  shut : ∀ i B, Ab.view hc i = some B → usesB (fun j => Nat.blt j k) B = true
theorem blt_iff {a b : Nat} : Nat.blt a b = true ↔ a < b := ⟨Nat.le_of_ble_eq_true, Nat.ble_eq_true_of_le⟩
theorem Small.lt {h hc : Log} {k : Nat} {σ : Nat → Nat} (s : Small h hc k σ) {i : Nat} {B : Blk} (hv : Ab.view hc i = some B) : i < k := (s.ids i).1 (view_mem hv)
theorem canI_eq {ι : Inj} {σ : Nat → Nat} {k : Nat} (i : Nat) (h : Nat.blt i k = true) : canI ι σ k i = ι (σ i) := by simp only [canI, if_pos (blt_iff.1 h)]
theorem Small.fwd {h hc : Log} {k : Nat} {σ : Nat → Nat} (s : Small h hc k σ) (hE : Plain E) {ι : Inj} {w : World} (H : WRel E ra base ι h w) : WRel E ra base (canI ι σ k) hc w := by
  refine ⟨fun i x hx => ?_, fun i B hB => ?_, fun i j B B' x x' hi hj hx hx' he => ?_, H.le, H.roLt, H.roWF, fun tid par j v hv => ?_⟩
  · rw [s.ids]
    rcases Nat.lt_or_ge i k with h' | h'
    · exact h'
    · simp only [canI, if_neg (Nat.not_lt.2 h')] at hx; cases hx
  · exact blk_fwd canI_eq (blt_iff.2 (s.lt hB)) (s.shut i B hB) (H.own _ _ (s.view i B hB))
  · rw [canI_eq i (blt_iff.2 (s.lt hi))] at hx
    rw [canI_eq j (blt_iff.2 (s.lt hj))] at hx'
    exact s.inj i j (s.lt hi) (s.lt hj) (H.inj _ _ _ _ x x' (s.view i B hi) (s.view j B' hj) hx hx' he)
  · obtain ⟨c, h1, h2⟩ := H.ro tid par j v hv
    exact ⟨c, h1, rel_plain (hE tid par j v hv) h2⟩
theorem Small.live {h hc : Log} {k : Nat} {σ : Nat → Nat} (s : Small h hc k σ) {ι : Inj} {b : Nat} (hl : Live (canI ι σ k) hc b) : Live ι h b := by
  obtain ⟨i, B, o, sz, h1, h2⟩ := hl
  rw [canI_eq i (blt_iff.2 (s.lt h1))] at h2
  exact ⟨σ i, _, o, sz, s.view i B h1, h2⟩
structure Told (h hc dc d : Log) (k : Nat) (σ τ : Nat → Nat) (keep : Nat → Bool) : Prop where
  old : ∀ i, i < k → τ i = σ i ∧ keep i = true
  new : ∀ i, k ≤ i → keep i = true → τ i ∉ ids h
  inj : ∀ i j, k ≤ i → k ≤ j → keep i = true → keep j = true → τ i = τ j → i = j
  put : ∀ i, keep i = true → i ∈ ids dc → τ i ∈ ids d ∧ view d (τ i) = (view dc i).map (renB τ)
  only : ∀ j, j ∈ ids d → ∃ i, keep i = true ∧ i ∈ ids dc ∧ j = τ i
  uses : ∀ i B, keep i = true → view (dc ++ hc) i = some B → usesB keep B = true
theorem renA_congr {p : Nat → Bool} {σ τ : Nat → Nat} (h : ∀ i, p i = true → τ i = σ i) {a : AAddr} (hu : usesA p a = true) : renA τ a = renA σ a := by
  cases a with
  | own id off i st => simp only [renA, h _ hu]
  | ro tid par i c => rfl
mutual
theorem renV_congr {p : Nat → Bool} {σ τ : Nat → Nat} (h : ∀ i, p i = true → τ i = σ i) : ∀ (v : AVal), usesV p v = true → renV τ v = renV σ v
  | .undef, _ => by rw [renV, renV]
  | .bool _, _ => by rw [renV, renV]
  | .int _ _, _ => by rw [renV, renV]
  | .str _, _ => by rw [renV, renV]
  | .nilp, _ => by rw [renV, renV]
  | .ptr a, hu => by rw [usesV] at hu; rw [renV, renV, renA_congr h hu]
  | .nils, _ => by rw [renV, renV]
  | .slice a _ _, hu => by rw [usesV] at hu; rw [renV, renV, renA_congr h hu]
  | .nilf, _ => by rw [renV, renV]
  | .fn _ cs, hu => by rw [usesV] at hu; rw [renV, renV, renL_congr h cs hu]
  | .yld _, hu => by rw [usesV] at hu; rw [renV, renV, h _ hu]
  | .nili, _ => by rw [renV, renV]
  | .iface _ v, hu => by rw [usesV] at hu; rw [renV, renV, renV_congr h v hu]
  | .nilm, _ => by rw [renV, renV]
  | .mapv _, hu => by rw [usesV] at hu; rw [renV, renV, h _ hu]
  | .agg cs, hu => by rw [usesV] at hu; rw [renV, renV, renL_congr h cs hu]
  | .tup cs, hu => by rw [usesV] at hu; rw [renV, renV, renL_congr h cs hu]
theorem renL_congr {p : Nat → Bool} {σ τ : Nat → Nat} (h : ∀ i, p i = true → τ i = σ i) : ∀ (l : List AVal), usesL p l = true → renL τ l = renL σ l
  | [], _ => by rw [renL, renL]
  | v :: l, hu => by rw [usesL, Bool.and_eq_true] at hu; rw [renL, renL, renV_congr h v hu.1, renL_congr h l hu.2]
end
theorem renB_congr {p : Nat → Bool} {σ τ : Nat → Nat} (h : ∀ i, p i = true → τ i = σ i) {B : Blk} (hu : usesB p B = true) : renB τ B = renB σ B := by
  cases B with
  | segs l =>
    simp only [renB, Blk.segs.injEq]
    refine List.map_congr_left fun s hs => ?_
    simp only [renS, Seg.mk.injEq, true_and]
    refine List.map_congr_left fun c hc => ?_
    have := List.all_eq_true.1 (List.all_eq_true.1 hu s hs) c hc
    cases c with
    | val xs => simp only [renC]; rw [renL_congr h xs this]
    | mix t ns bs v => simp only [renC]; rw [renV_congr h v this]
    | _ => rfl
  | map es => cases hu
  | loop ts ps as bd st pe => simp only [renB]; rw [renL_congr h ts hu]
open Classical in
noncomputable def backI (ι ιc : Inj) (h : Log) (k : Nat) (τ : Nat → Nat) (keep : Nat → Bool) : Inj := fun j =>
  if j ∈ ids h then ι j else if hx : ∃ i, keep i = true ∧ k ≤ i ∧ τ i = j then ιc hx.choose else none
theorem Told.back {h hc dc d : Log} {k : Nat} {σ τ : Nat → Nat} {keep : Nat → Bool} (t : Told h hc dc d k σ τ keep) (s : Small h hc k σ) (hE : Plain E) {ι ιc : Inj} {w w' : World} (H : WRel E ra base ι h w)
    (Hc : WRel E ra base ιc (dc ++ hc) w') (Kc : Keeps (canI ι σ k) hc w ιc (dc ++ hc) w') :
    ∃ ι', WRel E ra base ι' (d ++ h) w' ∧ Keeps ι h w ι' (d ++ h) w' ∧ ∀ v x, usesV keep v = true → Rel E ra ιc v x → Rel E ra ι' (renV τ v) x := by
  have H0 := s.fwd hE H
  let ι' := backI ι ιc h k τ keep
  have hin : ∀ j, j ∈ ids h → ι' j = ι j := fun j hj => by simp only [ι', backI, if_pos hj]
  have hold : ∀ i, i < k → σ i ∈ ids h := fun i hi => let ⟨B, hB⟩ := s.all i hi; view_mem (s.view i B hB)
  have hcan : ∀ i, i < k → ∀ y, ιc i = some y → ι (σ i) = some y := by
    intro i hi y hy
    obtain ⟨B, hB⟩ := s.all i hi
    obtain ⟨b, o, sz, h1, _, _⟩ := (H0.own i B hB).at
    have := Kc.ext i _ h1
    rw [hy] at this
    rw [this, ← canI_eq (ι := ι) (σ := σ) i (blt_iff.2 hi)]; exact h1
  have hnew : ∀ i, k ≤ i → keep i = true → ι' (τ i) = ιc i := by
    intro i hi hk
    have hex : ∃ q, keep q = true ∧ k ≤ q ∧ τ q = τ i := ⟨i, hk, hi, rfl⟩
    simp only [ι', backI, if_neg (t.new i hi hk), dif_pos hex]
    obtain ⟨a1, a2, a3⟩ := hex.choose_spec
    rw [t.inj _ _ a2 hi a1 hk a3]
  have hN : Names keep τ ιc ι' := by
    intro i y hk hy
    rcases Nat.lt_or_ge i k with hi | hi
    · rw [(t.old i hi).1, hin _ (hold i hi)]; exact hcan i hi y hy
    · rw [hnew i hi hk]; exact hy
  have hext : Ext ι ι' := fun j x hx => by rw [hin j (H.dom j x hx)]; exact hx
  -- whose a living block is
  have cls : ∀ j B', view (d ++ h) j = some B' → (∃ i B, keep i = true ∧ j = τ i ∧ view (dc ++ hc) i = some B ∧ B' = renB τ B) ∨ (view h j = some B' ∧ ∀ i, i < k → σ i ≠ j) := by
    intro j B' hj
    rw [view_append] at hj
    by_cases hjd : j ∈ ids d
    · rw [if_pos hjd] at hj
      obtain ⟨i, hk, hi, rfl⟩ := t.only j hjd
      rw [(t.put i hk hi).2] at hj
      cases hv : view dc i with
      | none => rw [hv] at hj; cases hj
      | some B =>
        rw [hv] at hj
        simp only [Option.map_some, Option.some.injEq] at hj
        exact .inl ⟨i, B, hk, rfl, by rw [view_append, if_pos hi]; exact hv, hj.symm⟩
    · rw [if_neg hjd] at hj
      by_cases him : ∃ i, i < k ∧ σ i = j
      · obtain ⟨i, hi, rfl⟩ := him
        obtain ⟨B, hB⟩ := s.all i hi
        have hidc : i ∉ ids dc := fun hm => hjd (by rw [← (t.old i hi).1]; exact (t.put i (t.old i hi).2 hm).1)
        have e := s.view i B hB
        rw [hj] at e
        simp only [Option.some.injEq] at e
        refine .inl ⟨i, B, (t.old i hi).2, (t.old i hi).1.symm, by rw [view_append, if_neg hidc]; exact hB, ?_⟩
        rw [e]
        exact (renB_congr (fun q hq => (t.old q (blt_iff.1 hq)).1) (s.shut i B hB)).symm
      · exact .inr ⟨hj, fun i hi e => him ⟨i, hi, e⟩⟩
  -- a block that the small heap does not know
  have apart : ∀ j B' b o sz, view h j = some B' → (∀ i, i < k → σ i ≠ j) → ι j = some (b, o, sz) → ¬ Live (canI ι σ k) hc b := by
    rintro j B' b o sz hj hne hb ⟨i, B, o', sz', h1, h2⟩
    rw [canI_eq i (blt_iff.2 (s.lt h1))] at h2
    exact hne i (s.lt h1) (H.inj _ _ _ _ _ _ (s.view i B h1) hj h2 hb rfl)
  have hlt : ∀ j B' b o sz, view h j = some B' → ι j = some (b, o, sz) → b < w.heap.size := by
    intro j B' b o sz hj hb
    obtain ⟨b', o', sz', h1, _, h3⟩ := (H.own j B' hj).at
    rw [hb] at h1
    simp only [Option.some.injEq, Prod.mk.injEq] at h1
    omega
  refine ⟨ι', ⟨?_, ?_, ?_, Hc.le, H.roLt, H.roWF, ?_⟩, ⟨hext, Kc.os, Kc.tape, Kc.output, Kc.size, ?_, ?_⟩, fun v x hu hx => rel_ren hN hu hx⟩
  · intro j x hx
    simp only [ids, List.map_append, List.mem_append]
    by_cases hj : j ∈ ids h
    · exact .inr hj
    · left
      simp only [ι', backI, if_neg hj] at hx
      split at hx
      · rename_i hex
        obtain ⟨a1, a2, a3⟩ := hex.choose_spec
        have hm := Hc.dom _ _ hx
        simp only [ids, List.map_append, List.mem_append] at hm
        rcases hm with hm | hm
        · rw [← a3]; exact (t.put _ a1 hm).1
        · exact absurd ((s.ids _).1 hm) (Nat.not_lt.2 a2)
      · cases hx
  · intro j B' hj
    rcases cls j B' hj with ⟨i, B, hk, rfl, hv, rfl⟩ | ⟨hv, hne⟩
    · exact blk_ren hN hk (t.uses i B hk hv) (Hc.own i B hv)
    · exact (H.own j B' hv).mono hext fun b o sz hb => Kc.block b (hlt j B' b o sz hv hb) (apart j B' b o sz hv hne hb)
  · intro j j' B B' x x' hj hj' hx hx' he
    have key : ∀ i B q y y' j', keep i = true → view (dc ++ hc) i = some B → ι' (τ i) = some y → view h j' = some q → (∀ i, i < k → σ i ≠ j') → ι' j' = some y' → y.1 = y'.1 → False := by
      intro i B q y y' j' hk hv hy hq hne hy' he
      rw [hin j' (view_mem hq)] at hy'
      obtain ⟨b, o, sz, h1, _, _⟩ := (Hc.own i B hv).at
      have h2 := hN i _ hk h1
      rw [hy] at h2
      simp only [Option.some.injEq] at h2
      subst h2
      obtain ⟨b', o', sz'⟩ := y'
      simp only at he
      subst he
      exact apart j' q b o' sz' hq hne hy' (Kc.live b (hlt j' q b o' sz' hq hy') ⟨i, B, o, sz, hv, h1⟩)
    rcases cls j B hj with ⟨i, Bi, hk, rfl, hv, rfl⟩ | ⟨hv, hne⟩ <;> rcases cls j' B' hj' with ⟨i', Bi', hk', rfl, hv', rfl⟩ | ⟨hv', hne'⟩
    · obtain ⟨b, o, sz, h1, _, _⟩ := (Hc.own i Bi hv).at
      obtain ⟨b', o', sz', h1', _, _⟩ := (Hc.own i' Bi' hv').at
      have h2 := hN i _ hk h1
      have h2' := hN i' _ hk' h1'
      rw [hx] at h2; rw [hx'] at h2'
      simp only [Option.some.injEq] at h2 h2'
      subst h2; subst h2'
      rw [Hc.inj i i' Bi Bi' _ _ hv hv' h1 h1' he]
    · exact (key i Bi B' x x' j' hk hv hx hv' hne' hx' he).elim
    · exact (key i' Bi' B x' x j hk' hv' hx' hv hne hx he.symm).elim
    · rw [hin j (view_mem hv)] at hx
      rw [hin j' (view_mem hv')] at hx'
      exact H.inj j j' B B' x x' hv hv' hx hx' he
  · intro tid par j v hv
    obtain ⟨c, h1, h2⟩ := Hc.ro tid par j v hv
    exact ⟨c, h1, rel_plain (hE tid par j v hv) h2⟩
  · intro b hb hn
    exact Kc.block b hb fun hl => hn (s.live hl)
  · rintro b hb ⟨j, B', o, sz, hj, hx⟩
    rcases cls j B' hj with ⟨i, B, hk, rfl, hv, rfl⟩ | ⟨hv, hne⟩
    · obtain ⟨b', o', sz', h1, _, _⟩ := (Hc.own i B hv).at
      have h2 := hN i _ hk h1
      rw [hx] at h2
      simp only [Option.some.injEq, Prod.mk.injEq] at h2
      obtain ⟨rfl, rfl, rfl⟩ := h2
      exact s.live (Kc.live b hb ⟨i, B, o, sz, hv, h1⟩)
    · rw [hin j (view_mem hv)] at hx
      exact ⟨j, B', o, sz, hv, hx⟩
end Go.Proofs.Ytgkejpfahpbnkaa.Ab

namespace Go.Proofs.Ytgkejpfahpbnkaa.Ab
inductive Tree (β : Type) : Type
  | leaf (b : β)
  | br (c : Bool) (t e : Tree β)
  | need (c : Bool) (t : Tree β)
  | but (c : Bool) (t : Tree β)
  | dead
inductive Pat
  | leaf (l : List Nat) (mask : Nat)
  | leafN (l : List Nat) (mask : Nat)
  | c (p : Pat)
  | t (p : Pat)
  | f (p : Pat)
  | x (p q : Pat)
  | n (p : Pat)
def cs : Nat → Pat → Pat
  | 0, p => p
  | n + 1, p => .c (cs n p)
def Tree.holds {β : Type} : Tree β → (β → Prop) → Prop
  | .leaf b, Q => Q b
  | .br c t e, Q => (c = true → t.holds Q) ∧ (c = false → e.holds Q)
  | .need c t, Q => c = true ∧ t.holds Q
  | .but c t, Q => c = false ∧ t.holds Q
  | .dead, _ => False
def AM.full {α β : Type} : AM α → St → (α → St → Tree β) → Tree β
  | .pure a, s, K => K a s
  | .fail, _, _ => .dead
  | .br b t e, s, K => .br b (t.full s K) (e.full s K)
  | .need b k, s, K => .need b (k.full s K)
  | .read i k, s, K => match view s.h i with
    | some b => (k b).full { s with rs := i :: s.rs } K
    | none => .dead
  | .upd i b k, s, K => match view s.h i with
    | some _ => k.full { s with h := (i, b) :: s.h, rs := i :: s.rs, ws := i :: s.ws } K
    | none => .dead
  | .alloc b k, s, K => (k s.nx).full { s with h := (s.nx, some b) :: s.h, nx := s.nx + 1, ws := s.nx :: s.ws } K
  | .trace m k, s, K => m.full { s with rs := [], ws := [] } fun x s' => (k x s'.rs s'.ws).full { s' with rs := s'.rs ++ s.rs, ws := s'.ws ++ s.ws } K
theorem wp_mono {α : Type} (m : AM α) : ∀ (s : St) (Q R : α → St → Prop), (∀ a s', Q a s' → R a s') → m.wp s Q → m.wp s R := by
  induction m with
  | pure a => intro s Q R h k; exact h _ _ k
  | fail => intro s Q R h k; exact k
  | br b t e iht ihe => intro s Q R h k; exact ⟨fun hb => iht s Q R h (k.1 hb), fun hb => ihe s Q R h (k.2 hb)⟩
  | need b k ih => intro s Q R h hk; exact ⟨hk.1, ih s Q R h hk.2⟩
  | read i k ih =>
    intro s Q R h hk
    simp only [AM.wp] at hk ⊢
    cases hv : view s.h i with
    | none => rw [hv] at hk; exact hk
    | some b => rw [hv] at hk; exact ih b _ Q R h hk
  | upd i b k ih =>
    intro s Q R h hk
    simp only [AM.wp] at hk ⊢
    cases hv : view s.h i with
    | none => rw [hv] at hk; exact hk
    | some _ => rw [hv] at hk; exact ih _ Q R h hk
  | alloc b k ih => intro s Q R h hk; exact ih _ _ Q R h hk
  | trace m k ihm ihk =>
    intro s Q R h hk
    simp only [AM.wp] at hk ⊢
    exact ihm _ _ _ (fun x s' hx => ihk x s'.rs s'.ws _ Q R h hx) hk
theorem full_wp {α β : Type} (m : AM α) : ∀ (s : St) (K : α → St → Tree β) (Q : β → Prop), (m.full s K).holds Q → m.wp s fun a s' => (K a s').holds Q := by
  induction m with
  | pure a => intro s K Q h; exact h
  | fail => intro s K Q h; exact h
  | br b t e iht ihe => intro s K Q h; exact ⟨fun hb => iht s K Q (h.1 hb), fun hb => ihe s K Q (h.2 hb)⟩
  | need b k ih => intro s K Q h; exact ⟨h.1, ih s K Q h.2⟩
  | read i k ih =>
    intro s K Q h
    simp only [AM.full] at h
    simp only [AM.wp]
    cases hv : view s.h i with
    | none => rw [hv] at h; exact h
    | some b => rw [hv] at h; exact ih b _ K Q h
  | upd i b k ih =>
    intro s K Q h
    simp only [AM.full] at h
    simp only [AM.wp]
    cases hv : view s.h i with
    | none => rw [hv] at h; exact h
    | some _ => rw [hv] at h; exact ih _ K Q h
  | alloc b k ih => intro s K Q h; exact ih _ _ K Q h
  | trace m k ihm ihk =>
    intro s K Q h
    simp only [AM.full] at h
    simp only [AM.wp]
    have := ihm _ _ Q h
    refine wp_mono m _ _ _ (fun x s' hx => ?_) this
    exact ihk x s'.rs s'.ws _ K Q hx
end Go.Proofs.Ytgkejpfahpbnkaa.Ab
