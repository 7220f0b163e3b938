/- The engine. -/
import Derived.Test.YtompijagcjjamaaE05

namespace Go.Proofs.Ytompijagcjjamaa.Ab
variable {P : Program} {E : Nat → Nat → Seg} {ra : Nat → Nat → Nat × Nat} {base : Nat} {S : Sums} {L : Loops}
def pickD {ξ : Type} (as : List AVal) (l : List Nat) (dec : List AVal → List Blk → Option ξ) (x : ξ) : List ((ξ → Bool) × CDeal ξ) → CDeal ξ → AM AVal
  | [], D => callD D (fun _ => some l) dec as
  | (c, D) :: r, D' => .br (c x) (callD D (fun _ => some l) dec as) (pickD as l dec x r D')
def callNG {ξ : Type} (Ds : List ((ξ → Bool) × CDeal ξ)) (D : CDeal ξ) (dec : List AVal → List Blk → Option ξ) (as : List AVal) : AM AVal :=
  (reachA 40 0 (addNew [] (idsL as))).bind fun l => readsA l fun Bs => match dec as Bs with
    | some x => pickD as l dec x Ds D
    | none => .fail
def GivesD (P : Program) (E : Nat → Nat → Seg) (ra : Nat → Nat → Nat × Nat) (base : Nat) (f : FuncId) {ξ : Type} (D : CDeal ξ) : Prop :=
  ∀ x, D.pre x = true → Gives P E ra base (D.blks x).length f (D.args x) (hp 0 (D.blks x)) fun v h' => v = D.out x ∧ h' = hp 0 (D.blks' x)
theorem pickD_ok (hE : Plain E) (hS : SumsOK P E ra base S) {f : FuncId} (hb : HasBody P f) {ξ : Type} {dec : List AVal → List Blk → Option ξ} {as : List AVal} {l : List Nat} {x : ξ} {h : Log} {v : AVal} {d : Log} {r : List Nat} :
    ∀ (Ds : List ((ξ → Bool) × CDeal ξ)) (D : CDeal ξ), (∀ q ∈ Ds, GivesD P E ra base f q.2) → GivesD P E ra base f D → (pickD as l dec x Ds D).Runs h v d r → CallOK P E ra base f as h v d
  | [], D, _, hD, hr => by
    have key := sumF_deal hE hS hb (gets := fun _ => some l) (dec := dec) hD
    have := key f (callD D (fun _ => some l) dec) (by simp [sumF])
    exact this.2 as h v d r hr
  | (c, D) :: Ds, D', hDs, hD, hr => by
    simp only [pickD, AM.Runs] at hr
    cases hc : c x with
    | true =>
      rw [hc] at hr
      have key := sumF_deal hE hS hb (gets := fun _ => some l) (dec := dec) (hDs (c, D) (by simp))
      have := key f (callD D (fun _ => some l) dec) (by simp [sumF])
      exact this.2 as h v d r (by simpa using hr)
    | false =>
      rw [hc] at hr
      exact pickD_ok hE hS hb Ds D' (fun q hq => hDs q (by simp [hq])) hD (by simpa using hr)
theorem sumNG_deal (hE : Plain E) (hS : SumsOK P E ra base S) {f : FuncId} (hb : HasBody P f) {ξ : Type} {Ds : List ((ξ → Bool) × CDeal ξ)} {D : CDeal ξ} {dec : List AVal → List Blk → Option ξ}
    (h1 : ∀ q ∈ Ds, GivesD P E ra base f q.2) (h2 : GivesD P E ra base f D) : SumsOK P E ra base (sumF f (callNG Ds D dec) S) := by
  refine sumF_ok hS hb fun as h v d r hr => ?_
  simp only [callNG, runs_bind] at hr
  obtain ⟨l, d₁, r₁, d₂, r₂, g1, g2, rfl, rfl⟩ := hr
  have := reachA_runs _ _ _ g1
  subst this
  rw [List.append_nil]
  obtain ⟨Bs, r', _, _, g3⟩ := reads_runs g2
  split at g3
  · exact pickD_ok hE hS hb Ds D h1 h2 g3
  · exact g3.elim
def evalTrue (m : AM AVal) : Bool := match m.eval ⟨[], 0, [], []⟩ with
  | some (.bool b, _) => b
  | _ => false
theorem gives_of_eval (hE : Plain E) {R : Walk} (hR : ExecOK P E ra base R) (hS : SumsOK P E ra base S) {f : FuncId} {as : List AVal} (ht : evalTrue (callB P E S R f as) = true) :
    HasBody P f ∧ Gives P E ra base 0 f as (hp 0 []) fun v h' => v = .bool true ∧ h' = hp 0 [] := by
  unfold evalTrue at ht
  split at ht
  · rename_i b s' he
    subst ht
    obtain ⟨d, r, h2, h3, _, _, _⟩ := eval_runs _ _ _ _ (fun i hi => by cases hi) he
    obtain ⟨hb, hc⟩ := callB_sound hR hS h2
    refine ⟨hb, fun ι w as' H ha => CallsIn.mono (hc ι w as' H ha) ?_⟩
    rintro e w' ⟨v', ι', rfl, g1, g2, g3⟩
    have hx : canon 0 [] 1 ((.ret, [.bool true]) : AExit × Tmps) (d ++ []) = some (true, (.ret, [.bool true], [])) := rfl
    have f' : Fit E ra base ι' (d ++ []) w' 0 [.bool true] { tmps := #[v'], defers := [] } := ⟨g2, .cons g1 .nil, .nil _ _ _ _, Nat.zero_le _⟩
    obtain ⟨ι'', f'', k''⟩ := canon_fit hE hx f'
    refine ⟨.bool true, v', [], ι'', rfl, ⟨rfl, rfl⟩, ?_, f''.rel, (g3.K 0).trans k''⟩
    have := f''.tmps
    cases this with | cons h1 _ => exact h1
  · cases ht
end Go.Proofs.Ytompijagcjjamaa.Ab

namespace Go.Proofs.Ytompijagcjjamaa.Ab
variable {P : Program} {E : Nat → Nat → Seg} {ra : Nat → Nat → Nat × Nat} {base : Nat}
def flatA (n t0 p0 : Nat) : AAddr → Bool
  | .own i _ _ _ => Nat.blt i n
  | .ro t p _ _ => !(Nat.beq t t0 && Nat.ble p0 p)
def flat (n t0 p0 : Nat) : AVal → Bool
  | .undef => true
  | .bool _ => true
  | .int _ _ => true
  | .str _ => true
  | .nilp => true
  | .nils => true
  | .nilf => true
  | .ptr a => flatA n t0 p0 a
  | .slice a _ _ => flatA n t0 p0 a
  | _ => false
def Becomes (n t0 p0 : Nat) (v v' : AVal) : Prop :=
  (flat n t0 p0 v = true ∧ v' = v) ∨ ∃ (len : Nat) (cap : Option Nat), v = .slice (.own n 0 0 1) len cap ∧ v' = .slice (.ro t0 p0 0 0) len none
structure Froze (E E' : Nat → Nat → Seg) (ra ra' : Nat → Nat → Nat × Nat) (ι ι' : Inj) (n t0 p0 b o : Nat) : Prop where
  tab : ∀ t p, ¬ (t = t0 ∧ p0 ≤ p) → E' t p = E t p ∧ ra' t p = ra t p
  new : ra' t0 p0 = (b, o)
  own : ∀ i, i < n → ι' i = ι i
  at' : ∃ sz, ι n = some (b, o, sz)
theorem flatA_ro {n t0 p0 t p i c : Nat} (h : flatA n t0 p0 (.ro t p i c) = true) : ¬ (t = t0 ∧ p0 ≤ p) := by
  rintro ⟨rfl, h2⟩
  have h3 : Nat.ble p0 p = true := Nat.ble_eq_true_of_le h2
  simp [flatA, h3] at h
theorem flatA_own {n t0 p0 i j k l : Nat} (h : flatA n t0 p0 (.own i j k l) = true) : i < n := blt_iff.1 h
theorem Froze.relA {E' : Nat → Nat → Seg} {ra' : Nat → Nat → Nat × Nat} {ι ι' : Inj} {n t0 p0 b o : Nat} (F : Froze E E' ra ra' ι ι' n t0 p0 b o) {a : AAddr} {x : Addr} (hf : flatA n t0 p0 a = true) (h : RelA E ra ι a x) : RelA E' ra' ι' a x := by
  cases a with
  | own i j k l => obtain ⟨b', o', sz, h1, h2⟩ := h; exact ⟨b', o', sz, by rw [F.own _ (flatA_own hf)]; exact h1, h2⟩
  | ro t p i c =>
    obtain ⟨h1, h2⟩ := F.tab t p (flatA_ro hf)
    simp only [RelA] at h ⊢
    rw [h1, h2]; exact h
theorem Froze.rel {E' : Nat → Nat → Seg} {ra' : Nat → Nat → Nat × Nat} {ι ι' : Inj} {n t0 p0 b o : Nat} (F : Froze E E' ra ra' ι ι' n t0 p0 b o) {v v' : AVal} {x : Value} (hb : Becomes n t0 p0 v v') (h : Rel E ra ι v x) : Rel E' ra' ι' v' x := by
  rcases hb with ⟨hf, rfl⟩ | ⟨len, cap, rfl, rfl⟩
  · cases h with
    | undef => exact .undef _
    | bool => exact .bool _
    | int => exact .int _ _
    | str => exact .str _
    | nilp => exact .nilp
    | nils => exact .nils
    | nilf => exact .nilf
    | ptr h => exact .ptr (F.relA hf h)
    | slice h hn =>
      rename_i a len cap x cap'
      obtain ⟨h1, h2, h3⟩ := h
      have hf' : flatA n t0 p0 a = true := hf
      cases a with
      | own i j k l =>
        refine .slice ⟨h1, h2, h3.imp id ?_⟩ ?_
        · rintro ⟨b', o', sz, k1, k2⟩
          exact ⟨b', o', sz, by rw [F.own _ (flatA_own hf')]; exact k1, k2⟩
        · obtain ⟨y, hy⟩ := hn
          exact ⟨y, by rw [F.own _ (flatA_own hf')]; exact hy⟩
      | ro t p i c =>
        obtain ⟨k1, k2⟩ := F.tab t p (flatA_ro hf')
        refine .slice ⟨h1, h2, h3.imp id ?_⟩ trivial
        intro h
        simp only at h ⊢
        rw [k1, k2]; exact h
    | _ => simp [flat] at hf
  · cases h with
    | slice h hn =>
      obtain ⟨h1, h2, h3⟩ := h
      obtain ⟨sz, hi⟩ := F.at'
      refine .slice ⟨h1, fun c hc => (by cases hc), h3.imp id ?_⟩ trivial
      rintro ⟨b', o', sz', k1, k2, _⟩
      rw [hi] at k1
      simp only [Option.some.injEq, Prod.mk.injEq] at k1
      obtain ⟨rfl, rfl, rfl⟩ := k1
      simp only [F.new, k2, Nat.zero_mul, Nat.add_zero]
def Opens (P : Program) (E : Nat → Nat → Seg) (c : Code) (ts : Tmps) (h : Log) (Q : (Nat → Nat → Seg) → State → Prop) : Prop :=
  ∀ ra base ι w nb a, Fit E ra base ι h w nb ts a → c.wpIn (FW none) 0 P (fun e a' w' => ∃ x E' ra' base' ι', e = x.1.toExit ∧ Q E' x ∧ Fit E' ra' base' ι' x.2.2 w' nb x.2.1 a' ∧ KeepsK 0 ι h w ι' x.2.2 w') a w
theorem Opens.mono {c : Code} {ts : Tmps} {h : Log} {Q Q' : (Nat → Nat → Seg) → State → Prop} (t : Opens P E c ts h Q) (hq : ∀ E x, Q E x → Q' E x) : Opens P E c ts h Q' := by
  intro ra base ι w nb a hf
  refine wpIn_mono (t ra base ι w nb a hf) ?_
  rintro e a' w' ⟨x, E', ra', base', ι', h1, h2, h3, h4⟩
  exact ⟨x, E', ra', base', ι', h1, hq _ _ h2, h3, h4⟩
def bare : AVal → Bool
  | .undef => true
  | .bool _ => true
  | .int _ _ => true
  | _ => false
theorem relL_bare {E' : Nat → Nat → Seg} {ra' : Nat → Nat → Nat × Nat} {ι ι' : Inj} : ∀ {ts : List AVal} {xs : List Value}, (∀ v ∈ ts, bare v = true) → RelL E ra ι ts xs → RelL E' ra' ι' ts xs
  | [], _, _, h => by cases h; exact .nil
  | v :: ts, _, hb, h => by
    cases h with
    | cons h t =>
      refine .cons ?_ (relL_bare (fun u hu => hb u (by simp [hu])) t)
      have := hb v (by simp)
      cases h <;> first | (exfalso; revert this; simp [bare]; done) | exact .undef _ | exact .bool _ | exact .int _ _
end Go.Proofs.Ytompijagcjjamaa.Ab

namespace Go.Proofs.Ytompijagcjjamaa.Ab
variable {P : Program} {E : Nat → Nat → Seg} {ra : Nat → Nat → Nat × Nat} {base : Nat}
theorem Opens.shut (hE : Plain E) {c : Code} {ts : Tmps} {h : Log} {Q : State → Prop} (t : Opens P E c ts h fun _ x => x.2.2 = [] ∧ (∀ v ∈ x.2.1, bare v = true) ∧ Q x) : Takes P E ra base 0 c ts h Q := by
  intro ι w nb a hf
  refine wpIn_mono (t ra base ι w nb a hf) ?_
  rintro e a' w' ⟨⟨xe, xt, xh⟩, E', ra', base', ι', rfl, ⟨g1, g2, g3⟩, f, k⟩
  simp only at g1 g2
  subst g1
  have hk : ∀ b, Ro base b → w'.heap[b]? = w.heap[b]? := fun b hr => k.block b (hf.rel.le b hr) (fun hl => hl.ge hf.rel hr)
  have H : WRel E ra base (fun _ => none) [] w' := by
    refine ⟨fun _ _ h => (by cases h), fun _ _ h => (by cases h), fun _ _ _ _ _ _ h => (by cases h), fun b hb => Nat.lt_of_lt_of_le (hf.rel.le b hb) k.size, hf.rel.roLt, hf.rel.roWF, ?_⟩
    intro tid par j v hj
    obtain ⟨c, h1, h2⟩ := hf.rel.ro tid par j v hj
    have hn : 0 < (E tid par).n := by
      have := cellOf_lt hj
      simp only [total, Nat.add_zero] at this
      rcases Nat.eq_zero_or_pos (E tid par).n with h0 | h0
      · rw [h0] at this; simp at this
      · exact h0
    exact ⟨c, by rw [cell?_of_heap (w := w) (hk _ (hf.rel.roLt tid par hn))]; exact h1, rel_plain (hE tid par j v hj) h2⟩
  exact ⟨_, _, rfl, g3, ⟨H, relL_bare g2 f.tmps, f.defs.any H, f.size⟩, ⟨fun i x hh => absurd hh (Nat.not_lt_zero i), k.os, k.tape, k.output, k.size, k.block, fun b _ hl => by obtain ⟨id, B, o, sz, h1, _⟩ := hl; cases h1⟩⟩
end Go.Proofs.Ytompijagcjjamaa.Ab

namespace Go.Proofs.Ytompijagcjjamaa.Ab
variable {P : Program} {E : Nat → Nat → Seg} {ra : Nat → Nat → Nat × Nat} {base : Nat}
theorem hp_snoc (Bs : List Blk) (B : Blk) : Eqv ((Bs.length, some B) :: hp 0 Bs) (hp 0 (Bs ++ [B])) := by
  refine ⟨fun i => ?_, fun i => ?_⟩
  · rw [hp_view _ 0 i (Nat.zero_le _)]
    simp only [view, Nat.sub_zero]
    cases hi : Nat.beq Bs.length i with
    | true =>
      have := Nat.eq_of_beq_eq_true hi
      subst this
      simp
    | false =>
      have hne : i ≠ Bs.length := fun e => by subst e; simp at hi
      show _ = view (hp 0 Bs) i
      rw [hp_view _ 0 i (Nat.zero_le _), Nat.sub_zero]
      rcases Nat.lt_or_ge i Bs.length with h | h
      · rw [List.getElem?_append_left h]
      · rw [List.getElem?_append_right h, List.getElem?_eq_none h, List.getElem?_eq_none (by simp; omega)]
  · rw [hp_ids]
    have := hp_ids Bs 0 i
    show _ ↔ i ∈ Bs.length :: ids (hp 0 Bs)
    rw [List.mem_cons, this]
    simp only [List.length_append, List.length_singleton]
    omega
def notBusy : LoopState → Bool
  | .busy => false
  | _ => true
def EndL (k n : Nat) (ts : Tmps) (Q : State → Prop) (h : Log) : Prop :=
  ∃ ls ps as bd st e l mask x, view h n = some (.loop ls ps as bd st (AExit.jump e)) ∧ notBusy st = true ∧ canon k l mask (e, ts) ((n, some (.loop ls ps as bd .exhausted (AExit.jump e))) :: h) = some (true, x) ∧ Q x
theorem takes_range (hE : Plain E) (hN : NamesOK P) {k : Nat} {c : Code} {g : Operand} {ps : Array Tmp} {as bd : Code} (hs : c = .rangeFunc g ps as bd) {ts : Tmps} {Bs : List Blk} {f : FuncId} {cap : List AVal} (hg : evalA ts g = .fn f cap) (hb : HasBody P f) (hk : k ≤ Bs.length) {Q : State → Prop}
    (G : Gives P E ra base (Bs.length + 1) f (.yld Bs.length :: cap) (hp 0 (Bs ++ [.loop ts ps.toList as bd .ready none])) fun _ h' => EndL k Bs.length ts Q h') : Takes P E ra base k c ts (hp 0 Bs) Q := by
  subst hs
  intro ι w nb a hf
  have hid : Bs.length ∉ ids (hp 0 Bs) := fun h => by have := (hp_ids Bs 0 _).1 h; omega
  have hgv := evalA_sound hf.tmps g
  rw [hg] at hgv
  generalize hv : a.eval g = gv at hgv
  cases hgv with | fn hcap =>
  rename_i caps
  refine wpIn_rangeFunc fun fn _ => ?_
  have T₁ := pushed hf.rel (w' := w.alloc (.deferred (some []))) (o := .deferred (some [])) rfl rfl rfl rfl
  have hsz : (w.alloc (.deferred (some []))).heap.size = w.heap.size + 1 := World.size_alloc _ _
  let L : Loop := { state := .ready, pending := none, fn, tmps := a.tmps, params := ps, assign := as, body := bd, defers := w.heap.size }
  have T₂ := T₁.1.alloc (w' := (w.alloc (.deferred (some []))).alloc (.loop L)) hid (.loop L) rfl rfl rfl rfl (.loop ts ps.toList as bd .ready none) (0, 0)
    ⟨w.heap.size + 1, 0, 0, L, by rw [hsz]; simp [put], by rw [← hsz]; exact fun hr => absurd (T₁.1.le _ hr) (Nat.lt_irrefl _), by rw [← hsz]; exact World.alloc_heap_new _ _, hf.tmps.mono (put_ext (T₁.1.fresh hid)), rfl, rfl, rfl, rfl, rfl⟩
  rw [hsz] at T₂
  have K₂ := T₁.2.trans T₂.2
  refine ⟨w.heap.size + 1, [{ target := .collected w.heap.size, args := #[] }], (w.alloc (.deferred (some []))).alloc (.loop L), { target := .fn (.func f) caps.toArray, args := #[.func (.yield (w.heap.size + 1)) #[] #[]] }, (w.alloc (.deferred (some []))).alloc (.loop L), f, #[.func (.yield (w.heap.size + 1)) #[] #[]] ++ caps.toArray, (w.alloc (.deferred (some []))).alloc (.loop L),
    run_enterLoop_outer _ _ _ _ _, ?_, fun _ _ => trivial, ?_, wide_n, ?_⟩
  · simp only [resolve, hv]
    simp [Deferred.ofValue, Act.eval]
  · exact run_callFunc hN hb _ _
  · refine CallsIn.mono (G (put ι Bs.length (w.heap.size + 1, 0, 0)) _ _ (T₂.1.eqv (hp_snoc _ _)) ?_) ?_
    · simp only [Array.toList_append]
      exact .cons (.yld (o := 0) (sz := 0) (by simp [put])) (by simpa using hcap.mono K₂.ext)
    · rintro e w' ⟨v, v', h', ι', rfl, g1, g1', g2, g3⟩
      have hext : Ext (put ι Bs.length (w.heap.size + 1, 0, 0)) ι' := by
        intro i x hx
        refine g3.ext i x ?_ hx
        have := (T₂.1.eqv (hp_snoc _ _)).dom i x hx
        have := (hp_ids _ 0 i).1 this
        simp only [List.length_append, List.length_singleton] at this
        omega
      have K₃ : Keeps (put ι Bs.length (w.heap.size + 1, 0, 0)) ((Bs.length, some (.loop ts ps.toList as bd .ready none)) :: hp 0 Bs) ((w.alloc (.deferred (some []))).alloc (.loop L)) ι' h' w' :=
        ⟨hext, g3.os, g3.tape, g3.output, g3.size, fun b hb hn => g3.block b hb fun hl => hn (hl.eqv (hp_snoc _ _)), fun b hb hl => (g3.live b hb hl).eqv (hp_snoc _ _)⟩
      have K₄ := K₂.trans K₃
      have hr0 : ((w.alloc (.deferred (some []))).alloc (.loop L)).heap[w.heap.size]? = some (.deferred (some [])) := by
        show ((w.heap.push _).push _)[w.heap.size]? = _
        rw [Array.getElem?_push, if_neg (by simp)]
        simp
      have hfit : Fit E ra base (put ι Bs.length (w.heap.size + 1, 0, 0)) ((Bs.length, some (.loop ts ps.toList as bd .ready none)) :: hp 0 Bs) ((w.alloc (.deferred (some []))).alloc (.loop L)) nb ts { a with defers := [{ target := .collected w.heap.size, args := #[] }] ++ a.defers } := by
        refine ⟨T₂.1, hf.tmps.mono K₂.ext, ⟨fun m hm => ?_, ?_⟩, Nat.le_trans hf.size K₂.size⟩
        · rcases List.mem_cons.1 hm with rfl | hm
          · refine ⟨w.heap.size, rfl, hf.size, hr0, fun hl => ?_⟩
            obtain ⟨j, C, o', sz', hC, hj⟩ := hl
            simp only [view] at hC
            cases hje : Nat.beq Bs.length j with
            | true =>
              have := Nat.eq_of_beq_eq_true hje
              subst this
              simp [put] at hj
            | false =>
              have hne : j ≠ Bs.length := fun e => by subst e; simp at hje
              simp only [hje] at hC
              simp only [put, if_neg hne] at hj
              exact Nat.lt_irrefl _ (live_lt hf.rel ⟨j, C, o', sz', hC, hj⟩)
          · obtain ⟨q, q1, q2, q3, q4⟩ := (hf.defs.keeps K₂).1 m hm
            exact ⟨q, q1, q2, q3, q4⟩
        · refine .cons (fun m hm => ?_) hf.defs.2
          obtain ⟨q, q1, q2, q3, q4⟩ := hf.defs.1 m hm
          rw [q1]
          intro e
          simp only [Target.collected.injEq] at e
          have := lt_of_heap q3
          omega
      obtain ⟨ls, ps', as', bd', st, ex, l, mask, x, q1, q2, q3, q4⟩ := g1
      have hr : (endLoopA Bs.length ts).Runs h' (ex, ts) [(Bs.length, some (.loop ls ps' as' bd' .exhausted (AExit.jump ex)))] [Bs.length, Bs.length] := by
        simp only [endLoopA, AM.Runs]
        refine ⟨_, [Bs.length], q1, rfl, ?_⟩
        refine ⟨q2, ?_⟩
        cases ex <;> exact ⟨_, [], [], q1, rfl, rfl, rfl, rfl, rfl⟩
      refine endLoopA_sound (b := w.heap.size + 1) (o := 0) (sz := 0) (hfit.move g2 K₃) (hext _ _ (by simp [put])) hr (Q := _) (fun w'' f'' k'' => ?_) v'
      obtain ⟨ι'', f3, k3⟩ := canon_fit hE (k := k) (p := (ex, ts)) q3 f''
      refine ⟨x, ι'', by rw [(canon_spec q3).1], q4, f3, ((K₄.trans k'').K k).trans k3⟩
end Go.Proofs.Ytompijagcjjamaa.Ab

namespace Go.Proofs.Ytompijagcjjamaa.Ab
variable {P : Program} {E : Nat → Nat → Seg} {ra : Nat → Nat → Nat × Nat} {base : Nat}
def LikeV (pl : Nat → Nat → Option Nat) (E2 : Nat → Nat → Seg) (v v2 : AVal) : Prop :=
  (bare v = true ∧ v2 = v) ∨ (v = .nils ∧ v2 = .nils) ∨ ∃ id len cap t p, v = .slice (.own id 0 0 (E2 t p).st) len cap ∧ pl t p = some id ∧ v2 = .slice (.ro t p 0 0) len none
inductive LikeL (pl : Nat → Nat → Option Nat) (E2 : Nat → Nat → Seg) : List AVal → List AVal → Prop
  | nil : LikeL pl E2 [] []
  | cons {v v2 : AVal} {l l2 : List AVal} (h : LikeV pl E2 v v2) (t : LikeL pl E2 l l2) : LikeL pl E2 (v :: l) (v2 :: l2)
  | agg {us us2 : List AVal} {l l2 : List AVal} (h : LikeL pl E2 us us2) (t : LikeL pl E2 l l2) : LikeL pl E2 (.agg us :: l) (.agg us2 :: l2)
def seats (pl : Nat → Nat → Option Nat) (ι : Inj) (t p : Nat) : Nat × Nat := match pl t p with
  | some id => match ι id with
    | some (b, o, _) => (b, o)
    | none => (0, 0)
  | none => (0, 0)
theorem seats_eq {pl : Nat → Nat → Option Nat} {ι : Inj} {t p id b o sz : Nat} (h : pl t p = some id) (hi : ι id = some (b, o, sz)) : seats pl ι t p = (b, o) := by
  simp only [seats, h, hi]
theorem rel_bare {E' : Nat → Nat → Seg} {ra' : Nat → Nat → Nat × Nat} {ι ι' : Inj} {v : AVal} {x : Value} (hb : bare v = true) (h : Rel E ra ι v x) : Rel E' ra' ι' v x := by
  cases h <;> first | (exfalso; revert hb; simp [bare]; done) | exact .undef _ | exact .bool _ | exact .int _ _
theorem LikeV.rel {pl : Nat → Nat → Option Nat} {E2 : Nat → Nat → Seg} {ι ι0 : Inj} {v v2 : AVal} {x : Value} (hl : LikeV pl E2 v v2) (h : Rel E ra ι v x) : Rel E2 (seats pl ι) ι0 v2 x := by
  rcases hl with ⟨hb, rfl⟩ | ⟨rfl, rfl⟩ | ⟨id, len, cap, t, p, rfl, h1, rfl⟩
  · exact rel_bare hb h
  · cases h; exact .nils
  · cases h with
    | slice h hn =>
      obtain ⟨g1, g2, g3⟩ := h
      refine .slice ⟨g1, fun c hc => (by cases hc), g3.imp (fun e => e) ?_⟩ trivial
      rintro ⟨b, o, sz, k1, k2, _⟩
      simp only [seats_eq h1 k1, k2, Nat.zero_mul, Nat.add_zero]
theorem LikeL.rel {pl : Nat → Nat → Option Nat} {E2 : Nat → Nat → Seg} {ι ι0 : Inj} : ∀ {us us2 : List AVal} {xs : List Value}, LikeL pl E2 us us2 → RelL E ra ι us xs → RelL E2 (seats pl ι) ι0 us2 xs
  | _, _, _, .nil, h => by cases h; exact .nil
  | _, _, _, .cons h t, k => by
    cases k with
    | cons k1 k2 => exact .cons (h.rel k1) (t.rel k2)
  | _, _, _, .agg h t, k => by
    cases k with
    | cons k1 k2 =>
      cases k1 with
      | agg k3 => exact .cons (.agg (h.rel k3)) (t.rel k2)
structure Seated (pl : Nat → Nat → Option Nat) (E2 : Nat → Nat → Seg) (h : Log) : Prop where
  wf : ∀ t p, (E2 t p).WF
  at' : ∀ t p, 0 < (E2 t p).n → ∃ id s, pl t p = some id ∧ view h id = some (.segs [s]) ∧ ∀ j v2, cellOf [E2 t p] j = some v2 → ∃ v, cellOf [s] j = some v ∧ LikeV pl E2 v v2
theorem WRel.seat {ι : Inj} {w : World} {h : Log} {pl : Nat → Nat → Option Nat} {E2 : Nat → Nat → Seg} (H : WRel E ra base ι h w) (S : Seated pl E2 h) : WRel E2 (seats pl ι) (2 ^ w.heap.size - 1) (fun _ => none) [] w := by
  refine ⟨fun _ _ h => (by cases h), fun _ _ h => (by cases h), fun _ _ _ _ _ _ h => (by cases h), fun b hb => Ro.first.1 hb, fun t p hn => ?_, S.wf, fun t p j v2 hj => ?_⟩
  · obtain ⟨id, s, h1, h2, _⟩ := S.at' t p hn
    obtain ⟨b, o, cs, el, fz, g1, g2, g3, _⟩ := H.own id _ h2
    rw [seats_eq h1 g1]
    exact Ro.first.2 (lt_of_heap g3)
  · have hn : 0 < (E2 t p).n := by
      have := cellOf_lt hj
      simp only [total, Nat.add_zero] at this
      rcases Nat.eq_zero_or_pos (E2 t p).n with h0 | h0
      · rw [h0] at this; simp at this
      · exact h0
    obtain ⟨id, s, h1, h2, h3⟩ := S.at' t p hn
    obtain ⟨b, o, cs, el, fz, g1, g2, g3, _, _, _, g7⟩ := H.own id _ h2
    obtain ⟨v, k1, k2⟩ := h3 j v2 hj
    obtain ⟨c, k3, k4⟩ := g7 j v k1
    exact ⟨c, by rw [seats_eq h1 g1, cell_at g3]; exact k3, k2.rel k4⟩
inductive Fresh : AVal → List Blk → Prop
  | bare {v : AVal} (h : bare v = true) : Fresh v []
  | tup {vs : List AVal} (h : ∀ v ∈ vs, Ab.bare v = true) : Fresh (.tup vs) []
  | nils : Fresh .nils []
  | row {st len : Nat} {cap : Option Nat} {l : List Seg} (h : ∀ j v, cellOf l j = some v → Ab.bare v = true) : Fresh (.slice (.own 0 0 0 st) len cap) [.segs l]
def upV (n : Nat) : AVal → AVal
  | .slice (.own i o s st) len cap => .slice (.own (n + i) o s st) len cap
  | v => v
theorem gives_seat {k : Nat} {f : FuncId} {as as2 : List AVal} {Bs nb : List Blk} {ov : AVal} {pl : Nat → Nat → Option Nat} {E2 : Nat → Nat → Seg} (hL : LikeL pl E2 as as2) (S : Seated pl E2 (hp 0 Bs)) (hF : Fresh ov nb)
    (G : ∀ ra2 base2, Gives P E2 ra2 base2 0 f as2 (hp 0 []) fun v h => v = ov ∧ h = hp 0 nb) : Gives P E ra base k f as (hp 0 Bs) fun v h => v = upV Bs.length ov ∧ h = hp 0 (Bs ++ nb) := by
  intro ι w as' H ha
  refine CallsIn.mono (G _ _ (fun _ => none) w as' (H.seat S) (hL.rel ha)) ?_
  rintro e w' ⟨v, v', h', ι', rfl, ⟨rfl, rfl⟩, g1, g2, g3⟩
  have hsame : ∀ b, b < w.heap.size → w'.heap[b]? = w.heap[b]? := fun b hb => g3.block b hb fun hl => by obtain ⟨_, _, _, _, h1, _⟩ := hl; cases h1
  have hlt : ∀ i x, ι i = some x → i < Bs.length := fun i x hx => by have := (hp_ids Bs 0 i).1 (H.dom i x hx); omega
  have hlt' : ∀ i x, ι' i = some x → i < nb.length := fun i x hx => by have := (hp_ids nb 0 i).1 (g2.dom i x hx); omega
  let κ : Inj := fun i => if i < Bs.length then ι i else ι' (i - Bs.length)
  have hext : Ext ι κ := fun i x hx => by simp only [κ, if_pos (hlt i x hx)]; exact hx
  have hext' : ∀ i x, ι' i = some x → κ (Bs.length + i) = some x := fun i x hx => by simp only [κ, if_neg (show ¬ Bs.length + i < Bs.length by omega), Nat.add_sub_cancel_left]; exact hx
  have hold : ∀ i B, view (hp 0 Bs) i = some B → ∃ b o sz, ι i = some (b, o, sz) ∧ b < w.heap.size := fun i B hB => by
    obtain ⟨b, o, sz, h1, _, h3⟩ := (H.own i B hB).at
    exact ⟨b, o, sz, h1, h3⟩
  have hnew : ∀ i B, view (hp 0 nb) i = some B → ∃ b o sz, ι' i = some (b, o, sz) ∧ w.heap.size ≤ b := fun i B hB => by
    obtain ⟨b, o, sz, h1, h2, _⟩ := (g2.own i B hB).at
    exact ⟨b, o, sz, h1, Nat.le_of_not_lt fun h => h2 (Ro.first.2 h)⟩
  have hview : ∀ i B, view (hp 0 (Bs ++ nb)) i = some B → (i < Bs.length ∧ view (hp 0 Bs) i = some B) ∨ (Bs.length ≤ i ∧ view (hp 0 nb) (i - Bs.length) = some B) := fun i B hB => by
    rw [hp_view _ 0 i (Nat.zero_le _), Nat.sub_zero] at hB
    rcases Nat.lt_or_ge i Bs.length with h | h
    · rw [List.getElem?_append_left h] at hB
      exact .inl ⟨h, by rw [hp_view _ 0 i (Nat.zero_le _), Nat.sub_zero]; exact hB⟩
    · rw [List.getElem?_append_right h] at hB
      exact .inr ⟨h, by rw [hp_view _ 0 _ (Nat.zero_le _), Nat.sub_zero]; exact hB⟩
  have H2 : WRel E ra base κ (hp 0 (Bs ++ nb)) w' := by
    refine ⟨fun i x hx => ?_, fun i B hB => ?_, fun i j B B' x x' hi hj hx hx' he => ?_, fun b hb => Nat.lt_of_lt_of_le (H.le b hb) g3.size, H.roLt, H.roWF, H.roKeep hext fun b hb => hsame b (H.le b hb)⟩
    · rw [hp_ids]
      simp only [κ] at hx
      simp only [List.length_append]
      split at hx
      · omega
      · have := hlt' _ x hx; omega
    · rcases hview i B hB with ⟨h1, h2⟩ | ⟨h1, h2⟩
      · refine (H.own i B h2).mono hext fun b o sz hb => ?_
        obtain ⟨b', o', sz', q1, q2⟩ := hold i B h2
        rw [hb] at q1
        simp only [Option.some.injEq, Prod.mk.injEq] at q1
        exact hsame b (by omega)
      · cases hF with
        | bare => cases h2
        | tup => cases h2
        | nils => cases h2
        | row hc =>
          rename_i st len cap l
          have hi : i - Bs.length = 0 := by
            have := (hp_ids [Blk.segs l] 0 _).1 (view_mem h2)
            simp only [List.length_singleton] at this
            omega
          rw [hi] at h2
          have hB' : B = .segs l := by
            have : view (hp 0 [Blk.segs l]) 0 = some (.segs l) := rfl
            rw [this] at h2
            exact (Option.some.inj h2).symm
          subst hB'
          obtain ⟨b, o, cs, el, fz, q1, q2, q3, q4, q5, q6, q7⟩ := g2.own 0 _ h2
          refine ⟨b, o, cs, el, fz, ?_, fun hr => q2 (Ro.first.2 (H.le b hr)), q3, q4, q5, q6, fun j v hj => ?_⟩
          · have := hext' 0 _ q1
            rwa [show Bs.length + 0 = i by omega] at this
          · obtain ⟨c, k1, k2⟩ := q7 j v hj
            exact ⟨c, k1, rel_bare (hc j v hj) k2⟩
    · rcases hview i B hi with ⟨h1, h2⟩ | ⟨h1, h2⟩ <;> rcases hview j B' hj with ⟨h3, h4⟩ | ⟨h3, h4⟩
      · simp only [κ, if_pos h1] at hx
        simp only [κ, if_pos h3] at hx'
        exact H.inj i j B B' x x' h2 h4 hx hx' he
      · simp only [κ, if_pos h1] at hx
        simp only [κ, if_neg (Nat.not_lt.2 h3)] at hx'
        obtain ⟨b, o, sz, q1, q2⟩ := hold i B h2
        obtain ⟨b', o', sz', q3, q4⟩ := hnew _ B' h4
        rw [hx] at q1; rw [hx'] at q3
        simp only [Option.some.injEq] at q1 q3
        subst q1; subst q3
        simp only at he
        omega
      · simp only [κ, if_neg (Nat.not_lt.2 h1)] at hx
        simp only [κ, if_pos h3] at hx'
        obtain ⟨b, o, sz, q1, q2⟩ := hold j B' h4
        obtain ⟨b', o', sz', q3, q4⟩ := hnew _ B h2
        rw [hx'] at q1; rw [hx] at q3
        simp only [Option.some.injEq] at q1 q3
        subst q1; subst q3
        simp only at he
        omega
      · simp only [κ, if_neg (Nat.not_lt.2 h1)] at hx
        simp only [κ, if_neg (Nat.not_lt.2 h3)] at hx'
        have := g2.inj _ _ B B' x x' h2 h4 hx hx' he
        omega
  refine ⟨_, v', _, κ, rfl, ⟨rfl, rfl⟩, ?_, H2, ⟨fun i x hi hx => hext i x hx, g3.os, g3.tape, g3.output, g3.size, fun b hb _ => hsame b hb, fun b hb hl => ?_⟩⟩
  · cases hF with
    | bare hb =>
      have e : upV Bs.length v = v := by cases v <;> first | rfl | simp [bare] at hb
      rw [e]; exact rel_bare hb g1
    | tup hb =>
      cases g1 with
      | tup h => exact .tup (relL_bare hb h)
    | nils => cases g1; exact .nils
    | row hc =>
      cases g1 with
      | slice h hn =>
        obtain ⟨r1, r2, r3⟩ := h
        refine .slice ⟨r1, r2, r3.imp id ?_⟩ ?_
        · rintro ⟨b, o, sz, k1, k2, k3⟩
          exact ⟨b, o, sz, hext' 0 _ k1, k2, k3⟩
        · obtain ⟨y, hy⟩ := hn
          exact ⟨y, hext' 0 _ hy⟩
  · obtain ⟨i, B, o, sz, h1, h2⟩ := hl
    rcases hview i B h1 with ⟨h3, h4⟩ | ⟨h3, h4⟩
    · simp only [κ, if_pos h3] at h2
      exact ⟨i, B, o, sz, h4, h2⟩
    · simp only [κ, if_neg (Nat.not_lt.2 h3)] at h2
      obtain ⟨b', o', sz', q3, q4⟩ := hnew _ B h4
      rw [h2] at q3
      simp only [Option.some.injEq, Prod.mk.injEq] at q3
      omega
end Go.Proofs.Ytompijagcjjamaa.Ab

namespace Go.Proofs.Ytompijagcjjamaa.Ab
variable {P : Program} {E : Nat → Nat → Seg} {ra : Nat → Nat → Nat × Nat} {base : Nat}
def toldX (chk : List Blk → List Blk → Bool) {ξ : Type} (n : Nat) (D : RDeal ξ) (js : List Nat) (dec : List AVal → List Blk → Option ξ) : ToldAt := ⟨js, fun ts h K =>
  match blksOf 0 h with
  | some Bs => match dec (pickT js ts) Bs with
    | some x => .need (sameL ts (mkT n (D.ins x))) (.need (chk Bs (D.blks x)) (.need (D.pre x) (altsQ n x K D.alts)))
    | none => .dead
  | none => .dead⟩
theorem toldX_ok {chk : List Blk → List Blk → Bool} (hchk : ∀ a b, chk a b = true → a = b) {k : Nat} {f : FuncId} {pl : List Bool} {c : Code} (hc : codeAt P f pl = some c) {ξ : Type} {n : Nat} {D : RDeal ξ} {js : List Nat} {dec : List AVal → List Blk → Option ξ}
    (ht : ∀ x, D.pre x = true → Takes P E ra base k c (mkT n (D.ins x)) (hp 0 (D.blks x)) fun y => PostL n x y D.alts) : ToldOK P E ra base k f pl (toldX chk n D js dec).m := by
  intro c' hc' ts h K Q hh
  have : c' = c := by
    rw [hc'] at hc
    simpa using hc
  subst this
  simp only [toldX] at hh
  split at hh
  · rename_i Bs hB
    split at hh
    · rename_i x hx
      obtain ⟨h1, h2, h3, h4⟩ := hh
      have e1 := sameL_eq h1
      have e2 := hchk _ _ h2
      subst e1; subst e2
      rw [blksOf_eq hB]
      exact (ht x h3).mono fun y hy => altsQ_holds h4 hy
    · exact hh.elim
  · exact hh.elim
end Go.Proofs.Ytompijagcjjamaa.Ab
