/- oper: OperParts: the loops keep their contracts. -/
import Derived.Test.YtbfebjmmpiffpaaP04u
import Derived.Test.YtbfebjmmpiffpaaT04q
set_option linter.unusedSimpArgs false
set_option linter.unusedVariables false
namespace Go.Proofs.Ytbfebjmmpiffpaa
open Ab

theorem okL_iff' {full : Bool} {L : Rs} : okL full L = true ↔ lensR L = true ∧ L.ks.length ≤ 1000000 ∧ ((full = true ∧ 0 < L.ks.length) ∨ (full = false ∧ L.ks.length = 0)) := by
  cases full <;> simp [okL]
theorem nil_lenO {o : Os} (h : lensO o = true) (h0 : o.kk.length = 0) : o = Os.none := by
  obtain ⟨a, b, c, d⟩ := o
  simp only [lensO, Bool.and_eq_true, decide_eq_true_eq] at h
  simp only at h0
  obtain rfl := List.length_eq_zero_iff.1 h0
  obtain ⟨h1, h2, h3⟩ := h
  obtain rfl := List.length_eq_zero_iff.1 h1
  obtain rfl := List.length_eq_zero_iff.1 h2
  obtain rfl := List.length_eq_zero_iff.1 h3
  rfl
theorem fullB_of {q : List Rc} (h : q ≠ []) : fullB q = true := by
  cases q with
  | nil => exact absurd rfl h
  | cons => rfl

section
variable {ra : Nat → Nat → Nat × Nat} {base : Nat} {T : Tb}

/-- the parts' loop, from its rounds -/
theorem l0_loop (x : P0) {l : List Rc} {B : Os} (hB : B.kk.length ≤ 6) (hl : l.length ≤ 729)
    (rounds : ∀ (i : Nat) (z : Rc) (q : List Rc), l[i]? = some z → q.length ≤ 3000000 → Takes Try.prog (tabT T) ra base 0 (codeOf 5 (false :: g0)) (p0T x q i) (p0H x q) fun y => y = (.normal, p0T x (q ++ fold (toO B) [z]) (i + 1), p0H x (q ++ fold (toO B) [z])))
    (ends : ∀ q : List Rc, Takes Try.prog (tabT T) ra base 0 (codeOf 5 (false :: g0)) (p0T x q l.length) (p0H x q) fun y => y = (.exit 0, mkT 161 (x.fr ++ [(10, rs1 (fullB q) (1 + cond x.af 1 0 + cond x.bf 1 0 + cond x.wf 1 0) (Rs.of q) none)]), hp 0 (x.fB ++ rsB (fullB q) (Rs.of q)))) :
    Takes Try.prog (tabT T) ra base 0 (.loop (codeOf 5 (false :: g0))) (p0T x [] 0) (p0H x []) fun w => (none0 B (Rs.of l) ∧ w = (.exit 0, mkT 161 (x.fr ++ [(10, .nils)]), hp 0 x.fB)) ∨
      ∃ y, some0 B (Rs.of l) y ∧ w = (.exit 0, mkT 161 (x.fr ++ [(10, .slice (.own (1 + cond x.af 1 0 + cond x.bf 1 0 + cond x.wf 1 0) 0 0 6) y.ks.length none)]), hp 0 (x.fB ++ [y.blk])) := by
  have hp' : partsL B (Rs.of l) = l.flatMap fun r => fold (toO B) [r] := by rw [partsL, toL_of]; rfl
  have hlen : ∀ m : List Rc, (m.flatMap fun r => fold (toO B) [r]).length ≤ 729 * m.length := by
    intro m
    induction m with
    | nil => simp
    | cons r m ih =>
      have := fold_len6 hB r
      rw [List.flatMap_cons, List.length_append, List.length_cons]
      omega
  refine takes_loop (fun j ts h => ∃ i : Nat, i ≤ l.length ∧ j = l.length - i + 1 ∧ ts = p0T x ((l.take i).flatMap fun r => fold (toO B) [r]) i ∧ h = p0H x ((l.take i).flatMap fun r => fold (toO B) [r])) (fun ts h => by rintro ⟨_, _, h, _⟩; omega) (fun j ts h' => ?_) (j := l.length + 1) ⟨0, Nat.zero_le _, rfl, rfl, rfl⟩
  rintro ⟨i, k1, k2, rfl, rfl⟩
  rcases Nat.lt_or_ge i l.length with hi | hi
  · have hr : l[i]? = some l[i] := List.getElem?_eq_getElem hi
    have hlo := hlen (l.take i)
    rw [List.length_take] at hlo
    refine (rounds i _ _ hr (by omega)).mono ?_
    rintro w rfl
    exact ⟨i + 1, by omega, by omega, by rw [flat_take hr], by rw [flat_take hr]⟩
  · have : i = l.length := by omega
    subst this
    rw [List.take_length, ← hp']
    refine (ends _).mono ?_
    rintro w rfl
    cases hf : fullB (partsL B (Rs.of l)) with
    | true => exact .inr ⟨Rs.of (partsL B (Rs.of l)), ⟨rfl, fun h => by rw [h] at hf; cases hf⟩, rfl⟩
    | false =>
      have h0 := full_nil hf
      refine .inl ⟨h0, ?_⟩
      show (AExit.exit 0, mkT 161 (x.fr ++ [(10, AVal.nils)]), hp 0 (x.fB ++ [])) = _
      rw [List.append_nil]

theorem l0_end {x : P0} {B : Os} {L : Rs} (hb : x.b = B) (hl : x.l = L) {w : State} (h : (none0 B L ∧ w = (.exit 0, mkT 161 (x.fr ++ [(10, .nils)]), hp 0 x.fB)) ∨
      ∃ y, some0 B L y ∧ w = (.exit 0, mkT 161 (x.fr ++ [(10, .slice (.own (1 + cond x.af 1 0 + cond x.bf 1 0 + cond x.wf 1 0) 0 0 6) y.ks.length none)]), hp 0 (x.fB ++ [y.blk]))) : PostL 161 x w p0D.alts := by
  subst hb; subst hl
  rcases h with ⟨h, rfl⟩ | ⟨y, h, rfl⟩
  · exact .inl ⟨(), h, rfl⟩
  · exact .inr ⟨y, h, rfl⟩

theorem l0_takes (x : P0) (hx : p0D.pre x = true) : Takes Try.prog (tabT T) ra base 0 (.loop (codeOf 5 (false :: g0))) (mkT 161 (p0D.ins x)) (hp 0 (p0D.blks x)) fun w => PostL 161 x w p0D.alts := by
  have hE := tabT_plain T
  have hS := S5_ok (ra := ra) (base := base) T
  obtain ⟨r, af, a, bf, b, wf, w, wc, sf, L, sc⟩ := x
  simp only [p0D, ok0, Bool.and_eq_true, Bool.or_eq_true, decide_eq_true_eq] at hx
  obtain ⟨hL, h729, hb, hb', hbf⟩ := hx
  obtain ⟨h1, _, h3⟩ := okL_iff'.1 hL
  rcases h3 with ⟨rfl, h3⟩ | ⟨rfl, h3⟩
  · have e := of_toL h1
    generalize hl' : toL L = l at *
    subst e
    rw [ks_len] at h729
    have hl6 : l.length ≤ 1000000 := by omega
    cases bf with
    | true =>
      cases af <;> cases wf
      · exact (l0_loop ⟨r, false, a, true, b, false, w, wc, true, Rs.of l, sc⟩ hb' h729 (fun i z q hr hq => by
          cases hf : fullB q with
          | true => exact s010_1 hb hb' hr hl6 hq hf
          | false => obtain rfl := full_nil hf; exact s010_0 hb hb' hr hl6) (fun q => by
          cases hf : fullB q with
          | true => have := x010_1 (T := T) (ra := ra) (base := base) (r := r) (b := b) (sc := sc) (l := l) hf; rw [hf] at this; exact this
          | false => obtain rfl := full_nil hf; exact x010_0)).mono fun w h => l0_end rfl rfl h
      · exact (l0_loop ⟨r, false, a, true, b, true, w, wc, true, Rs.of l, sc⟩ hb' h729 (fun i z q hr hq => by
          cases hf : fullB q with
          | true => exact s011_1 hb hb' hr hl6 hq hf
          | false => obtain rfl := full_nil hf; exact s011_0 hb hb' hr hl6) (fun q => by
          cases hf : fullB q with
          | true => have := x011_1 (T := T) (ra := ra) (base := base) (r := r) (b := b) (w := w) (wc := wc) (sc := sc) (l := l) hf; rw [hf] at this; exact this
          | false => obtain rfl := full_nil hf; exact x011_0)).mono fun w h => l0_end rfl rfl h
      · exact (l0_loop ⟨r, true, a, true, b, false, w, wc, true, Rs.of l, sc⟩ hb' h729 (fun i z q hr hq => by
          cases hf : fullB q with
          | true => exact s110_1 hb hb' hr hl6 hq hf
          | false => obtain rfl := full_nil hf; exact s110_0 hb hb' hr hl6) (fun q => by
          cases hf : fullB q with
          | true => have := x110_1 (T := T) (ra := ra) (base := base) (r := r) (a := a) (b := b) (sc := sc) (l := l) hf; rw [hf] at this; exact this
          | false => obtain rfl := full_nil hf; exact x110_0)).mono fun w h => l0_end rfl rfl h
      · exact (l0_loop ⟨r, true, a, true, b, true, w, wc, true, Rs.of l, sc⟩ hb' h729 (fun i z q hr hq => by
          cases hf : fullB q with
          | true => exact s111_1 hb hb' hr hl6 hq hf
          | false => obtain rfl := full_nil hf; exact s111_0 hb hb' hr hl6) (fun q => by
          cases hf : fullB q with
          | true => have := x111_1 (T := T) (ra := ra) (base := base) (r := r) (a := a) (b := b) (w := w) (wc := wc) (sc := sc) (l := l) hf; rw [hf] at this; exact this
          | false => obtain rfl := full_nil hf; exact x111_0)).mono fun w h => l0_end rfl rfl h
    | false =>
      obtain rfl : b = Os.none := nil_lenO hb (by rcases hbf with h | h; (cases h); exact h)
      cases af <;> cases wf
      · exact (l0_loop ⟨r, false, a, false, Os.none, false, w, wc, true, Rs.of l, sc⟩ hb' h729 (fun i z q hr hq => by
          cases hf : fullB q with
          | true => exact s000_1 hr hl6 hq hf
          | false => obtain rfl := full_nil hf; exact s000_0 hr hl6) (fun q => by
          cases hf : fullB q with
          | true => have := x000_1 (T := T) (ra := ra) (base := base) (r := r) (sc := sc) (l := l) hf; rw [hf] at this; exact this
          | false => obtain rfl := full_nil hf; exact x000_0)).mono fun w h => l0_end rfl rfl h
      · exact (l0_loop ⟨r, false, a, false, Os.none, true, w, wc, true, Rs.of l, sc⟩ hb' h729 (fun i z q hr hq => by
          cases hf : fullB q with
          | true => exact s001_1 hr hl6 hq hf
          | false => obtain rfl := full_nil hf; exact s001_0 hr hl6) (fun q => by
          cases hf : fullB q with
          | true => have := x001_1 (T := T) (ra := ra) (base := base) (r := r) (w := w) (wc := wc) (sc := sc) (l := l) hf; rw [hf] at this; exact this
          | false => obtain rfl := full_nil hf; exact x001_0)).mono fun w h => l0_end rfl rfl h
      · exact (l0_loop ⟨r, true, a, false, Os.none, false, w, wc, true, Rs.of l, sc⟩ hb' h729 (fun i z q hr hq => by
          cases hf : fullB q with
          | true => exact s100_1 hr hl6 hq hf
          | false => obtain rfl := full_nil hf; exact s100_0 hr hl6) (fun q => by
          cases hf : fullB q with
          | true => have := x100_1 (T := T) (ra := ra) (base := base) (r := r) (a := a) (sc := sc) (l := l) hf; rw [hf] at this; exact this
          | false => obtain rfl := full_nil hf; exact x100_0)).mono fun w h => l0_end rfl rfl h
      · exact (l0_loop ⟨r, true, a, false, Os.none, true, w, wc, true, Rs.of l, sc⟩ hb' h729 (fun i z q hr hq => by
          cases hf : fullB q with
          | true => exact s101_1 hr hl6 hq hf
          | false => obtain rfl := full_nil hf; exact s101_0 hr hl6) (fun q => by
          cases hf : fullB q with
          | true => have := x101_1 (T := T) (ra := ra) (base := base) (r := r) (a := a) (w := w) (wc := wc) (sc := sc) (l := l) hf; rw [hf] at this; exact this
          | false => obtain rfl := full_nil hf; exact x101_0)).mono fun w h => l0_end rfl rfl h
  · have hl0 : toL L = [] := List.length_eq_zero_iff.1 (by rw [toL_len, h3])
    have hn : none0 b L := by rw [none0, partsL, hl0]; rfl
    refine takes_loop (fun j ts h => j = 1 ∧ ts = mkT 161 (p0D.ins ⟨r, af, a, bf, b, wf, w, wc, false, L, sc⟩) ∧ h = hp 0 (p0D.blks ⟨r, af, a, bf, b, wf, w, wc, false, L, sc⟩)) (fun ts h => by rintro ⟨h, _⟩; omega) (fun j ts h' => ?_) (j := 1) ⟨rfl, rfl, rfl⟩
    rintro ⟨_, rfl, rfl⟩
    cases af <;> cases bf <;> cases wf
    · exact takes_of_tree hE (wE hE hS) (f := 5) (.inr (by kernel_rfl)) (hp_below _) (l0_000_n T r) (.inl ⟨(), hn, rfl⟩)
    · exact takes_of_tree hE (wE hE hS) (f := 5) (.inr (by kernel_rfl)) (hp_below _) (l0_001_n T r w wc) (.inl ⟨(), hn, rfl⟩)
    · exact takes_of_tree hE (wE hE hS) (f := 5) (.inr (by kernel_rfl)) (hp_below _) (l0_010_n T r b) (.inl ⟨(), hn, rfl⟩)
    · exact takes_of_tree hE (wE hE hS) (f := 5) (.inr (by kernel_rfl)) (hp_below _) (l0_011_n T r b w wc) (.inl ⟨(), hn, rfl⟩)
    · exact takes_of_tree hE (wE hE hS) (f := 5) (.inr (by kernel_rfl)) (hp_below _) (l0_100_n T r a) (.inl ⟨(), hn, rfl⟩)
    · exact takes_of_tree hE (wE hE hS) (f := 5) (.inr (by kernel_rfl)) (hp_below _) (l0_101_n T r a w wc) (.inl ⟨(), hn, rfl⟩)
    · exact takes_of_tree hE (wE hE hS) (f := 5) (.inr (by kernel_rfl)) (hp_below _) (l0_110_n T r a b) (.inl ⟨(), hn, rfl⟩)
    · exact takes_of_tree hE (wE hE hS) (f := 5) (.inr (by kernel_rfl)) (hp_below _) (l0_111_n T r a b w wc) (.inl ⟨(), hn, rfl⟩)
end
end Go.Proofs.Ytbfebjmmpiffpaa
