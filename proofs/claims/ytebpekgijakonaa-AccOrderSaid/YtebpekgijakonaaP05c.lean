/- acc: the functions keep their contracts. -/
import Derived.Test.YtebpekgijakonaaP05b
import Derived.Test.YtebpekgijakonaaD05c
import Derived.Test.YtebpekgijakonaaT05b
import Derived.Test.YtebpekgijakonaaT05c
namespace Go.Proofs.Ytebpekgijakonaa
open Ab

section
variable {E : Nat → Nat → Seg} {ra : Nat → Nat → Nat × Nat} {base : Nat}

theorem body14 : HasBody Try.prog 14 := ⟨_, Try.func14, by kernel_rfl⟩
theorem S14_ok (hE : Plain E) : SumsOK Try.prog E ra base S14 :=
  sumF_deal hE sumNone_ok body14 fun _ _ => (gives_of_tree hE (W_ok sumNone_ok noL_ok) sumNone_ok (hp_below []) (works_tree E) ⟨_, rfl, rfl, rfl⟩).2

theorem okL_ok {x : Ac} (h : okL x = true) : x.ok := by simpa [okL, Ac.ok] using h
theorem okV_in {v : Int} (h : okV v = true) : in64 v := by simpa [okV, in64] using h

theorem one_gives (hE : Plain E) (v : Int) : Gives Try.prog E ra base 0 8 [.int .i64 v] (hp 0 []) fun u h => u = (one v).v ∧ h = hp 0 [] :=
  (gives_of_tree hE (W_ok sumNone_ok noL_ok) sumNone_ok (hp_below []) (one_tree E v) ⟨_, rfl, rfl, rfl⟩).2

theorem merge_gives (hE : Plain E) (x y : Ac) (hx : x.ok) (hy : y.ok) : Gives Try.prog E ra base 0 10 [x.v, y.v] (hp 0 []) fun v h => v = (merge x y).v ∧ h = hp 0 [] := by
  refine (gives_of_tree hE (W_ok sumNone_ok noL_ok) sumNone_ok (hp_below []) (merge_tree E x.n x.h x.l x.a x.b y.n y.h y.l y.a y.b) ?_).2
  simp only [Tree.holds, decide_eq_true_eq, decide_eq_false_iff_not, Bool.and_eq_true, Bool.and_true]
  refine ⟨fun h => ⟨_, rfl, ?_, rfl⟩, fun h => ⟨fun h' => ⟨_, rfl, ?_, rfl⟩, fun h' => ⟨⟨hx.1, hy.1⟩, _, rfl, ?_, rfl⟩⟩⟩
  · rw [merge, if_pos h.symm]; rfl
  · rw [merge, if_neg (fun e => h e.symm), if_pos h'.symm]; rfl
  · rw [merge_ne (fun e => h e.symm) (fun e => h' e.symm)]; rfl

theorem rmerge_gives (hE : Plain E) (x y : Ac) (hx : x.ok) (hy : y.ok) : Gives Try.prog E ra base 0 11 [x.v, y.v] (hp 0 []) fun v h => v = (merge x y).v ∧ h = hp 0 [] := by
  refine (gives_of_tree hE (W_ok sumNone_ok noL_ok) sumNone_ok (hp_below []) (rmerge_tree E x.n x.h x.l x.a x.b y.n y.h y.l y.a y.b) ?_).2
  simp only [Tree.holds, decide_eq_true_eq, decide_eq_false_iff_not]
  refine ⟨fun h => ⟨_, rfl, ?_, rfl⟩, fun h => ⟨fun h' => ⟨_, rfl, ?_, rfl⟩, fun h' => ⟨_, rfl, ?_, rfl⟩⟩⟩
  · rw [merge, if_pos h]; rfl
  · rw [merge, if_neg h, if_pos h']; rfl
  · obtain ⟨k1, k2⟩ := halves hx.1 hx.2 hy.1 hy.2
    rw [merge_ne h h', k1, k2]; rfl

theorem rone_gives (hE : Plain E) (v : Int) (hv : in64 v) : Gives Try.prog E ra base 0 9 [.int .i64 v] (hp 0 []) fun u h => u = (one v).v ∧ h = hp 0 [] := by
  refine (gives_of_tree hE (W_ok sumNone_ok noL_ok) sumNone_ok (hp_below []) (rone_tree E v) ?_).2
  simp only [Tree.holds, decide_eq_true_eq, decide_eq_false_iff_not]
  refine ⟨fun h => ⟨_, rfl, ?_, rfl⟩, fun h => ⟨_, rfl, ?_, rfl⟩⟩
  · rw [one, hi_neg hv h]; rfl
  · rw [one, hi_pos hv h]; rfl

theorem res_gives (hE : Plain E) (x : Ac) (g : Int) : Gives Try.prog E ra base 0 12 [x.v, .int .i64 g] (hp 0 []) fun u h => u = .tup [.int .i64 (resV x g), .bool (resB x g)] ∧ h = hp 0 [] := by
  by_cases h0 : g = 0
  · subst h0; exact (gives_of_tree hE (W_ok sumNone_ok noL_ok) sumNone_ok (hp_below []) (res_tree0 E x.n x.h x.l x.a x.b) ⟨_, rfl, rfl, rfl⟩).2
  by_cases h1 : g = 1
  · subst h1
    refine (gives_of_tree hE (W_ok sumNone_ok noL_ok) sumNone_ok (hp_below []) (res_tree1 E x.n x.h x.l x.a x.b) ?_).2
    refine ⟨fun h => ⟨_, rfl, ?_, rfl⟩, fun h => ⟨_, rfl, ?_, rfl⟩⟩
    · simp only [resV, resB, fits, h]; rfl
    · simp only [resV, resB, fits, h]; rfl
  by_cases h2 : g = 2
  · subst h2; exact (gives_of_tree hE (W_ok sumNone_ok noL_ok) sumNone_ok (hp_below []) (res_tree2 E x.n x.h x.l x.a x.b) ⟨_, rfl, rfl, rfl⟩).2
  by_cases h3 : g = 3
  · subst h3; exact (gives_of_tree hE (W_ok sumNone_ok noL_ok) sumNone_ok (hp_below []) (res_tree3 E x.n x.h x.l x.a x.b) ⟨_, rfl, rfl, rfl⟩).2
  refine (gives_of_tree hE (W_ok sumNone_ok noL_ok) sumNone_ok (hp_below []) (res_none E x.n x.h x.l x.a x.b g) ?_).2
  have e : (AVal.tup [.int .i64 (resV x g), .bool (resB x g)]) = .tup [.int .i64 0, .bool false] := by
    simp only [resV, resB, if_neg h0, if_neg h1, if_neg h2, if_neg h3]
  rw [e]
  simp only [Tree.holds, decide_eq_true_eq, decide_eq_false_iff_not]
  exact ⟨fun _ => ⟨_, rfl, rfl, rfl⟩, fun h => ⟨by omega, _, rfl, rfl, rfl⟩⟩

theorem fits_iff {x : Ac} (hx : x.ok) : fits x = true ↔ (0 ≤ wr .i64 x.l ∧ x.h = 0) ∨ (wr .i64 x.l < 0 ∧ x.h = -1) := by
  obtain ⟨h1, h2⟩ := hx
  have hr : -9223372036854775808 ≤ wr .i64 x.l ∧ wr .i64 x.l < 9223372036854775808 := by
    show -9223372036854775808 ≤ (x.l + 9223372036854775808) % 18446744073709551616 - 9223372036854775808 ∧ _
    have e : wr .i64 x.l = (x.l + 9223372036854775808) % 18446744073709551616 - 9223372036854775808 := rfl
    rw [e]; omega
  rw [fits, decide_eq_true_eq, Int.fdiv_eq_ediv_of_nonneg _ (by omega)]
  generalize wr .i64 x.l = w at hr ⊢
  omega

theorem rres_gives (hE : Plain E) (x : Ac) (g : Int) (hx : x.ok) : Gives Try.prog E ra base 0 13 [x.v, .int .i64 g] (hp 0 []) fun u h => u = .tup [.int .i64 (resV x g), .bool (resB x g)] ∧ h = hp 0 [] := by
  refine (gives_of_tree hE (W_ok sumNone_ok noL_ok) sumNone_ok (hp_below []) (rres_tree E x.n x.h x.l x.a x.b g) ?_).2
  have hf := fits_iff hx
  simp only [Tree.holds, decide_eq_true_eq, decide_eq_false_iff_not]
  refine ⟨fun h => ⟨_, rfl, ?_, rfl⟩, fun h0 => ⟨fun h => ⟨_, rfl, ?_, rfl⟩, fun h2 => ⟨fun h => ⟨_, rfl, ?_, rfl⟩, fun h3 => ⟨fun h1 => ⟨fun h => ⟨fun h' => ⟨_, rfl, ?_, rfl⟩, fun h' => ⟨?_, _, rfl, ?_, rfl⟩⟩, fun h => ⟨?_, fun h' => ⟨_, rfl, ?_, rfl⟩, fun h' => ⟨_, rfl, ?_, rfl⟩⟩⟩, fun h1 => ⟨_, rfl, ?_, rfl⟩⟩⟩⟩⟩
  · subst h; rfl
  · subst h; rfl
  · subst h; rfl
  · subst h1
    have : fits x = true := hf.2 (.inl ⟨h, h'⟩)
    simp only [resV, resB, this]; rfl
  · omega
  · subst h1
    have : fits x = false := by
      rw [← Bool.not_eq_true]; intro hc
      rcases hf.1 hc with h4 | h4
      · exact h' h4.2
      · omega
    simp only [resV, resB, this]; rfl
  · omega
  · subst h1
    have : fits x = true := hf.2 (.inr ⟨by omega, h'⟩)
    simp only [resV, resB, this]; rfl
  · subst h1
    have : fits x = false := by
      rw [← Bool.not_eq_true]; intro hc
      rcases hf.1 hc with h4 | h4
      · omega
      · exact h' h4.2
    simp only [resV, resB, this]; rfl
  · simp only [resV, resB, if_neg h0, if_neg h1, if_neg h2, if_neg h3]

theorem acOf_eq {u : AVal} {x : Ac} (h : acOf u = some x) : u = x.v := by
  unfold acOf at h
  split at h
  · simp only [Option.some.injEq] at h; subst h; rfl
  · cases h

theorem dec1_eq (us : List AVal) (v : Int) (h : dec1 us = some v) : us = [.int .i64 v] := by
  unfold dec1 at h
  split at h
  · simp only [Option.some.injEq] at h; subst h; rfl
  · cases h

theorem dec2_eq (us : List AVal) (p : Ac × Ac) (h : dec2 us = some p) : us = [p.1.v, p.2.v] := by
  unfold dec2 at h
  split at h
  · split at h
    · rename_i h1 h2
      simp only [Option.some.injEq] at h; subst h
      rw [acOf_eq h1, acOf_eq h2]
    · cases h
  · cases h

theorem decR_eq (us : List AVal) (p : Ac × Int) (h : decR us = some p) : us = [p.1.v, .int .i64 p.2] := by
  unfold decR at h
  split at h
  · split at h
    · rename_i h1
      simp only [Option.some.injEq] at h; subst h
      rw [acOf_eq h1]
    · cases h
  · cases h

theorem S8_ok (hE : Plain E) : SumsOK Try.prog E ra base S8 := by
  refine sumF_plain hE (sumF_plain hE (sumF_plain hE (sumF_plain hE (sumF_plain hE (sumF_plain hE (S14_ok hE) ⟨_, Try.func8, by kernel_rfl⟩ dec1_eq (fun _ => ⟨rfl, rfl⟩) fun v _ => one_gives hE v)
    ⟨_, Try.func9, by kernel_rfl⟩ dec1_eq (fun _ => ⟨rfl, rfl⟩) fun v h => rone_gives hE v (okV_in h)) ⟨_, Try.func10, by kernel_rfl⟩ dec2_eq (fun _ => ⟨rfl, rfl⟩) fun p h => ?_)
    ⟨_, Try.func11, by kernel_rfl⟩ dec2_eq (fun _ => ⟨rfl, rfl⟩) fun p h => ?_) ⟨_, Try.func12, by kernel_rfl⟩ decR_eq (fun _ => ⟨rfl, rfl⟩) fun p h => res_gives hE p.1 p.2)
    ⟨_, Try.func13, by kernel_rfl⟩ decR_eq (fun _ => ⟨rfl, rfl⟩) fun p h => rres_gives hE p.1 p.2 (okL_ok h)
  · simp only [mergeD, Bool.and_eq_true] at h
    exact merge_gives hE p.1 p.2 (okL_ok h.1) (okL_ok h.2)
  · simp only [mergeD, Bool.and_eq_true] at h
    exact rmerge_gives hE p.1 p.2 (okL_ok h.1) (okL_ok h.2)
end

end Go.Proofs.Ytebpekgijakonaa
