/- align: AlignPlays: the loop of acts keeps its contract; the whole. -/
import Derived.Test.YtbdjcekekhgnkaaP24c
set_option linter.unusedSimpArgs false
namespace Go.Proofs.Ytbdjcekekhgnkaa
open Ab

section
variable {ra : Nat → Nat → Nat × Nat} {base : Nat} {a b c d : List Int}

theorem TM_ok : ToldsOK Try.prog (tabA a b c d) ra base 0 (TM a) :=
  sumT_ok (sumT_ok noT_ok rfl (toldR_ok (c := codeOf 3 pB) (by kernel_rfl) midB_takes)) rfl (toldR_ok (c := codeOf 3 pA) (by kernel_rfl) midA_takes)

def pR : List Bool := [false, false, true, true, true, true, false, false, true, true, false, false, true, false, true]

def plAt (V : AVal) (z : Six) (j i : Int) : List (Nat × AVal) := [(2, V), (9, .ptr (.own 0 0 0 0)), (10, .ptr (.own 1 0 0 0)), (11, .int .i64 i), (28, z.v), (29, .int .i64 j)]

theorem plays_step {V : AVal} (hV : okV a V = true) (hd : ∀ v ∈ d, in64 v) (hl : d.length = a.length) (z : Six) (j : Int) {x : Al} {r : Rf} (h : relB x r = true) {i : Nat} (hi : i ≤ 100) :
    Takes Try.prog (tabA a b c d) ra base 0 (codeOf 3 pR) (mkT 135 (plAt V z j i)) (hp 0 (both ⟨x, r⟩)) fun y =>
      (i < 100 ∧ ∃ x' r', relB x' r' = true ∧ y = (.normal, mkT 135 (plAt V z j ((i + 1 : Nat) : Int)), hp 0 (both ⟨x', r'⟩))) ∨ y = (.exit 2, mkT 135 [(2, V), (28, z.v), (29, .int .i64 j)], hp 0 []) := by
  have hE := tabA_plain a b c d
  have hS := S5_ok (ra := ra) (base := base) hE
  have hw : wr .i64 ((i : Int) + 1) = ((i + 1 : Nat) : Int) := by rw [wr_in ⟨by omega, by omega⟩]; omega
  have e0 : ∀ k : Int, ok64 (wr .i64 k) = true := fun k => ok64_iff.2 (wr_in64 k)
  rcases okV_cases hV with rfl | rfl
  · refine takes_of_treeQ hE (wE hE hS) TM_ok (f := 3) (.inr (by kernel_rfl)) (hp_below _) (plays_round0 z j i x r a b c d) ?_
    simp only [TreeQ.holds, decide_eq_true_eq, decide_eq_false_iff_not]
    exact ⟨by omega, .inr rfl⟩
  · refine takes_of_treeQ hE (wE hE hS) TM_ok (f := 3) (.inr (by kernel_rfl)) (hp_below _) (plays_round a.length z j i x r a b c d) ?_
    simp only [TreeQ.holds, decide_true, Bool.and_self, Bool.and_true, Bool.true_and, true_and, hw, toNat_nat, decide_eq_true_eq, decide_eq_false_iff_not, okA, hV, h, e0, Bool.not_true]
    refine ⟨fun k1 => ⟨fun k2 => ?_, fun _ => .inr rfl⟩, fun _ => .inr rfl⟩
    have hlt : i < a.length := by omega
    have hdi : ok64 (d.getD i 0) = true := by
      rw [getD_at (by omega)]; exact ok64_iff.2 (hd _ (List.getElem_mem _))
    refine ⟨by rw [Bool.and_eq_true, decide_eq_true_eq, decide_eq_true_eq]; omega, hlt, hdi, fun y hy => ⟨by rw [hy, hdi]; rfl, fun n hn => ⟨hn, .inl ⟨by omega, n.x, n.r, hn, rfl⟩⟩⟩⟩

theorem plays_loop {V : AVal} (hV : okV a V = true) (hd : ∀ v ∈ d, in64 v) (hl : d.length = a.length) (z : Six) (j : Int) {x : Al} {r : Rf} (h : relB x r = true) :
    Takes Try.prog (tabA a b c d) ra base 0 (.loop (codeOf 3 pR)) (mkT 135 (plAt V z j 0)) (hp 0 (both ⟨x, r⟩)) fun y => y = (.exit 2, mkT 135 [(2, V), (28, z.v), (29, .int .i64 j)], hp 0 []) := by
  refine takes_loop (fun m ts h => ∃ (i : Nat) (x' : Al) (r' : Rf), i ≤ 100 ∧ m = 100 - i + 1 ∧ relB x' r' = true ∧ ts = mkT 135 (plAt V z j i) ∧ h = hp 0 (both ⟨x', r'⟩)) (fun ts h => by rintro ⟨i, x', r', _, h, _⟩; omega) (fun m ts h' => ?_) (j := 101) ⟨0, x, r, Nat.zero_le _, rfl, h, rfl, rfl⟩
  rintro ⟨i, x', r', k1, k2, k3, rfl, rfl⟩
  refine (plays_step hV hd hl z j k3 k1).mono ?_
  rintro y (⟨g1, x'', r'', g2, rfl⟩ | rfl)
  · exact ⟨i + 1, x'', r'', by omega, by omega, g2, rfl, rfl⟩
  · rfl

theorem none_loop {V : AVal} (hV : okV a V = true) (z : Six) (j : Int) :
    Takes Try.prog (tabA a b c d) ra base 0 (.loop (codeOf 3 pR)) (mkT 135 (plIns (.o V z j))) (hp 0 []) fun y => y = (.exit 2, mkT 135 [(2, V), (28, z.v), (29, .int .i64 j)], hp 0 []) := by
  have hE := tabA_plain a b c d
  have hS := S5_ok (ra := ra) (base := base) hE
  refine takes_loop (fun m ts h => m = 1 ∧ ts = mkT 135 (plIns (.o V z j)) ∧ h = hp 0 []) (fun ts h => by rintro ⟨h, _⟩; omega) (fun m ts h' => ?_) (j := 1) ⟨rfl, rfl, rfl⟩
  rintro ⟨_, rfl, rfl⟩
  rcases okV_cases hV with rfl | rfl
  · exact takes_of_tree hE (wE hE hS) (f := 3) (.inr (by kernel_rfl)) (hp_below _) (plays_none0 z j a b c d) rfl
  · exact takes_of_tree hE (wE hE hS) (f := 3) (.inr (by kernel_rfl)) (hp_below _) (plays_none a.length z j a b c d) ⟨fun _ => rfl, fun _ => rfl⟩

theorem T3_ok (hd : ∀ v ∈ d, in64 v) (hl : d.length = a.length) : ToldsOK Try.prog (tabA a b c d) ra base 0 (T3 a) := by
  refine sumT_ok noT_ok rfl (toldR_ok (c := .loop (codeOf 3 pR)) (by kernel_rfl) fun y hy => ?_)
  cases y with
  | b V z j x r =>
    simp only [plD, Bool.and_eq_true] at hy
    refine (plays_loop hy.1 hd hl z j hy.2).mono ?_
    rintro y rfl
    exact ⟨(), trivial, rfl⟩
  | o V z j =>
    refine (none_loop hy z j).mono ?_
    rintro y rfl
    exact ⟨(), trivial, rfl⟩

theorem plays_gives (hd : ∀ v ∈ d, in64 v) (hl : d.length = a.length) {s1 s2 s3 f1 f2 : Int} (h1 : in64 s1) (h2 : in64 s2) (h3 : in64 s3) (h4 : 0 ≤ f1 ∧ f1 < 256) (h5 : 0 ≤ f2 ∧ f2 < 256) {V : AVal} (hV : okV a V = true) :
    Gives Try.prog (tabA a b c d) ra base 0 3 [.agg [.int .i64 s1, .int .i64 s2, .int .i64 s3], .agg [.int .u8 f1, .int .u8 f2], V] (hp 0 []) fun v _ => v = .bool true := by
  have hE := tabA_plain a b c d
  have hS := S5_ok (ra := ra) (base := base) hE
  have hT := T3_ok (ra := ra) (base := base) (b := b) (c := c) hd hl
  have r1 : newOk ⟨s1, s2, s3⟩ = true → relB { c := [false, false, false, false, false, false, false, false, false, false, false, false, false, false, false, false], d := [false, false, false, false, false, false, false, false, false, false, false, false, false, false, false, false], n := s1, m := s2, l := s3 } { p := List.replicate (Int.toNat s1) false, q := List.replicate (Int.toNat s2) false, l := s3 } = true := fun h => new_rel (t := ⟨s1, s2, s3⟩) h h3
  have r2 : ∀ u v : Int, newOk ⟨u, v, 0⟩ = true → relB { c := [false, false, false, false, false, false, false, false, false, false, false, false, false, false, false, false], d := [false, false, false, false, false, false, false, false, false, false, false, false, false, false, false, false], n := u, m := v, l := 0 } { p := List.replicate (Int.toNat u) false, q := List.replicate (Int.toNat v) false, l := 0 } = true := fun u v h => new_rel (t := ⟨u, v, 0⟩) h (show in64 0 from ⟨by decide, by decide⟩)
  rcases okV_cases hV with rfl | rfl
  · refine gives_of_treeQ hE (wE hE hS) hT (hp_below _) (plays_call0 s1 s2 s3 f1 f2 a b c d) ?_
    cases hb : newOk ⟨s1, s2, s3⟩ <;> cases hb2 : newOk ⟨wr .i64 (1 + wr .i64 (Int.tmod f1 4)), wr .i64 (Int.tmod f2 4), 0⟩ <;>
      simp only [TreeQ.holds, decide_true, Bool.and_self, Bool.and_true, Bool.true_and, true_and, hb, hb2, hV, Bool.not_false, Bool.not_true, r1, r2, forall_const, reduceCtorEq, false_implies, and_true, List.cons.injEq]
    all_goals exact ⟨_, rfl, rfl⟩
  · refine gives_of_treeQ hE (wE hE hS) hT (hp_below _) (plays_call a.length s1 s2 s3 f1 f2 a b c d) ?_
    cases hb : newOk ⟨s1, s2, s3⟩ <;> cases hb2 : newOk ⟨wr .i64 (1 + wr .i64 (Int.tmod f1 4)), wr .i64 (Int.tmod f2 4), 0⟩ <;>
      simp only [TreeQ.holds, decide_true, Bool.and_self, Bool.and_true, Bool.true_and, true_and, hb, hb2, hV, Bool.not_false, Bool.not_true, r1, r2, forall_const, reduceCtorEq, false_implies, and_true, List.cons.injEq]
    all_goals exact ⟨_, rfl, rfl⟩
end

end Go.Proofs.Ytbdjcekekhgnkaa
