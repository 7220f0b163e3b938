/- PROVED: the law AccEnds returns true, whatever the list: the least and the greatest one are values, and none is beyond; no condition. -/
import Derived.Test.YtebpekgijakonaaP05e
import Derived.Test.YtebpekgijakonaaT05f
namespace Go.Proofs.Ytebpekgijakonaa
open Go.ChangeShapes Go.WideShapes Go.ChangeAt Go.RowKit Ab

section
variable {xs : List Int} {ra : Nat → Nat → Nat × Nat} {base : Nat}

theorem L6_ok : LoopsOK Try.prog (tabI xs) ra base (L6 xs) := by
  refine sumL_deal (tab_plain xs) (sumL_deal (tab_plain xs) noL_ok rfl (c := codeOf 6 [false, false, true, false, true, true, true, true, true, true, true, true, true, true]) (by kernel_rfl) (fun _ => rfl) fun x hx => ?_) rfl
    (c := codeOf 6 [false, false, true, false, true, true, true, true]) (by kernel_rfl) (fun _ => rfl) fun m hm => ?_
  · simp only [someD, Bool.and_eq_true, decide_eq_true_eq] at hx
    exact some_loop hx.1.1 hx.1.2 hx.2
  · simp only [downD, Bool.and_eq_true, decide_eq_true_eq] at hm
    exact down_loop hm.1 hm.2

theorem ends_runs : ∃ d r, (callB Try.prog (tabI xs) S8 (W (tabI xs) S8 (L6 xs)) 6 [.slice (.ro 0 0 0 0) xs.length none]).Runs [] (.bool true) d r := by
  refine true_of_tree (ends_tree xs.length xs) ?_
  obtain ⟨m, hm⟩ : ∃ m, m = min xs.length 100 := ⟨_, rfl⟩
  have e : (if 100 < (xs.length : Int) then (100 : Int) else (xs.length : Int)) = (m : Int) := by split <;> omega
  rw [e, Int.toNat_natCast]
  have hl : (xs.take m).length = m := by rw [List.length_take]; omega
  obtain ⟨_, f2, f3⟩ := agg_facts (xs.take m) (by omega)
  rw [hl] at f2
  have r0 : resV (agg (xs.take m)) 0 = (m : Int) := f2
  have r2 : resV (agg (xs.take m)) 2 = (agg (xs.take m)).a := rfl
  have r3 : resV (agg (xs.take m)) 3 = (agg (xs.take m)).b := rfl
  rw [r0, r2, r3]
  have hw : wr .i64 ((m : Int) - 1) = (m : Int) - 1 := wr_in ⟨by omega, by omega⟩
  simp only [Tree.holds, hw, decide_true, Bool.and_self, Bool.not_true, decide_eq_true_eq, Bool.and_eq_true, Bool.true_and, true_and]
  refine ⟨by omega, by omega, fun h => absurd h (by decide), fun _ => ⟨⟨by omega, ?_⟩, fun h => ?_, fun h => ?_⟩⟩
  · refine List.all_eq_true.2 fun y hy => ?_
    obtain ⟨⟨_, g1⟩, _, g2⟩ := f3 (List.ne_nil_of_mem hy)
    simp [g1 y hy, g2 y hy]
  · by_cases h0 : m = 0
    · subst h0; rfl
    · have : xs.take m ≠ [] := fun e => by rw [e] at hl; simp at hl; omega
      obtain ⟨_, g1, _⟩ := f3 this
      have : has (xs.take m) (agg (xs.take m)).b = true := List.any_eq_true.2 ⟨_, g1, by simp⟩
      rw [this, Bool.or_true]; rfl
  · exfalso
    by_cases h0 : m = 0
    · subst h0; simp at h
    · have : xs.take m ≠ [] := fun e => by rw [e] at hl; simp at hl; omega
      obtain ⟨⟨g1, _⟩, _⟩ := f3 this
      have : has (xs.take m) (agg (xs.take m)).a = true := List.any_eq_true.2 ⟨_, g1, by simp⟩
      rw [this] at h; simp at h
end

theorem law6 : lawB Try.prog Try.f6 = true := by kernel_rfl

theorem ends_lifted (os : Os) (started : os.Started) (H : Type) (enc : TypeId × Value → H) :
    ReturnsInHanded {} Try.checked os 6 .any (Rows.accEndsSpec.pre6 enc Try.prog Try.f6 Rows.accEndsRow.domain false) (Rows.accEndsSpec.post enc Try.prog Try.f6 false true false false) := by
  refine returnsInHanded_of_change (C := Try.checked) Try.own started (by kernel_rfl) Try.func6
    (ChangeSpec.witness6 (enc := enc) (C := Try.checked) false ⟨#[], #[.slice none 0 0], []⟩ 8 (by kernel_rfl) (by kernel_rfl) (by kernel_rfl) (by kernel_rfl)) ?_
  intro W₀ base args ds gs before hval hW _ _
  have hW' := hW
  obtain ⟨p, q, hA, _⟩ := hW
  rw [show (Try.f6).params.toList = [31] from by rw [Try.params6]] at hA
  obtain ⟨v, d, rfl, rfl, hd⟩ := trodAll_one hA
  have hv := hval 0 31 v (by rw [Try.params6]; rfl) rfl
  have ho := arg_cell (k := .slice 2) (by kernel_rfl) (by kernel_rfl) (by kernel_rfl) hv hd
  have T : Tabs enc Try.prog W₀ (fun _ _ => v) (fun _ => 2) (fun _ => [.int .i64]) (fun _ _ => 0) :=
    ⟨fun _ => ⟨by kernel_rfl, by kernel_rfl, by decide⟩, fun _ _ => ho, fun t p i j e _ hj => by cases j <;> simp at hj⟩
  have hE : tabE W₀ (fun _ _ => v) (fun _ => [.int .i64]) (fun _ _ => 0) = tabI (ints W₀ v 1 0) := by
    funext t p
    simp only [tabE, segK, tabI, ints_length]; rfl
  have hn : gL v = (ints W₀ v 1 0).length := by rw [ints_length]
  have H0 := T.start' hE
  have ha : RelL (tabI (ints W₀ v 1 0)) (tabR fun _ _ => v) (fun _ => none) [gV 0 0 v] #[v].toList := .cons (T.rel' hE 0 0) .nil
  have hP := tab_plain (ints W₀ v 1 0)
  rcases ho with rfl | ⟨a, len, cap, fuel, rfl, _⟩
  · exact law_end Try.laidOut law6 rfl hW' rfl H0 ha (W_ok (S8_ok hP) noL_ok) (S8_ok hP) (true_of_tree (ends_nil _) rfl)
  · have := ends_runs (xs := ints W₀ (.slice (some a) len cap) 1 0)
    rw [← hn] at this
    exact law_end Try.laidOut law6 rfl hW' rfl H0 ha (W_ok (S8_ok hP) L6_ok) (S8_ok hP) this

theorem ends_holds : Rows.AccEndsSaid :=
  OpenClaim.holds_of_wide 6 Try.f6 rfl rfl rfl rfl rfl rfl rfl ⟨rfl, rfl, rfl, rfl, rfl⟩ rfl rfl rfl rfl rfl (by kernel_rfl) Try.func6 (by kernel_rfl)
    (of_decide_eq_true (by kernel_rfl)) (by unfold Func.isWrapper; first | (rw [if_pos (by decide +kernel)]; kernel_rfl) | (rw [if_neg (by decide +kernel)]; exact ⟨rfl, rfl⟩))
    (fun os started H enc _ => ends_lifted os started H enc)

#print axioms ends_holds
end Go.Proofs.Ytebpekgijakonaa
