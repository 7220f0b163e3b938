/- PROVED: the law AccLists returns true, whatever the list: the program's aggregate of any values is the document's; no condition. -/
import Derived.Test.YtebpekgijakonaaP05b
import Derived.Test.YtebpekgijakonaaT05b
namespace Go.Proofs.Ytebpekgijakonaa
open Go.ChangeShapes Go.WideShapes Go.ChangeAt Go.RowKit Ab

section
variable {E : Nat → Nat → Seg} {ra : Nat → Nat → Nat × Nat} {base : Nat}

theorem body14 : HasBody Try.prog 14 := ⟨_, Try.func14, by kernel_rfl⟩
theorem S14_ok (hE : Plain E) : SumsOK Try.prog E ra base S14 :=
  sumF_deal hE sumNone_ok body14 fun _ _ => (gives_of_tree hE (W_ok sumNone_ok noL_ok) sumNone_ok (hp_below []) (works_tree E) ⟨_, rfl, rfl, rfl⟩).2

theorem L4_ok {xs : List Int} (hxs : ∀ v ∈ xs, in64 v) : LoopsOK Try.prog (tabI xs) ra base (L4 xs) := by
  refine sumL_deal (tab_plain xs) (sumL_deal (tab_plain xs) noL_ok rfl (c := codeOf 15 [false, false, true, false, true, true]) (by kernel_rfl) (fun _ => rfl) fun m hm => ?_) rfl (c := codeOf 4 [false, false, true, false, true, true, true]) (by kernel_rfl) (fun _ => rfl) fun m hm => ?_
  · simp only [ofD, Bool.and_eq_true, decide_eq_true_eq] at hm
    exact of_loop hxs hm.1 hm.2
  · simp only [listsD, Bool.and_eq_true, decide_eq_true_eq] at hm
    exact lists_loop hm.1 hm.2

theorem lists_runs {xs : List Int} : ∃ d r, (callB Try.prog (tabI xs) S14 (W (tabI xs) S14 (L4 xs)) 4 [.slice (.ro 0 0 0 0) xs.length none]).Runs [] (.bool true) d r := by
  refine true_of_tree (lists_tree xs.length xs) ?_
  simp only [Tree.holds, decide_eq_true_eq, Bool.and_eq_true, Bool.and_true, decide_true, true_and]
  refine ⟨by split <;> omega, by split <;> omega, by split <;> omega, fun _ => rfl, fun h => ?_⟩
  simp at h
end

theorem in64_of {v : Int} (h : (Lit.int .i64 v).wf = true) : in64 v := by
  exact inK_of h

theorem law4 : lawB Try.prog Try.f4 = true := by kernel_rfl

theorem lists_lifted (os : Os) (started : os.Started) (H : Type) (enc : TypeId × Value → H) :
    ReturnsInHanded {} Try.checked os 4 .any (Rows.accListsSpec.pre6 enc Try.prog Try.f4 Rows.accListsRow.domain false) (Rows.accListsSpec.post enc Try.prog Try.f4 false true false false) := by
  refine returnsInHanded_of_change (C := Try.checked) Try.own started (by kernel_rfl) Try.func4
    (ChangeSpec.witness6 (enc := enc) (C := Try.checked) false ⟨#[], #[.slice none 0 0], []⟩ 8 (by kernel_rfl) (by kernel_rfl) (by kernel_rfl) (by kernel_rfl)) ?_
  intro W₀ base args ds gs before hval hW _ _
  have hW' := hW
  obtain ⟨p, q, hA, _⟩ := hW
  rw [show (Try.f4).params.toList = [31] from by rw [Try.params4]] at hA
  obtain ⟨v, d, rfl, rfl, hd⟩ := trodAll_one hA
  have hv := hval 0 31 v (by rw [Try.params4]; rfl) rfl
  have ho := arg_cell (k := .slice 2) (by kernel_rfl) (by kernel_rfl) (by kernel_rfl) hv hd
  have T : Tabs enc Try.prog W₀ (fun _ _ => v) (fun _ => 2) (fun _ => [.int .i64]) (fun _ _ => 0) :=
    ⟨fun _ => ⟨by kernel_rfl, by kernel_rfl, by decide⟩, fun _ _ => ho, fun t p i j e _ hj => by cases j <;> simp at hj⟩
  have hE : tabE W₀ (fun _ _ => v) (fun _ => [.int .i64]) (fun _ _ => 0) = tabI (ints W₀ v 1 0) := by
    funext t p
    simp only [tabE, segK, tabI, ints_length]; rfl
  have hxs : ∀ x ∈ ints W₀ v 1 0, in64 x := fun x hx => in64_of (gL_le T (t := 0) (p := 0) (j := 0) rfl x hx)
  have hn : gL v = (ints W₀ v 1 0).length := by rw [ints_length]
  have H0 := T.start' hE
  have ha : RelL (tabI (ints W₀ v 1 0)) (tabR fun _ _ => v) (fun _ => none) [gV 0 0 v] #[v].toList := .cons (T.rel' hE 0 0) .nil
  have hP := tab_plain (ints W₀ v 1 0)
  rcases ho with rfl | ⟨a, len, cap, fuel, rfl, _⟩
  · exact law_end Try.laidOut law4 rfl hW' rfl H0 ha (W_ok (S14_ok hP) noL_ok) (S14_ok hP) (true_of_tree (lists_nil _) rfl)
  · have := lists_runs (xs := ints W₀ (.slice (some a) len cap) 1 0)
    rw [← hn] at this
    exact law_end Try.laidOut law4 rfl hW' rfl H0 ha (W_ok (S14_ok hP) (L4_ok hxs)) (S14_ok hP) this

theorem lists_holds : Rows.AccListsSaid :=
  OpenClaim.holds_of_wide 4 Try.f4 rfl rfl rfl rfl rfl rfl rfl ⟨rfl, rfl, rfl, rfl, rfl⟩ rfl rfl rfl rfl rfl (by kernel_rfl) Try.func4 (by kernel_rfl)
    (of_decide_eq_true (by kernel_rfl)) (by unfold Func.isWrapper; first | (rw [if_pos (by decide +kernel)]; kernel_rfl) | (rw [if_neg (by decide +kernel)]; exact ⟨rfl, rfl⟩))
    (fun os started H enc _ => lists_lifted os started H enc)

#print axioms lists_holds
end Go.Proofs.Ytebpekgijakonaa
