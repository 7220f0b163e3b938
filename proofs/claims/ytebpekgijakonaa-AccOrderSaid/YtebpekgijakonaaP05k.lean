/- acc: AccOrder's loops keep their contracts. -/
import Derived.Test.YtebpekgijakonaaP05j
namespace Go.Proofs.Ytebpekgijakonaa
open Ab

section
variable {xs ch : List Int} {ra : Nat → Nat → Nat × Nat} {base : Nat} {m : Nat} {C : AVal}

theorem gather_loop (hC : ChO C ch) (hm : 1 ≤ m) (hm' : m ≤ xs.length) (hb : m ≤ 100) (hxs : ∀ v ∈ xs, in64 v) :
    Takes Try.prog (tabO xs ch) ra base 1 (.loop (codeOf 5 pG)) (mkT 160 ((gatherD xs C).ins m)) (hp 0 [zero.blk]) fun y => y = (.exit 0, mkT 160 ((gatherD xs C).outs m), hp 0 ((gatherD xs C).blks' m)) := by
  refine takes_loop (fun j ts h => (j = m + 1 ∧ ts = mkT 160 (tsG m C .nils 0 0 0) ∧ h = hp 0 [zero.blk]) ∨ ∃ i : Nat, 1 ≤ i ∧ i ≤ m ∧ j = m - i + 1 ∧ ts = mkT 160 (tsG m C (.slice (.own 1 0 0 5) i none) (sH (xs.take i)) (sL (xs.take i)) i) ∧ h = hp 0 [(tot (xs.take i)).ac.blk, rowB (singles (xs.take i))])
    (fun ts h => by rintro (⟨h1, _⟩ | ⟨i, _, _, h1, _⟩) <;> omega) (fun j ts h => ?_) (j := m + 1) (.inl ⟨rfl, rfl, rfl⟩)
  rintro (⟨h1, rfl, rfl⟩ | ⟨i, h1, h2, h3, rfl, rfl⟩)
  · refine (gather0 hC hm hm' hxs).mono ?_
    rintro y rfl
    exact .inr ⟨1, Nat.le_refl _, hm, by omega, rfl, rfl⟩
  · refine (gather1 hC hm' hb hxs h1 h2).mono ?_
    rintro y (⟨k1, rfl⟩ | ⟨rfl, rfl⟩)
    · exact .inr ⟨i + 1, by omega, by omega, by omega, rfl, rfl⟩
    · rfl

end

end Go.Proofs.Ytebpekgijakonaa
