/- align: AlignCuts: all the turns. -/
import Derived.Test.YtbdjcekekhgnkaaP24l
set_option linter.unusedSimpArgs false
namespace Go.Proofs.Ytbdjcekekhgnkaa
open Ab

def okInv (T : Tc) (y : Md) : Prop := (∃ L, Inv T y L) ∧ ∀ q, y.O = .slice (.ro 4 0 0 0) q none → q ≤ T.o.length
open Classical in
noncomputable def okInvB (T : Tc) (y : Md) : Bool := decide (okInv T y)
theorem okInvB_of {T : Tc} {y : Md} (h : okInv T y) : okInvB T y = true := by classical exact decide_eq_true h

noncomputable def mnD (T : Tc) : RDeal Md where
  ins := Md.ins
  blks := Md.bs
  pre := okInvB T
  alts := [⟨Unit, .ret, fun _ _ => True, fun _ _ => [(6, .bool true)], fun _ _ => []⟩]
noncomputable def TMn (T : Tc) : Tolds := sumT 4 pTu (toldR 251 (mnD T) [0, 2, 7, 8, 11, 12] mdO) noT
def p9 : List Bool := [true, true, true, true, true, true, true, true, true]

section
variable {ra : Nat → Nat → Nat × Nat} {base : Nat}

theorem mn_takes {T : Tc} (h : Ways T) (y : Md) (hy : okInv T y) : Takes Try.prog (tabF T) ra base 0 (.loop (codeOf 4 (false :: pTu))) (mkT 251 y.ins) (hp 0 y.bs) fun z => z = (.ret, mkT 251 [(6, .bool true)], []) := by
  refine takes_loop (fun m ts h' => ∃ y' : Md, okInv T y' ∧ m = (201 - y'.t).toNat ∧ ts = mkT 251 y'.ins ∧ h' = hp 0 y'.bs) (fun ts h' => by rintro ⟨y', ⟨⟨L, I⟩, _⟩, h, _⟩; have := I.turn; omega) (fun m ts h' => ?_) (j := (201 - y.t).toNat) ⟨y, hy, rfl, rfl, rfl⟩
  rintro ⟨y', ⟨⟨L, I⟩, hq⟩, k2, rfl, rfl⟩
  have ht := I.turn
  have qn : NextOk T y' (Round (fun ts h' => ∃ y' : Md, okInv T y' ∧ m = (201 - y'.t).toNat ∧ ts = mkT 251 y'.ins ∧ h' = hp 0 y'.bs) fun z => z = (.ret, mkT 251 [(6, .bool true)], [])) := by
    intro x' a' t' L' I' ht'
    refine ⟨{ y' with x := x', a := a', t := t' }, ⟨⟨L', I'⟩, hq⟩, ?_, rfl, rfl⟩
    show m = (201 - t').toNat
    omega
  rcases I.sh.1 with hO | ⟨q, hO⟩
  · exact tu_nil h y' I hO qn rfl
  · exact tu_ro h y' I hO (hq q hO) qn rfl

theorem TMn_ok {T : Tc} (h : Ways T) : ToldsOK Try.prog (tabF T) ra base 0 (TMn T) := by
  classical
  refine sumT_ok noT_ok rfl (toldR_ok (c := .loop (codeOf 4 (false :: pTu))) (by kernel_rfl) fun y hy => ?_)
  have hy' : okInv T y := by simpa [mnD, okInvB] using hy
  refine (mn_takes h y hy').mono ?_
  rintro z rfl
  exact ⟨(), trivial, rfl⟩
end

end Go.Proofs.Ytbdjcekekhgnkaa
