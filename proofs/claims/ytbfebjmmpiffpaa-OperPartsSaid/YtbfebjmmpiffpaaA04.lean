/- oper: what the laws take, opened. -/
import Derived.Test.YtbfebjmmpiffpaaP04o
import Derived.Test.YtbfebjmmpiffpaaE05
namespace Go.Proofs.Ytbfebjmmpiffpaa
open Go.ChangeShapes Go.WideShapes Go.ChangeAt Go.RowKit Ab

def ktD : List CK := [.int .u8, .int .i64, .int .i64, .int .u8, .bool]

/-- drafts, and drafts -/
def val04 (v1 v2 : Value) (t _ : Nat) : Value := match t with
  | 0 => v1
  | _ => v2
def dsOf (w : World) (v : Value) : Ds := ⟨ints w v 5 0, ints w v 5 1, ints w v 5 2, ints w v 5 3, bools w v 5 4⟩
def tbOf (w : World) (v1 v2 : Value) : Tb := ⟨dsOf w v1, dsOf w v2⟩

theorem tb_tabs {H : Type} {enc : TypeId × Value → H} {w : World} {v1 v2 : Value} (h1 : OpenC enc Try.prog w (.slice 25) v1) (h2 : OpenC enc Try.prog w (.slice 25) v2) : Tabs enc Try.prog w (val04 v1 v2) (two 25 25) (two ktD ktD) ch2 := by
  refine ⟨fun t => ?_, fun t p => ?_, fun t p i j e'' hi hj' => ?_⟩
  · cases t with
    | zero => exact ⟨by kernel_rfl, by kernel_rfl, Nat.succ_pos _⟩
    | succ t => exact ⟨by kernel_rfl, by kernel_rfl, Nat.succ_pos _⟩
  · cases t with
    | zero => exact h1
    | succ t => exact h2
  · cases t with
    | zero => rcases j with _ | _ | _ | _ | _ | j <;> simp [two, ktD] at hj'
    | succ t => rcases j with _ | _ | _ | _ | _ | j <;> simp [two, ktD] at hj'

theorem tb_tab (w : World) (v1 v2 : Value) : tabE w (val04 v1 v2) (two ktD ktD) ch2 = tabT (tbOf w v1 v2) := by
  funext t p
  cases t with
  | zero => simp only [tabE, segK, tabT, tabOf, Ds.seg, tbOf, dsOf, ints_length]; rfl
  | succ t => simp only [tabE, segK, tabT, tabOf, Ds.seg, tbOf, dsOf, ints_length]; rfl

theorem tb_okV {H : Type} {enc : TypeId × Value → H} {w : World} {v1 v2 : Value} (h1 : OpenC enc Try.prog w (.slice 25) v1) : okV 0 (tbOf w v1 v2) (gV 0 0 v1) = true := by
  rcases h1 with rfl | ⟨a, len, cap, fuel, rfl, _⟩
  · rfl
  · simp only [tbOf, dsOf, tabOf, ints_length, gV, gL, okV, decide_true, Bool.and_true]; rfl
theorem tb_okW {H : Type} {enc : TypeId × Value → H} {w : World} {v1 v2 : Value} (h2 : OpenC enc Try.prog w (.slice 25) v2) : okV 1 (tbOf w v1 v2) (gV 1 0 v2) = true := by
  rcases h2 with rfl | ⟨a, len, cap, fuel, rfl, _⟩
  · rfl
  · simp only [tbOf, dsOf, tabOf, ints_length, gV, gL, okV, decide_true, Bool.and_true]; rfl

end Go.Proofs.Ytbfebjmmpiffpaa
