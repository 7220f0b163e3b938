/- source: what the laws take, opened. -/
import Derived.Test.YtbpcfjhnkjobaaaP14e
import Derived.Test.YtbpcfjhnkjobaaaE05
namespace Go.Proofs.Ytbpcfjhnkjobaaa
open Go.ChangeShapes Go.WideShapes Go.ChangeAt Go.RowKit Ab

def ktD : List CK := [.int .u8, .int .i16, .bool, .int .i64, .int .u32, .int .i64, .int .i64, .int .u8, .bool, .bool]
def ktS : List CK := [.int .i16]

/-- drafts, and steps -/
def val14 (v1 v2 : Value) (t _ : Nat) : Value := match t with
  | 0 => v1
  | _ => v2
def itsOf (w : World) (v : Value) : Items := ⟨bools w v 10 2, ints w v 10 3, ints w v 10 4, ints w v 10 5, ints w v 10 6, ints w v 10 7, bools w v 10 8, bools w v 10 9⟩
def tbOf (w : World) (v1 v2 : Value) : Tb := ⟨ints w v1 10 0, ints w v1 10 1, itsOf w v1, ints w v2 1 0⟩

theorem tb_tabs {H : Type} {enc : TypeId × Value → H} {w : World} {v1 v2 : Value} (h1 : OpenC enc Try.prog w (.slice 55) v1) (h2 : OpenC enc Try.prog w (.slice 31) v2) : Tabs enc Try.prog w (val14 v1 v2) (two 55 31) (two ktD ktS) ch2 := by
  refine ⟨fun t => ?_, fun t p => ?_, fun t p i j e'' hi hj' => ?_⟩
  · cases t with
    | zero => exact ⟨by kernel_rfl, by kernel_rfl, Nat.succ_pos _⟩
    | succ t => exact ⟨by kernel_rfl, by kernel_rfl, Nat.succ_pos _⟩
  · cases t with
    | zero => exact h1
    | succ t => exact h2
  · cases t with
    | zero => rcases j with _ | _ | _ | _ | _ | _ | _ | _ | _ | _ | j <;> simp [two, ktD] at hj'
    | succ t => rcases j with _ | j <;> simp [two, ktS] at hj'

theorem tb_tab (w : World) (v1 v2 : Value) : tabE w (val14 v1 v2) (two ktD ktS) ch2 = tabT (tbOf w v1 v2) := by
  funext t p
  cases t with
  | zero => simp only [tabE, segK, tabT, tbOf, ints_length]; rfl
  | succ t => simp only [tabE, segK, tabT, tbOf, ints_length]; rfl

theorem tb_okV {H : Type} {enc : TypeId × Value → H} {w : World} {v1 v2 : Value} (h1 : OpenC enc Try.prog w (.slice 55) v1) : okV 0 (tbOf w v1 v2).w.length (gV 0 0 v1) = true := by
  rcases h1 with rfl | ⟨a, len, cap, fuel, rfl, _⟩
  · rfl
  · simp only [tbOf, ints_length, gV, gL, okV, decide_true, Bool.and_true]; rfl
theorem tb_okS {H : Type} {enc : TypeId × Value → H} {w : World} {v1 v2 : Value} (h2 : OpenC enc Try.prog w (.slice 31) v2) : okV 1 (tbOf w v1 v2).st.length (gV 1 0 v2) = true := by
  rcases h2 with rfl | ⟨a, len, cap, fuel, rfl, _⟩
  · rfl
  · simp only [tbOf, ints_length, gV, gL, okV, decide_true, Bool.and_true]; rfl

end Go.Proofs.Ytbpcfjhnkjobaaa
