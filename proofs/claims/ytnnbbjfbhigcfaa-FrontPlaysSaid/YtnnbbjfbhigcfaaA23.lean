/- front: a law's arguments: the acts, as tables. -/
import Derived.Test.YtnnbbjfbhigcfaaP23b
import Derived.Test.YtnnbbjfbhigcfaaE32
namespace Go.Proofs.Ytnnbbjfbhigcfaa
open Go.ChangeShapes Go.WideShapes Go.ChangeAt Go.RowKit Ab

def ktA : List CK := [.int .u8, .int .i8, .int .i64, .slice 2]
def ktH : List CK := [.int .i64]

/-- the acts of a list -/
def tbOf (w : World) (v : Value) : Tb := ⟨ints w v 4 0, ints w v 4 1, ints w v 4 2, sublen w v 4 3, subnil w v 4 3, fun p => ints w (val2 w v 4 3 1 p) 1 0⟩

theorem tb_tabs {H : Type} {enc : TypeId × Value → H} {w : World} {v : Value} (ho : OpenC enc Try.prog w (.slice 31) v) : Tabs enc Try.prog w (val2 w v 4 3) (two 31 2) (two ktA ktH) ch2 :=
  tabs2 (ks := ktA) (ks' := ktH) ⟨by kernel_rfl, by kernel_rfl, Nat.succ_pos _⟩ ⟨by kernel_rfl, by kernel_rfl, Nat.succ_pos _⟩ ho rfl (fun j e hj => by rcases j with _ | _ | _ | _ | j <;> simp [ktA] at hj ⊢) (fun j e hj => by rcases j with _ | j <;> simp [ktH] at hj)

theorem tb_tab (w : World) (v : Value) : tabE w (val2 w v 4 3) (two ktA ktH) ch2 = tabF (tbOf w v) := by
  funext t p
  cases t with
  | zero => simp only [tabE, segK, tabF, tbOf, ints_length]; rfl
  | succ t => simp only [tabE, segK, tabF, tbOf, ints_length]; rfl

theorem tb_ok (w : World) (v : Value) : (tbOf w v).Ok := by
  refine ⟨by simp only [tbOf, ints_length], by simp only [tbOf, ints_length], by simp only [tbOf, ints_length, sublen_length], fun k hk => ?_⟩
  simp only [tbOf, ints_length] at hk ⊢
  rw [sublen, getD_map_range 0 hk]
  show gL (if k < gL v then cellAt w v (k * 4 + 3) else .slice none 0 0) = _
  rw [if_pos hk]

theorem tb_okV {H : Type} {enc : TypeId × Value → H} {w : World} {v : Value} (ho : OpenC enc Try.prog w (.slice 31) v) : okV (tbOf w v) (gV 0 0 v) = true := by
  rcases ho with rfl | ⟨a, len, cap, fuel, rfl, _⟩
  · rfl
  · show decide (_ = _) = true
    simp only [tbOf, ints_length]; exact decide_eq_true rfl

end Go.Proofs.Ytnnbbjfbhigcfaa
