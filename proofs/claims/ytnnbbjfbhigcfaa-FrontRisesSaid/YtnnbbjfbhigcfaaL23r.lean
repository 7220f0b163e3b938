/- PROVED: the law FrontRises returns true, whatever the number of channels and the acts: Min never falls; what is told rises, never above a mark or a hold; at the end Forever is told; no condition. -/
import Derived.Test.YtnnbbjfbhigcfaaP23c
import Derived.Test.YtnnbbjfbhigcfaaE32
namespace Go.Proofs.Ytnnbbjfbhigcfaa
open Go.ChangeShapes Go.WideShapes Go.ChangeAt Go.RowKit Ab

theorem law3 : lawB Try.prog Try.f3 = true := by kernel_rfl

def ktA : List CK := [.int .u8, .int .i8, .int .i64, .slice 2]
def ktH : List CK := [.int .i64]

/-- the acts of a list -/
def tbOf (w : World) (v : Value) : Tb := ⟨ints w v 4 0, ints w v 4 1, ints w v 4 2, sublen w v 4 3, subnil w v 4 3, fun p => ints w (val2 w v 4 3 1 p) 1 0⟩

theorem tb_tabs {H : Type} {enc : TypeId × Value → H} {w : World} {v : Value} (ho : OpenC enc Try.prog w (.slice 31) v) : Tabs enc Try.prog w (val2 w v 4 3) (two 31 2) (two ktA ktH) ch2 :=
  tabs2 (ks := ktA) (ks' := ktH) ⟨by kernel_rfl, by kernel_rfl, Nat.succ_pos _⟩ ⟨by kernel_rfl, by kernel_rfl, Nat.succ_pos _⟩ ho rfl (fun j e hj => by rcases j with _ | _ | _ | _ | j <;> simp [ktA] at hj ⊢) (fun j e hj => by rcases j with _ | j <;> simp [ktH] at hj)

theorem tb_tab (w : World) (v : Value) : tabE w (val2 w v 4 3) (two ktA ktH) ch2 = tabF (tbOf w v) := by
  funext t p
  cases t with
  | zero => simp only [tabE, segK, tabF, tbOf, ints_length]; rfl
  | succ t => simp only [tabE, segK, tabF, tbOf, ints_length]; rfl

theorem tb_ok (w : World) (v : Value) : (tbOf w v).Ok := by
  refine ⟨by simp only [tbOf, ints_length], by simp only [tbOf, ints_length], by simp only [tbOf, ints_length, sublen_length], fun k hk => ?_⟩
  simp only [tbOf, ints_length] at hk ⊢
  rw [sublen, getD_map_range 0 hk]
  show gL (if k < gL v then cellAt w v (k * 4 + 3) else .slice none 0 0) = _
  rw [if_pos hk]

theorem tb_okV {H : Type} {enc : TypeId × Value → H} {w : World} {v : Value} (ho : OpenC enc Try.prog w (.slice 31) v) : okV (tbOf w v) (gV 0 0 v) = true := by
  rcases ho with rfl | ⟨a, len, cap, fuel, rfl, _⟩
  · rfl
  · show decide (_ = _) = true
    simp only [tbOf, ints_length]; exact decide_eq_true rfl

theorem rises_lifted (os : Os) (started : os.Started) (H : Type) (enc : TypeId × Value → H) :
    ReturnsInHanded {} Try.checked os 3 .any (Rows.frontRisesSpec.pre6 enc Try.prog Try.f3 Rows.frontRisesRow.domain false) (Rows.frontRisesSpec.post enc Try.prog Try.f3 false true false false) := by
  refine returnsInHanded_of_change (C := Try.checked) Try.own started (by kernel_rfl) Try.func3
    (ChangeSpec.witness6 (enc := enc) (C := Try.checked) false ⟨#[], #[.int .u8 0, .slice none 0 0], []⟩ 8 (by kernel_rfl) (by kernel_rfl) (by kernel_rfl) (by kernel_rfl)) ?_
  intro W₀ base args ds gs before hval hW _ _
  have hW' := hW
  obtain ⟨p, q, hA, _⟩ := hW
  rw [show (Try.f3).params.toList = [5, 22] from by rw [Try.params3]] at hA
  obtain ⟨v1, v2, d1, d2, p1, p2, rfl, rfl, _, k1, k2⟩ := trodAll_two hA
  obtain ⟨b, rfl, hb⟩ := arg_cell (k := .int .u8) (by kernel_rfl) (by kernel_rfl) (by kernel_rfl) (hval 0 5 v1 (by rw [Try.params3]; rfl) rfl) k1
  have o2 := arg_cell (k := .slice 31) (by kernel_rfl) (by kernel_rfl) (by kernel_rfl) (hval 1 22 v2 (by rw [Try.params3]; rfl) rfl) k2
  have T := tb_tabs o2
  have hE := tb_tab W₀ v2
  have H0 := T.start' hE
  have ha : RelL (tabF (tbOf W₀ v2)) (tabR (val2 W₀ v2 4 3)) (fun _ => none) [.int .u8 b, gV 0 0 v2] #[.int .u8 b, v2].toList := .cons (.int _ _) (.cons (T.rel' hE 0 0) .nil)
  exact law_end' Try.laidOut law3 rfl hW' rfl H0 ha (rises_gives (tb_ok W₀ v2) (tb_okV o2) (inK_of hb))

theorem rises_holds : Rows.FrontRisesSaid :=
  OpenClaim.holds_of_wide 3 Try.f3 rfl rfl rfl rfl rfl rfl rfl ⟨rfl, rfl, rfl, rfl, rfl⟩ rfl rfl rfl rfl rfl (by kernel_rfl) Try.func3 (by kernel_rfl)
    (of_decide_eq_true (by kernel_rfl)) (by unfold Func.isWrapper; first | (rw [if_pos (by decide +kernel)]; kernel_rfl) | (rw [if_neg (by decide +kernel)]; exact ⟨rfl, rfl⟩))
    (fun os started H enc _ => rises_lifted os started H enc)

#print axioms rises_holds
end Go.Proofs.Ytnnbbjfbhigcfaa
