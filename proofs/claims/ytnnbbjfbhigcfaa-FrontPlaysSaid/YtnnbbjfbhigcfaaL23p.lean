/- PROVED: the law FrontPlays returns true, whatever the number, the marks and the acts: the program's front, and the document's, tell the same; no condition. -/
import Derived.Test.YtnnbbjfbhigcfaaP23i
import Derived.Test.YtnnbbjfbhigcfaaA23
namespace Go.Proofs.Ytnnbbjfbhigcfaa
open Go.ChangeShapes Go.WideShapes Go.ChangeAt Go.RowKit Ab

theorem law5 : lawB Try.prog Try.f5 = true := by kernel_rfl

/-- the acts, their holds, and behind these the marks -/
def valM (w : World) (v1 v : Value) (t p : Nat) : Value := match t with
  | 0 => v
  | _ => if p = gL v then v1 else val2 w v 4 3 1 p
def tbM (w : World) (v1 v : Value) : Tb := { tbOf w v with hs := fun p => ints w (valM w v1 v 1 p) 1 0 }

theorem tbM_tabs {H : Type} {enc : TypeId × Value → H} {w : World} {v1 v : Value} (h1 : OpenC enc Try.prog w (.slice 2) v1) (ho : OpenC enc Try.prog w (.slice 31) v) : Tabs enc Try.prog w (valM w v1 v) (two 31 2) (two ktA ktH) ch2 := by
  have T := tb_tabs ho
  refine ⟨T.kinds, fun t p => ?_, fun t p i j e hi hj => ?_⟩
  · cases t with
    | zero => exact T.opens 0 p
    | succ t =>
      show OpenC enc Try.prog w (.slice 2) (if p = gL v then v1 else val2 w v 4 3 1 p)
      split
      · exact h1
      · exact T.opens 1 p
  · cases t with
    | zero =>
      have hi' : i < gL v := hi
      show (if i = gL v then v1 else val2 w v 4 3 1 i) = _
      rw [if_neg (by omega)]
      exact T.kids 0 p i j e hi hj
    | succ t => rcases j with _ | j <;> simp [two, ktH] at hj

theorem tbM_tab (w : World) (v1 v : Value) : tabE w (valM w v1 v) (two ktA ktH) ch2 = tabF (tbM w v1 v) := by
  funext t p
  cases t with
  | zero => exact congrFun (congrFun (tb_tab w v) 0) p
  | succ t => simp only [tabE, segK, tabF, tbM, ints_length]; rfl

theorem tbM_ok (w : World) (v1 v : Value) : (tbM w v1 v).Ok := by
  have T := tb_ok w v
  refine ⟨T.i, T.a, T.n, fun k hk => ?_⟩
  have h := T.h k hk
  have hk' : k < gL v := by
    have : k < (tbOf w v).w.length := hk
    simp only [tbOf, ints_length] at this; exact this
  rw [show (tbM w v1 v).hs k = (tbOf w v).hs k from by
    show ints w (if k = gL v then v1 else val2 w v 4 3 1 k) 1 0 = _
    rw [if_neg (by omega)]; rfl]
  exact h

theorem plays_lifted (os : Os) (started : os.Started) (H : Type) (enc : TypeId × Value → H) :
    ReturnsInHanded {} Try.checked os 5 .any (Rows.frontPlaysSpec.pre6 enc Try.prog Try.f5 Rows.frontPlaysRow.domain false) (Rows.frontPlaysSpec.post enc Try.prog Try.f5 false true false false) := by
  refine returnsInHanded_of_change (C := Try.checked) Try.own started (by kernel_rfl) Try.func5
    (ChangeSpec.witness6 (enc := enc) (C := Try.checked) false ⟨#[], #[.int .i64 0, .slice none 0 0, .slice none 0 0], []⟩ 8 (by kernel_rfl) (by kernel_rfl) (by kernel_rfl) (by kernel_rfl)) ?_
  intro W₀ base args ds gs before hval hW _ _
  have hW' := hW
  obtain ⟨p, q, hA, _⟩ := hW
  rw [show (Try.f5).params.toList = [3, 29, 22] from by rw [Try.params5]] at hA
  obtain ⟨v1, v2, v3, d1, d2, d3, p1, p2, p3, rfl, rfl, _, k1, k2, k3⟩ := trodAll_three hA
  obtain ⟨b, rfl, hb⟩ := arg_cell (k := .int .i64) (by kernel_rfl) (by kernel_rfl) (by kernel_rfl) (hval 0 3 v1 (by rw [Try.params5]; rfl) rfl) k1
  have o2 := arg_cell (k := .slice 2) (by kernel_rfl) (by kernel_rfl) (by kernel_rfl) (hval 1 29 v2 (by rw [Try.params5]; rfl) rfl) k2
  have o3 := arg_cell (k := .slice 31) (by kernel_rfl) (by kernel_rfl) (by kernel_rfl) (hval 2 22 v3 (by rw [Try.params5]; rfl) rfl) k3
  have T := tbM_tabs o2 o3
  have hE := tbM_tab W₀ v2 v3
  have H0 := T.start' hE
  have hm : valM W₀ v2 v3 1 (gL v3) = v2 := by
    show (if gL v3 = gL v3 then v2 else val2 W₀ v3 4 3 1 (gL v3)) = v2
    rw [if_pos rfl]
  have hr := T.rel' hE 1 (gL v3) (ι := fun _ => none)
  rw [hm] at hr
  have ha : RelL (tabF (tbM W₀ v2 v3)) (tabR (valM W₀ v2 v3)) (fun _ => none) [.int .i64 b, gV 1 (gL v3) v2, gV 0 0 v3] #[.int .i64 b, v2, v3].toList := .cons (.int _ _) (.cons hr (.cons (T.rel' hE 0 0) .nil))
  have h1 : gV 1 (gL v3) v2 = .nils ∨ gV 1 (gL v3) v2 = .slice (.ro 1 (gL v3) 0 0) ((tbM W₀ v2 v3).hs (gL v3)).length none := by
    rcases o2 with rfl | ⟨a, len, cap, fuel, rfl, _⟩
    · exact .inl rfl
    · refine .inr ?_
      simp only [tbM, ints_length, hm]; rfl
  exact law_end' Try.laidOut law5 rfl hW' rfl H0 ha (plays_gives (tbM_ok W₀ v2 v3) (tb_okV o3) h1)

theorem plays_holds : Rows.FrontPlaysSaid :=
  OpenClaim.holds_of_wide 5 Try.f5 rfl rfl rfl rfl rfl rfl rfl ⟨rfl, rfl, rfl, rfl, rfl⟩ rfl rfl rfl rfl rfl (by kernel_rfl) Try.func5 (by kernel_rfl)
    (of_decide_eq_true (by kernel_rfl)) (by unfold Func.isWrapper; first | (rw [if_pos (by decide +kernel)]; kernel_rfl) | (rw [if_neg (by decide +kernel)]; exact ⟨rfl, rfl⟩))
    (fun os started H enc _ => plays_lifted os started H enc)

#print axioms plays_holds
end Go.Proofs.Ytnnbbjfbhigcfaa
