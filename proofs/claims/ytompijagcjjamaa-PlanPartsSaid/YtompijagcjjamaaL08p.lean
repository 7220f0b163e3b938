/- PROVED: the law PlanParts returns true, whatever the draft: each node is one of Pre, a stage's operator, or one of a list behind a stage, and just one of these; those are stateless and these are not; and a plan stays the same when a copy of it is changed; no condition. -/
import Derived.Test.YtompijagcjjamaaG12
import Derived.Test.YtompijagcjjamaaE05

namespace Go.Proofs.Ytompijagcjjamaa
open Go.ChangeShapes Go.WideShapes Go.ChangeAt Go.RowKit Ab
theorem law3 : lawB Try.prog Try.f3 = true := by kernel_rfl
def byT : TypeId := 5
def ktD : List CK := [.slice byT, .slice byT, .slice byT, .int .u8, .int .u8, .bool, .int .u16, .int .u16]
def ktB : List CK := [.int .u8]
def valD (v0 v1 v2 : Value) (t _ : Nat) : Value := match t with
  | 0 => v0
  | 1 => v1
  | _ => v2
theorem dr_tabs {H : Type} {enc : TypeId × Value → H} {w : World} {v0 v1 v2 : Value} (o0 : OpenC enc Try.prog w (.slice byT) v0) (o1 : OpenC enc Try.prog w (.slice byT) v1) (o2 : OpenC enc Try.prog w (.slice byT) v2) :
    Tabs enc Try.prog w (valD v0 v1 v2) (fun _ => byT) (fun _ => ktB) (fun _ _ => 0) := by
  refine ⟨fun t => ⟨by kernel_rfl, by kernel_rfl, Nat.succ_pos _⟩, fun t p => ?_, fun t p i j e hi hj => ?_⟩
  · rcases t with _ | _ | t
    · exact o0
    · exact o1
    · exact o2
  · rcases j with _ | j <;> simp [ktB] at hj
def ubOf (w : World) (v0 v1 v2 : Value) (t : Nat) : List Int := ints w (valD v0 v1 v2 t 0) 1 0
theorem dr_tab (w : World) (v0 v1 v2 : Value) : tabE w (valD v0 v1 v2) (fun _ => ktB) (fun _ _ => 0) = tabU (ubOf w v0 v1 v2) := by
  funext t p
  simp only [tabE, segK, tabU, ubOf, ints_length]
  rcases t with _ | _ | t <;> rfl
theorem dr_bytes {H : Type} {enc : TypeId × Value → H} {w : World} {v0 v1 v2 : Value} (T : Tabs enc Try.prog w (valD v0 v1 v2) (fun _ => byT) (fun _ => ktB) (fun _ _ => 0)) : Bytes (ubOf w v0 v1 v2) := by
  intro t v hv
  exact inK_of (gL_le T (t := t) (p := 0) (j := 0) (q := .u8) rfl v hv)
def viG (i : Nat) (v : Value) : Vi := ⟨gN v, i, gL v⟩
theorem viG_v (i : Nat) (v : Value) : (viG i v).v = gV i 0 v := by
  rw [gV_eq]; unfold viG Vi.v; cases gN v <;> rfl
theorem viG_ok (w : World) (v0 v1 v2 : Value) (i : Nat) : okId i (viG i (valD v0 v1 v2 i 0)) = true ∧ okVi (ubOf w v0 v1 v2) (viG i (valD v0 v1 v2 i 0)) = true := by
  generalize hv : valD v0 v1 v2 i 0 = v
  unfold okId okVi viG Vi.l
  cases h : gN v
  · refine ⟨decide_eq_true rfl, decide_eq_true ?_⟩
    simp only [ubOf, hv, ints_length]
  · refine ⟨rfl, decide_eq_true ?_⟩
    show gL v = 0
    cases v <;> first | rfl | skip
    rename_i a _ _
    cases a
    · rfl
    · cases h
theorem parts_lifted (os : Os) (started : os.Started) (H : Type) (enc : TypeId × Value → H) :
    ReturnsInHanded {} Try.checked os 3 .any (Rows.planPartsSpec.pre6 enc Try.prog Try.f3 Rows.planPartsRow.domain false) (Rows.planPartsSpec.post enc Try.prog Try.f3 false true false false) := by
  refine returnsInHanded_of_change (C := Try.checked) Try.own started (by kernel_rfl) Try.func3
    (ChangeSpec.witness6 (enc := enc) (C := Try.checked) false ⟨#[], #[.agg #[.slice none 0 0, .slice none 0 0, .slice none 0 0, .int .u8 0, .int .u8 0, .bool false, .int .u16 0, .int .u16 0]], []⟩ 8 (by kernel_rfl) (by kernel_rfl) (by kernel_rfl) (by kernel_rfl)) ?_
  intro W₀ base args ds gs before hval hW _ _
  have hW' := hW
  obtain ⟨p, q, hA, _⟩ := hW
  rw [show (Try.f3).params.toList = [25] from by rw [Try.params3]] at hA
  obtain ⟨v1, d1, rfl, rfl, k1⟩ := trodAll_one hA
  obtain ⟨cs, rfl, hc⟩ := arg_row (ks := ktD) (by kernel_rfl) (by kernel_rfl) (hval 0 25 v1 (by rw [Try.params3]; rfl) rfl) k1
  cases hc with | @cons _ c0 _ _ o0 hc =>
  cases hc with | @cons _ c1 _ _ o1 hc =>
  cases hc with | @cons _ c2 _ _ o2 hc =>
  cases hc with | @cons _ c3 _ _ o3 hc =>
  cases hc with | @cons _ c4 _ _ o4 hc =>
  cases hc with | @cons _ c5 _ _ o5 hc =>
  cases hc with | @cons _ c6 _ _ o6 hc =>
  cases hc with | @cons _ c7 _ _ o7 hc =>
  cases hc with | nil =>
  obtain ⟨a, rfl, ha⟩ := o3
  obtain ⟨b, rfl, hb⟩ := o4
  obtain ⟨t, rfl⟩ := o5
  obtain ⟨la, rfl, hl⟩ := o6
  obtain ⟨ep, rfl, he⟩ := o7
  have T := dr_tabs o0 o1 o2
  have hE := dr_tab W₀ c0 c1 c2
  have H0 := T.start' hE
  have ok : Dr.ok (ubOf W₀ c0 c1 c2) ⟨viG 0 c0, viG 1 c1, viG 2 c2, a, b, t, la, ep⟩ = true := by
    have z0 := viG_ok W₀ c0 c1 c2 0
    have z1 := viG_ok W₀ c0 c1 c2 1
    have z2 := viG_ok W₀ c0 c1 c2 2
    have ha := inK_of ha
    have hb := inK_of hb
    have hl := inK_of hl
    have he := inK_of he
    simp only [Dr.ok, Bool.and_eq_true, decide_eq_true_eq]
    exact ⟨z0.1, z1.1, z2.1, z0.2, z1.2, z2.2, ha.1, ha.2, hb.1, hb.2, hl.1, hl.2, he.1, he.2⟩
  have ha : RelL (tabU (ubOf W₀ c0 c1 c2)) (tabR (valD c0 c1 c2)) (fun _ => none) [Dr.v ⟨viG 0 c0, viG 1 c1, viG 2 c2, a, b, t, la, ep⟩] (#[Value.agg [c0, c1, c2, .int .u8 a, .int .u8 b, .bool t, .int .u16 la, .int .u16 ep].toArray] : Array Value).toList := by
    refine .cons (.agg ?_) .nil
    simp only [viG_v]
    exact .cons (T.rel' hE 0 0) (.cons (T.rel' hE 1 0) (.cons (T.rel' hE 2 0) (.cons (.int _ _) (.cons (.int _ _) (.cons (.bool _) (.cons (.int _ _) (.cons (.int _ _) .nil)))))))
  exact law_end' Try.laidOut law3 rfl hW' rfl H0 ha (parts_gives (dr_bytes T) ok)
theorem parts_holds : Rows.PlanPartsSaid :=
  OpenClaim.holds_of_wide 3 Try.f3 rfl rfl rfl rfl rfl rfl rfl ⟨rfl, rfl, rfl, rfl, rfl⟩ rfl rfl rfl rfl rfl (by kernel_rfl) Try.func3 (by kernel_rfl)
    (of_decide_eq_true (by kernel_rfl)) (by unfold Func.isWrapper; first | (rw [if_pos (by decide +kernel)]; kernel_rfl) | (rw [if_neg (by decide +kernel)]; exact ⟨rfl, rfl⟩))
    (fun os started H enc _ => parts_lifted os started H enc)
#print axioms parts_holds
end Go.Proofs.Ytompijagcjjamaa
