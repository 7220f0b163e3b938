/- PROVED: the law AlignCuts returns true, whatever ways, rows and orders: when a barrier is done, of each way just what stood ahead of it has been taken, barriers are done one behind the other, and as long as one is not done something can be taken; no condition. -/
import Derived.Test.YtbdjcekekhgnkaaP24s
import Derived.Test.YtbdjcekekhgnkaaE05
namespace Go.Proofs.Ytbdjcekekhgnkaa
open Go.ChangeShapes Go.WideShapes Go.ChangeAt Go.RowKit Ab

theorem law4 : lawB Try.prog Try.f4 = true := by kernel_rfl

def valC (w : World) (v1 v2 v3 : Value) (t p : Nat) : Value := match t with
  | 0 => v1
  | 1 => val2 w v1 1 0 1 p
  | 2 => v2
  | 3 => val2 w v2 1 0 1 p
  | 5 => .slice none 0 0
  | _ => v3
def etC (t : Nat) : TypeId := match t with
  | 0 => 47
  | 2 => 47
  | 5 => 3
  | _ => 5
def ktR : List CK := [.slice 5]
def ktU : List CK := [.int .u8]
def ktI : List CK := [.int .i64]
def ktC (t : Nat) : List CK := match t with
  | 0 => ktR
  | 2 => ktR
  | 5 => ktI
  | _ => ktU
def chC (t _ : Nat) : Nat := match t with
  | 0 => 1
  | 2 => 3
  | _ => 0
def tcOf (w : World) (v1 v2 v3 : Value) : Tc :=
  ⟨sublen w v1 1 0, subnil w v1 1 0, fun p => ints w (val2 w v1 1 0 1 p) 1 0, sublen w v2 1 0, subnil w v2 1 0, fun p => ints w (val2 w v2 1 0 1 p) 1 0, ints w v3 1 0, []⟩

theorem kR : kinds Try.prog 20 47 = some ktR ∧ Try.prog.cellsOf 47 = ktR.length ∧ 0 < ktR.length := ⟨by kernel_rfl, by kernel_rfl, Nat.succ_pos _⟩
theorem kU : kinds Try.prog 20 5 = some ktU ∧ Try.prog.cellsOf 5 = ktU.length ∧ 0 < ktU.length := ⟨by kernel_rfl, by kernel_rfl, Nat.succ_pos _⟩
theorem kI : kinds Try.prog 20 3 = some ktI ∧ Try.prog.cellsOf 3 = ktI.length ∧ 0 < ktI.length := ⟨by kernel_rfl, by kernel_rfl, Nat.succ_pos _⟩

theorem ways_tabs {H : Type} {enc : TypeId × Value → H} {w : World} {v : Value} (ho : OpenC enc Try.prog w (.slice 47) v) : Tabs enc Try.prog w (val2 w v 1 0) (two 47 5) (two ktR ktU) ch2 :=
  tabs2 kR kU ho rfl (fun j e hj => by rcases j with _ | j <;> simp [ktR] at hj ⊢) (fun j e hj => by rcases j with _ | j <;> simp [ktU] at hj)

theorem cuts_tabs {H : Type} {enc : TypeId × Value → H} {w : World} {v1 v2 v3 : Value} (o1 : OpenC enc Try.prog w (.slice 47) v1) (o2 : OpenC enc Try.prog w (.slice 47) v2) (o3 : OpenC enc Try.prog w (.slice 5) v3) :
    Tabs enc Try.prog w (valC w v1 v2 v3) etC ktC chC := by
  have T1 := ways_tabs o1
  have T2 := ways_tabs o2
  refine ⟨fun t => ?_, fun t p => ?_, fun t p i j e hi hj => ?_⟩
  · rcases t with _ | _ | _ | _ | _ | _ | t
    · exact kR
    · exact kU
    · exact kR
    · exact kU
    · exact kU
    · exact kI
    · exact kU
  · rcases t with _ | _ | _ | _ | _ | _ | t
    · exact o1
    · exact T1.opens 1 p
    · exact o2
    · exact T2.opens 1 p
    · exact o3
    · exact .inl rfl
    · exact o3
  · rcases t with _ | _ | _ | _ | _ | _ | t
    · exact T1.kids 0 0 i j e hi hj
    · rcases j with _ | j <;> simp [ktC, ktU] at hj
    · exact T2.kids 0 0 i j e hi hj
    · rcases j with _ | j <;> simp [ktC, ktU] at hj
    · rcases j with _ | j <;> simp [ktC, ktU] at hj
    · rcases j with _ | j <;> simp [ktC, ktI] at hj
    · rcases j with _ | j <;> simp [ktC, ktU] at hj

theorem cuts_tab (w : World) (v1 v2 v3 : Value) : tabE w (valC w v1 v2 v3) ktC chC = tabF (tcOf w v1 v2 v3) := by
  funext t p
  rcases t with _ | _ | _ | _ | _ | _ | t
  · simp only [tabE, segK, tabF, tcOf, sublen_length]; rfl
  · simp only [tabE, segK, tabF, tcOf, ints_length]; rfl
  · simp only [tabE, segK, tabF, tcOf, sublen_length]; rfl
  · simp only [tabE, segK, tabF, tcOf, ints_length]; rfl
  · simp only [tabE, segK, tabF, tcOf, ints_length]; rfl
  · simp only [tabE, segK, tabF, tcOf, List.getD_nil]; rfl
  · simp only [tabE, segK, tabF, tcOf, ints_length]; rfl

theorem cuts_ways {H : Type} {enc : TypeId × Value → H} {w : World} {v1 v2 v3 : Value} (T : Tabs enc Try.prog w (valC w v1 v2 v3) etC ktC chC) : Ways (tcOf w v1 v2 v3) := by
  have u : ∀ {v : Int}, inK .u8 v → 0 ≤ v ∧ v < 256 := fun h => h
  refine ⟨⟨fun p v hv => ?_, fun p v hv => ?_, fun v hv => ?_⟩, fun j hj _ => ?_, fun j hj _ => ?_⟩
  · exact u (inK_of (gL_le T (t := 1) (p := p) (j := 0) rfl v hv))
  · exact u (inK_of (gL_le T (t := 3) (p := p) (j := 0) rfl v hv))
  · exact u (inK_of (gL_le T (t := 4) (p := 0) (j := 0) rfl v hv))
  · simp only [tcOf, sublen_length, ints_length] at hj ⊢
    rw [sublen, getD_map_range 0 hj]
    show _ = gL (if j < gL v1 then cellAt w v1 (j * 1 + 0) else .slice none 0 0)
    rw [if_pos hj]
  · simp only [tcOf, sublen_length, ints_length] at hj ⊢
    rw [sublen, getD_map_range 0 hj]
    show _ = gL (if j < gL v2 then cellAt w v2 (j * 1 + 0) else .slice none 0 0)
    rw [if_pos hj]

theorem gV_two (t : Nat) (v : Value) : gV t 0 v = .nils ∨ gV t 0 v = .slice (.ro t 0 0 0) (gL v) none := by
  rw [gV_eq]
  cases gN v with
  | true => exact .inl rfl
  | false => exact .inr rfl

theorem cuts_lifted (os : Os) (started : os.Started) (H : Type) (enc : TypeId × Value → H) :
    ReturnsInHanded {} Try.checked os 4 .any (Rows.alignCutsSpec.pre6 enc Try.prog Try.f4 Rows.alignCutsRow.domain false) (Rows.alignCutsSpec.post enc Try.prog Try.f4 false true false false) := by
  refine returnsInHanded_of_change (C := Try.checked) Try.own started (by kernel_rfl) Try.func4
    (ChangeSpec.witness6 (enc := enc) (C := Try.checked) false ⟨#[], #[.slice none 0 0, .slice none 0 0, .slice none 0 0], []⟩ 8 (by kernel_rfl) (by kernel_rfl) (by kernel_rfl) (by kernel_rfl)) ?_
  intro W₀ base args ds gs before hval hW _ _
  have hW' := hW
  obtain ⟨p, q, hA, _⟩ := hW
  rw [show (Try.f4).params.toList = [42, 42, 43] from by rw [Try.params4]] at hA
  obtain ⟨v1, v2, v3, d1, d2, d3, p1, p2, p3, rfl, rfl, _, k1, k2, k3⟩ := trodAll_three hA
  have o1 := arg_cell (k := .slice 47) (by kernel_rfl) (by kernel_rfl) (by kernel_rfl) (hval 0 42 v1 (by rw [Try.params4]; rfl) rfl) k1
  have o2 := arg_cell (k := .slice 47) (by kernel_rfl) (by kernel_rfl) (by kernel_rfl) (hval 1 42 v2 (by rw [Try.params4]; rfl) rfl) k2
  have o3 := arg_cell (k := .slice 5) (by kernel_rfl) (by kernel_rfl) (by kernel_rfl) (hval 2 43 v3 (by rw [Try.params4]; rfl) rfl) k3
  have T := cuts_tabs o1 o2 o3
  have hE := cuts_tab W₀ v1 v2 v3
  have hT := cuts_ways T
  have H0 := T.start' hE
  have ha : RelL (tabF (tcOf W₀ v1 v2 v3)) (tabR (valC W₀ v1 v2 v3)) (fun _ => none) [gV 0 0 v1, gV 2 0 v2, gV 4 0 v3] #[v1, v2, v3].toList :=
    .cons (T.rel' hE 0 0) (.cons (T.rel' hE 2 0) (.cons (T.rel' hE 4 0) .nil))
  have e1 : gL v1 = (tcOf W₀ v1 v2 v3).ns.length := (sublen_length _ _ _ _).symm
  have e2 : gL v2 = (tcOf W₀ v1 v2 v3).ms.length := (sublen_length _ _ _ _).symm
  have e3 : gL v3 = (tcOf W₀ v1 v2 v3).o.length := (ints_length _ _ _ _).symm
  have s1 := gV_two 0 v1
  have s2 := gV_two 2 v2
  have s3 := gV_two 4 v3
  rw [e1] at s1
  rw [e2] at s2
  rw [e3] at s3
  have key : Gives Try.prog (tabF (tcOf W₀ v1 v2 v3)) (tabR (valC W₀ v1 v2 v3)) (2 ^ W₀.heap.size - 1) 0 4 [gV 0 0 v1, gV 2 0 v2, gV 4 0 v3] (hp 0 []) fun v _ => v = .bool true := by
    rcases s1 with s1 | s1 <;> rcases s2 with s2 | s2 <;> rcases s3 with s3 | s3 <;> rw [s1, s2, s3]
    · exact cuts_nnn hT rfl
    · exact cuts_nns hT rfl
    · exact cuts_nsn hT rfl
    · exact cuts_nss hT rfl
    · exact cuts_snn hT rfl
    · exact cuts_sns hT rfl
    · exact cuts_ssn hT rfl
    · exact cuts_sss hT rfl
  exact law_end' Try.laidOut law4 rfl hW' rfl H0 ha key

theorem cuts_holds : Rows.AlignCutsSaid :=
  OpenClaim.holds_of_wide 4 Try.f4 rfl rfl rfl rfl rfl rfl rfl ⟨rfl, rfl, rfl, rfl, rfl⟩ rfl rfl rfl rfl rfl (by kernel_rfl) Try.func4 (by kernel_rfl)
    (of_decide_eq_true (by kernel_rfl)) (by unfold Func.isWrapper; first | (rw [if_pos (by decide +kernel)]; kernel_rfl) | (rw [if_neg (by decide +kernel)]; exact ⟨rfl, rfl⟩))
    (fun os started H enc _ => cuts_lifted os started H enc)

#print axioms cuts_holds
end Go.Proofs.Ytbdjcekekhgnkaa
