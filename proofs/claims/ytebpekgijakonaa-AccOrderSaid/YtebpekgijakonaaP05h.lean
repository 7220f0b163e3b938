/- acc: AccOrder's rounds. -/
import Derived.Test.YtebpekgijakonaaP05g
import Derived.Test.YtebpekgijakonaaT05g
namespace Go.Proofs.Ytebpekgijakonaa
open Ab

theorem tabO_plain (xs ch : List Int) : Plain (tabO xs ch) := by
  intro tid par j v hv
  obtain ⟨_, c, hc, rfl⟩ := cellOf_seg hv
  cases tid with
  | zero =>
    have e : j % 1 = 0 := Nat.mod_one j
    simp only [tabO, e, List.getElem?_cons_zero, Option.some.injEq] at hc
    subst hc; rfl
  | succ n =>
    have e : j % 1 = 0 := Nat.mod_one j
    simp only [tabO, e, List.getElem?_cons_zero, Option.some.injEq] at hc
    subst hc; rfl

/-- the choices: none, or a list -/
def ChO (C : AVal) (ch : List Int) : Prop := C = .nils ∨ C = .slice (.ro 1 0 0 0) ch.length none

section
variable {xs ch : List Int} {ra : Nat → Nat → Nat × Nat} {base : Nat} {m : Nat} {C : AVal} {hi lo : Int} {x : Ac}

abbrev TkO (xs ch : List Int) (ra : Nat → Nat → Nat × Nat) (base : Nat) (p : List Bool) (ts : List (Nat × AVal)) (bs : List Blk) (Q : State → Prop) : Prop :=
  Takes Try.prog (tabO xs ch) ra base 1 (codeOf 5 p) (mkT 160 ts) (hp 0 bs) Q

theorem wO : ExecOK Try.prog (tabO xs ch) ra base (W (tabO xs ch) S8 noL) := W_ok (S8_ok (tabO_plain xs ch)) noL_ok

theorem fo1 (hC : ChO C ch) (ps : List Ac) (i : Int) : TkO xs ch ra base [false, false, false, true, false, true, true, true, true, true, true, true] (tsF m C ps.length hi lo i) [x.blk, rowB ps]
    fun y => (1 < ps.length ∧ y = (.normal, mkT 160 (tsF m C ps.length hi lo i), hp 0 [x.blk, rowB ps])) ∨ (¬ 1 < ps.length ∧ y = (.exit 2, mkT 160 (tsE m ps.length hi lo), hp 0 [x.blk, rowB ps])) := by
  rcases hC with rfl | rfl
  · refine takes_of_tree (tabO_plain xs ch) wO (f := 5) (.inr (by kernel_rfl)) (hp_below _) (fo1_n m i hi lo x ps xs ch) ?_
    simp only [Tree.holds, decide_eq_true_eq, decide_eq_false_iff_not]
    exact ⟨fun h => .inl ⟨by omega, rfl⟩, fun h => .inr ⟨by omega, rfl⟩⟩
  · refine takes_of_tree (tabO_plain xs ch) wO (f := 5) (.inr (by kernel_rfl)) (hp_below _) (fo1_c m ch.length i hi lo x ps xs ch) ?_
    simp only [Tree.holds, decide_eq_true_eq, decide_eq_false_iff_not]
    exact ⟨fun h => .inl ⟨by omega, rfl⟩, fun h => .inr ⟨by omega, rfl⟩⟩

theorem fo2 (hC : ChO C ch) (ps : List Ac) (i : Int) : TkO xs ch ra base [false, false, false, true, false, false, true, false, true, true, true, true, true, true, true] (tsF m C ps.length hi lo i) [x.blk, rowB ps]
    fun y => y = (.normal, mkT 160 (tsF m C ps.length hi lo i ++ [(11, .int .i64 0)]), hp 0 [x.blk, rowB ps]) := by
  rcases hC with rfl | rfl
  · exact takes_of_tree (tabO_plain xs ch) wO (f := 5) (.inr (by kernel_rfl)) (hp_below _) (fo2_n m i hi lo x ps xs ch) rfl
  · exact takes_of_tree (tabO_plain xs ch) wO (f := 5) (.inr (by kernel_rfl)) (hp_below _) (fo2_c m ch.length i hi lo x ps xs ch) rfl

theorem fo3 (hC : ChO C ch) (hch : ∀ c ∈ ch, inK .u8 c) (ps : List Ac) (i : Nat) (h1 : 1 < ps.length) (h2 : ps.length ≤ 1000) : TkO xs ch ra base [false, true, false, false, true, false, false, true, false, true, true, true, true, true, true, true] (tsF m C ps.length hi lo i ++ [(11, .int .i64 0)]) [x.blk, rowB ps]
    fun y => ∃ k : Nat, k + 1 < ps.length ∧ y = (.normal, mkT 160 (tsF m C ps.length hi lo i ++ [(11, .int .i64 k)]), hp 0 [x.blk, rowB ps]) := by
  rcases hC with rfl | rfl
  · exact takes_of_tree (tabO_plain xs ch) wO (f := 5) (.inr (by kernel_rfl)) (hp_below _) (fo3_n m i hi lo x ps xs ch) ⟨0, h1, rfl⟩
  · refine takes_of_tree (tabO_plain xs ch) wO (f := 5) (.inr (by kernel_rfl)) (hp_below _) (fo3_c m ch.length i hi lo x ps xs ch) ?_
    simp only [Tree.holds, decide_eq_true_eq, decide_eq_false_iff_not, Bool.and_eq_true]
    refine ⟨fun h => ?_, fun h => ⟨0, h1, rfl⟩⟩
    have e1 : Int.tmod (i : Int) (ch.length : Int) = ((i % ch.length : Nat) : Int) := by
      rw [Int.tmod_eq_emod_of_nonneg (by omega)]; omega
    have hlt : i % ch.length < ch.length := Nat.mod_lt _ (by omega)
    have e2 : wr .i64 ((ps.length : Int) - 1) = ((ps.length - 1 : Nat) : Int) := by rw [wr_in ⟨by omega, by omega⟩]; omega
    have hget : ch.getD (0 + Int.toNat ((i % ch.length : Nat) : Int)) 0 = ch[i % ch.length] := getD_nat hlt
    have hc := hch _ (List.getElem_mem hlt)
    obtain ⟨c, hcn⟩ : ∃ c : Nat, ch[i % ch.length] = (c : Int) := ⟨ch[i % ch.length].toNat, by have := hc.1; omega⟩
    have hc2 : (c : Int) < 256 := by rw [← hcn]; exact hc.2
    have e3 : wr .i64 (c : Int) = (c : Int) := wr_in ⟨by omega, by omega⟩
    have e4 : Int.tmod (c : Int) ((ps.length - 1 : Nat) : Int) = ((c % (ps.length - 1) : Nat) : Int) := by
      rw [Int.tmod_eq_emod_of_nonneg (by omega)]; omega
    rw [e1, e2, hget, hcn, e3, e4, toNat_nat]
    have hk : c % (ps.length - 1) < ps.length - 1 := Nat.mod_lt _ (by omega)
    exact ⟨by omega, ⟨by omega, by omega⟩, hlt, by omega, c % (ps.length - 1), by omega, rfl⟩

theorem getD_map {f : Ac → Int} {ps : List Ac} {k : Nat} (h : k < ps.length) (d : Int) : (ps.map f).getD k d = f ps[k] := by
  simp [List.getD_eq_getElem?_getD, h]

theorem fa1 (hC : ChO C ch) (ps : List Ac) (i : Int) {k : Nat} (hk : k + 1 < ps.length) (h2 : ps.length ≤ 1000) : TkO xs ch ra base [false, true, true, false, false, true, false, false, true, false, true, true, true, true, true, true, true] (tsF m C ps.length hi lo i ++ [(11, .int .i64 k)]) [x.blk, rowB ps]
    fun y => y = (.normal, mkT 160 (tsF m C ps.length hi lo i ++ [(11, .int .i64 k), (12, .ptr (.own 2 0 0 0)), (13, .ptr (.own 3 0 0 0))]), hp 0 [x.blk, rowB ps, (ps[k]'(by omega)).blk, (ps[k + 1]).blk]) := by
  have e1 : wr .i64 ((k : Int) + 1) = ((k + 1 : Nat) : Int) := by rw [wr_in ⟨by omega, by omega⟩]; omega
  have hk' : k < ps.length := by omega
  rcases hC with rfl | rfl
  · refine takes_of_tree (tabO_plain xs ch) wO (f := 5) (.inr (by kernel_rfl)) (hp_below _) (fa1_n m k i hi lo x ps xs ch) ?_
    simp only [Tree.holds, decide_eq_true_eq, Bool.and_eq_true, e1, toNat_nat, getD_map hk', getD_map hk]
    exact ⟨⟨by omega, by omega⟩, hk', ⟨by omega, by omega⟩, hk, rfl⟩
  · refine takes_of_tree (tabO_plain xs ch) wO (f := 5) (.inr (by kernel_rfl)) (hp_below _) (fa1_c m ch.length k i hi lo x ps xs ch) ?_
    simp only [Tree.holds, decide_eq_true_eq, Bool.and_eq_true, e1, toNat_nat, getD_map hk', getD_map hk]
    exact ⟨⟨by omega, by omega⟩, hk', ⟨by omega, by omega⟩, hk, rfl⟩

abbrev tsA (m : Nat) (C : AVal) (len : Nat) (hi lo i k : Int) : List (Nat × AVal) := tsF m C len hi lo i ++ [(11, .int .i64 k), (12, .ptr (.own 2 0 0 0)), (13, .ptr (.own 3 0 0 0))]

theorem fa2 (hC : ChO C ch) (ps : List Ac) (i k : Int) (a b : Ac) : TkO xs ch ra base [false, true, true, true, false, false, true, false, false, true, false, true, true, true, true, true, true, true] (tsA m C ps.length hi lo i k) [x.blk, rowB ps, a.blk, b.blk]
    fun y => ∃ a' b', (a' = a ∧ b' = b ∨ a' = b ∧ b' = a) ∧ y = (.normal, mkT 160 (tsA m C ps.length hi lo i k), hp 0 [x.blk, rowB ps, a'.blk, b'.blk]) := by
  rcases hC with rfl | rfl
  · refine takes_of_tree (tabO_plain xs ch) wO (f := 5) (.inr (by kernel_rfl)) (hp_below _) (fa2_n m k i hi lo x a b ps xs ch) ?_
    exact ⟨fun _ => ⟨b, a, .inr ⟨rfl, rfl⟩, rfl⟩, fun _ => ⟨a, b, .inl ⟨rfl, rfl⟩, rfl⟩⟩
  · refine takes_of_tree (tabO_plain xs ch) wO (f := 5) (.inr (by kernel_rfl)) (hp_below _) (fa2_c m ch.length k i hi lo x a b ps xs ch) ?_
    exact ⟨fun _ => ⟨b, a, .inr ⟨rfl, rfl⟩, rfl⟩, fun _ => ⟨a, b, .inl ⟨rfl, rfl⟩, rfl⟩⟩

theorem cut_map {f : Ac → Int} {ps : List Ac} {k : Nat} : (ps.map f).take k ++ ((ps.map f).drop (k + 1)).take (ps.length - (k + 1)) = (ps.take k ++ ps.drop (k + 1)).map f := by
  rw [List.map_append, List.map_take, List.map_drop]
  congr 1
  exact List.take_of_length_le (by simp)

theorem fa3 (hC : ChO C ch) (ps : List Ac) (i : Int) {k : Nat} (hk : k + 1 < ps.length) (h2 : ps.length ≤ 1000) (a b : Ac) : TkO xs ch ra base [false, true, true, true, true, false, false, true, false, false, true, false, true, true, true, true, true, true, true] (tsA m C ps.length hi lo i k) [x.blk, rowB ps, a.blk, b.blk]
    fun y => y = (.normal, mkT 160 (tsA m C (ps.take k ++ ps.drop (k + 1)).length hi lo i k), hp 0 [x.blk, rowB (ps.take k ++ ps.drop (k + 1)), a.blk, b.blk]) := by
  have e1 : wr .i64 ((k : Int) + 1) = ((k + 1 : Nat) : Int) := by rw [wr_in ⟨by omega, by omega⟩]; omega
  have hl : (ps.take k ++ ps.drop (k + 1)).length = k + (ps.length - (k + 1)) := by rw [List.length_append, List.length_take, List.length_drop]; omega
  have hb : Nat.ble (k + (ps.length - (k + 1))) k = false := by
    cases hh : Nat.ble (k + (ps.length - (k + 1))) k with
    | false => rfl
    | true => have := Nat.le_of_ble_eq_true hh; omega
  rcases hC with rfl | rfl
  · refine takes_of_tree (tabO_plain xs ch) wO (f := 5) (.inr (by kernel_rfl)) (hp_below _) (fa3_n m k i hi lo x a b ps xs ch) ?_
    simp only [Tree.holds, decide_eq_true_eq, Bool.and_eq_true, e1, Int.toNat_natCast, Nat.zero_add, List.drop_zero, hb, cut_map]
    refine ⟨⟨by omega, by omega⟩, ⟨by omega, by omega⟩, ⟨by omega, by omega⟩, fun h => (by cases h), fun _ => ⟨by omega, by omega, by omega, ?_⟩⟩
    rw [rowB, hl]; rfl
  · refine takes_of_tree (tabO_plain xs ch) wO (f := 5) (.inr (by kernel_rfl)) (hp_below _) (fa3_c m ch.length k i hi lo x a b ps xs ch) ?_
    simp only [Tree.holds, decide_eq_true_eq, Bool.and_eq_true, e1, Int.toNat_natCast, Nat.zero_add, List.drop_zero, hb, cut_map]
    refine ⟨⟨by omega, by omega⟩, ⟨by omega, by omega⟩, ⟨by omega, by omega⟩, fun h => (by cases h), fun _ => ⟨by omega, by omega, by omega, ?_⟩⟩
    rw [rowB, hl]; rfl

theorem fa4 (hC : ChO C ch) (ps : List Ac) (i : Int) {k : Nat} (hk : k < ps.length) (a b : Ac) (ha : okL a = true) (hb : okL b = true) : TkO xs ch ra base [true, true, true, true, true, false, false, true, false, false, true, false, true, true, true, true, true, true, true] (tsA m C ps.length hi lo i k) [x.blk, rowB ps, a.blk, b.blk]
    fun y => y = (.normal, mkT 160 (tsF m C (ps.set k (merge a b)).length hi lo i), hp 0 [x.blk, rowB (ps.set k (merge a b))]) := by
  rcases hC with rfl | rfl
  · refine takes_of_tree (tabO_plain xs ch) wO (f := 5) (.inr (by kernel_rfl)) (hp_below _) (fa4_n m k i hi lo x a b ps xs ch) ?_
    simp only [Tree.holds, decide_eq_true_eq, Bool.and_eq_true, ha, hb, toNat_nat]
    refine ⟨⟨trivial, trivial⟩, ⟨by omega, by omega⟩, hk, ?_⟩
    rw [rowB, List.length_set]; simp only [List.map_set]; rfl
  · refine takes_of_tree (tabO_plain xs ch) wO (f := 5) (.inr (by kernel_rfl)) (hp_below _) (fa4_c m ch.length k i hi lo x a b ps xs ch) ?_
    simp only [Tree.holds, decide_eq_true_eq, Bool.and_eq_true, ha, hb, toNat_nat]
    refine ⟨⟨trivial, trivial⟩, ⟨by omega, by omega⟩, hk, ?_⟩
    rw [rowB, List.length_set]; simp only [List.map_set]; rfl

theorem fo5 (hC : ChO C ch) (ps : List Ac) (i : Nat) (hi' : i ≤ 1000) : TkO xs ch ra base [true, true, false, false, true, false, true, true, true, true, true, true, true] (tsF m C ps.length hi lo i) [x.blk, rowB ps]
    fun y => y = (.normal, mkT 160 (tsF m C ps.length hi lo ((i + 1 : Nat) : Int)), hp 0 [x.blk, rowB ps]) := by
  have e1 : wr .i64 ((i : Int) + 1) = ((i + 1 : Nat) : Int) := by rw [wr_in ⟨by omega, by omega⟩]; omega
  rw [← e1]
  rcases hC with rfl | rfl
  · exact takes_of_tree (tabO_plain xs ch) wO (f := 5) (.inr (by kernel_rfl)) (hp_below _) (fo5_n m i hi lo x ps xs ch) rfl
  · exact takes_of_tree (tabO_plain xs ch) wO (f := 5) (.inr (by kernel_rfl)) (hp_below _) (fo5_c m ch.length i hi lo x ps xs ch) rfl
end

end Go.Proofs.Ytebpekgijakonaa
