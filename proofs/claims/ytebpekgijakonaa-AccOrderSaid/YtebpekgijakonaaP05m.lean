/- acc: AccOrder, the whole of its code. -/
import Derived.Test.YtebpekgijakonaaP05l
import Derived.Test.YtebpekgijakonaaT05j
namespace Go.Proofs.Ytebpekgijakonaa
open Ab

section
variable {xs ch : List Int} {ra : Nat → Nat → Nat × Nat} {base : Nat} {C : AVal}

theorem oh0 (hC : ChO C ch) (n : Nat) : Tk0 xs ch ra base [false] [(0, .slice (.ro 0 0 0 0) n none), (1, C)] [] fun y => y = (.normal, mkT 160 [(0, .slice (.ro 0 0 0 0) n none), (1, C)], hp 0 []) := by
  rcases hC with rfl | rfl
  · exact takes_of_tree (tabO_plain xs ch) wO (f := 5) (.inr (by kernel_rfl)) (hp_below _) (or0_n n xs ch) rfl
  · exact takes_of_tree (tabO_plain xs ch) wO (f := 5) (.inr (by kernel_rfl)) (hp_below _) (or0_c n ch.length xs ch) rfl

theorem oh1 (hC : ChO C ch) (n : Nat) : Tk0 xs ch ra base [false, true] [(0, .slice (.ro 0 0 0 0) n none), (1, C)] [] fun y => y = (.normal, mkT 160 [(0, .slice (.ro 0 0 0 0) n none), (1, C)], hp 0 []) := by
  rcases hC with rfl | rfl
  · exact takes_of_tree (tabO_plain xs ch) wO (f := 5) (.inr (by kernel_rfl)) (hp_below _) (or1_n n xs ch) rfl
  · exact takes_of_tree (tabO_plain xs ch) wO (f := 5) (.inr (by kernel_rfl)) (hp_below _) (or1_c n ch.length xs ch) rfl

theorem oh2 (hC : ChO C ch) (n m : Nat) (hm : m = min n 100) : Tk0 xs ch ra base [false, true, true] [(0, .slice (.ro 0 0 0 0) n none), (1, C)] [] fun y => y = (.normal, mkT 160 [(0, .slice (.ro 0 0 0 0) m none), (1, C)], hp 0 []) := by
  have e : (if 100 < (n : Int) then (100 : Int) else (n : Int)) = (m : Int) := by split <;> omega
  rcases hC with rfl | rfl
  · refine takes_of_tree (tabO_plain xs ch) wO (f := 5) (.inr (by kernel_rfl)) (hp_below _) (or2_n n xs ch) ?_
    rw [e, Int.toNat_natCast]
    simp only [Tree.holds, decide_eq_true_eq, Bool.and_eq_true]
    exact ⟨⟨by omega, by omega⟩, rfl⟩
  · refine takes_of_tree (tabO_plain xs ch) wO (f := 5) (.inr (by kernel_rfl)) (hp_below _) (or2_c n ch.length xs ch) ?_
    rw [e, Int.toNat_natCast]
    simp only [Tree.holds, decide_eq_true_eq, Bool.and_eq_true]
    exact ⟨⟨by omega, by omega⟩, rfl⟩

theorem oh3 (hC : ChO C ch) (n : Nat) : Tk0 xs ch ra base [false, true, true, true] [(0, .slice (.ro 0 0 0 0) n none), (1, C)] [] fun y => y = (.normal, mkT 160 [(0, .slice (.ro 0 0 0 0) n none), (1, C), (5, .nils)], hp 0 []) := by
  rcases hC with rfl | rfl
  · exact takes_of_tree (tabO_plain xs ch) wO (f := 5) (.inr (by kernel_rfl)) (hp_below _) (or3_n n xs ch) rfl
  · exact takes_of_tree (tabO_plain xs ch) wO (f := 5) (.inr (by kernel_rfl)) (hp_below _) (or3_c n ch.length xs ch) rfl

theorem oh4 (hC : ChO C ch) (n : Nat) : Tk0 xs ch ra base [false, true, true, true, true] [(0, .slice (.ro 0 0 0 0) n none), (1, C), (5, .nils)] [] fun y => y = (.normal, mkT 160 [(0, .slice (.ro 0 0 0 0) n none), (1, C), (5, .nils), (6, .ptr (.own 0 0 0 0))], hp 0 [zero.blk]) := by
  rcases hC with rfl | rfl
  · exact takes_of_tree (tabO_plain xs ch) wO (f := 5) (.inr (by kernel_rfl)) (hp_below _) (or4_n n xs ch) rfl
  · exact takes_of_tree (tabO_plain xs ch) wO (f := 5) (.inr (by kernel_rfl)) (hp_below _) (or4_c n ch.length xs ch) rfl

theorem oh5 (hC : ChO C ch) (n : Nat) : Tk0 xs ch ra base [false, true, true, true, true, true] [(0, .slice (.ro 0 0 0 0) n none), (1, C), (5, .nils), (6, .ptr (.own 0 0 0 0))] [zero.blk] fun y => y = (.normal, mkT 160 [(0, .slice (.ro 0 0 0 0) n none), (1, C), (5, .nils), (6, .ptr (.own 0 0 0 0)), (7, .int .i64 0), (8, .int .i64 0)], hp 0 [zero.blk]) := by
  rcases hC with rfl | rfl
  · refine Takes.free (k := 1) ?_; exact takes_of_tree (tabO_plain xs ch) wO (f := 5) (.inr (by kernel_rfl)) (hp_below _) (or5_n n xs ch) rfl
  · refine Takes.free (k := 1) ?_; exact takes_of_tree (tabO_plain xs ch) wO (f := 5) (.inr (by kernel_rfl)) (hp_below _) (or5_c n ch.length xs ch) rfl

theorem oh6 (hC : ChO C ch) (n : Nat) : Tk0 xs ch ra base [false, false, true, true, true, true, true, true] [(0, .slice (.ro 0 0 0 0) n none), (1, C), (5, .nils), (6, .ptr (.own 0 0 0 0)), (7, .int .i64 0), (8, .int .i64 0)] [zero.blk] fun y => y = (.normal, mkT 160 ((gatherD xs C).ins n), hp 0 [zero.blk]) := by
  rcases hC with rfl | rfl
  · refine Takes.free (k := 1) ?_; exact takes_of_tree (tabO_plain xs ch) wO (f := 5) (.inr (by kernel_rfl)) (hp_below _) (or6_n n xs ch) rfl
  · refine Takes.free (k := 1) ?_; exact takes_of_tree (tabO_plain xs ch) wO (f := 5) (.inr (by kernel_rfl)) (hp_below _) (or6_c n ch.length xs ch) rfl

theorem oh7 (hC : ChO C ch) (n : Nat) : Tk0 xs ch ra base [false, false, true, true, true, true, true, true, true] ((gatherD xs C).outs n) ((gatherD xs C).blks' n) fun y => y = (.normal, mkT 160 (tsF n C n (sH (xs.take n)) (sL (xs.take n)) 0), hp 0 [(tot (xs.take n)).ac.blk, rowB (singles (xs.take n))]) := by
  rcases hC with rfl | rfl
  · refine Takes.free (k := 1) ?_; exact takes_of_tree (tabO_plain xs ch) wO (f := 5) (.inr (by kernel_rfl)) (hp_below _) (or7_n n xs ch) rfl
  · refine Takes.free (k := 1) ?_; exact takes_of_tree (tabO_plain xs ch) wO (f := 5) (.inr (by kernel_rfl)) (hp_below _) (or7_c n ch.length xs ch) rfl

theorem singles_map (l : List Int) : (l.map single).map Qd.ac = singles l := by rw [List.map_map]; rfl

/-- lists that have values -/
theorem order_gives (hC : ChO C ch) (hch : ∀ c ∈ ch, inK .u8 c) (hxs : ∀ v ∈ xs, in64 v) (hne : 1 ≤ xs.length) :
    Gives Try.prog (tabO xs ch) ra base 0 5 [.slice (.ro 0 0 0 0) xs.length none, C] (hp 0 []) fun v _ => v = .bool true := by
  obtain ⟨m, hm⟩ : ∃ m, m = min xs.length 100 := ⟨_, rfl⟩
  refine gives_of_takes (fn := Try.f5) (c := codeOf 5 []) (t := 4) (n := 158) Try.func5 (by kernel_rfl) (by kernel_rfl) (by kernel_rfl) ?_
  show Tk0 xs ch ra base [] [(0, .slice (.ro 0 0 0 0) xs.length none), (1, C)] [] _
  refine tk0_seq (p := []) (by kernel_rfl) (oh0 hC _) ?_
  refine tk0_seq (p := [true]) (by kernel_rfl) (oh1 hC _) ?_
  refine tk0_seq (p := [true, true]) (by kernel_rfl) (oh2 hC _ m hm) ?_
  refine tk0_seq (p := [true, true, true]) (by kernel_rfl) (oh3 hC _) ?_
  refine tk0_seq (p := [true, true, true, true]) (by kernel_rfl) (oh4 hC _) ?_
  refine tk0_seq (p := [true, true, true, true, true]) (by kernel_rfl) (oh5 hC _) ?_
  refine tk0_seq (p := [true, true, true, true, true, true]) (ts' := (gatherD xs C).outs m) (bs' := (gatherD xs C).blks' m) (by kernel_rfl) ?_ ?_
  · refine tk0_seq (p := [false, true, true, true, true, true, true]) (by kernel_rfl) (oh6 hC _) ?_
    unfold Tk0
    rw [show codeOf 5 [true, false, true, true, true, true, true, true] = .block 0 (.loop (codeOf 5 pG)) by kernel_rfl]
    refine takes_block ((gather_loop hC (by omega) (by omega) (by omega) hxs).mono ?_).free
    rintro y rfl
    rfl
  refine tk0_seq (p := [true, true, true, true, true, true, true]) (ts' := tsE m 1 (sH (xs.take m)) (sL (xs.take m))) (bs' := [(tot (xs.take m)).ac.blk, rowB [(tot (xs.take m)).ac]]) (by kernel_rfl) ?_ ?_
  · refine tk0_seq (p := [false, true, true, true, true, true, true, true]) (by kernel_rfl) (oh7 hC _) ?_
    unfold Tk0
    rw [show codeOf 5 [true, false, true, true, true, true, true, true, true] = .block 2 (.loop (codeOf 5 pB)) by kernel_rfl]
    have htl : (xs.take m).length = (m - 1) + 1 := by rw [List.length_take]; omega
    obtain ⟨t1, t2, t3, t4⟩ := tot_facts (m - 1) (xs.take m) htl fun w hw => hxs w (List.mem_of_mem_take hw)
    have hl : ((xs.take m).map single).length = m := by rw [List.length_map, htl]; omega
    have f := fold_loop (xs := xs) (ch := ch) (ra := ra) (base := base) (m := m) (C := C) (hi := sH (xs.take m)) (lo := sL (xs.take m)) (x := (tot (xs.take m)).ac) (qs := (xs.take m).map single) (t := tot (xs.take m)) hC hch (fun e => by rw [e] at hl; simp at hl; omega) (fun q hq => by
      obtain ⟨v, hv, rfl⟩ := List.mem_map.1 hq
      exact single_ok (hxs v (List.mem_of_mem_take hv))) t1 (by rw [t3]; omega)
    rw [hl, singles_map] at f
    refine takes_block (f.mono ?_).free
    rintro y rfl
    rfl
  exact order_tail (by omega) (by omega) (by omega) hxs

/-- lists that have none -/
theorem order_none (hC : ChO C ch) {V : AVal} (hV : V = .nils ∨ V = .slice (.ro 0 0 0 0) 0 none) :
    Gives Try.prog (tabO xs ch) ra base 0 5 [V, C] (hp 0 []) fun v _ => v = .bool true := by
  have hP := tabO_plain xs ch
  rcases hC with rfl | rfl <;> rcases hV with rfl | rfl
  · exact (gives_of_tree hP (W_ok (S8_ok hP) noL_ok) (S8_ok hP) (hp_below []) (order_nil_n xs ch) ⟨_, rfl, rfl⟩).2
  · exact (gives_of_tree hP (W_ok (S8_ok hP) noL_ok) (S8_ok hP) (hp_below []) (order_none_n xs ch) ⟨_, rfl, rfl⟩).2
  · exact (gives_of_tree hP (W_ok (S8_ok hP) noL_ok) (S8_ok hP) (hp_below []) (order_nil_c ch.length xs ch) ⟨_, rfl, rfl⟩).2
  · exact (gives_of_tree hP (W_ok (S8_ok hP) noL_ok) (S8_ok hP) (hp_below []) (order_none_c ch.length xs ch) ⟨_, rfl, rfl⟩).2
end

end Go.Proofs.Ytebpekgijakonaa
