/- front: functions, and the loop of 'least', as trees. -/
import Derived.Test.YtnnbbjfbhigcfaaD23
namespace Go.Proofs.Ytnnbbjfbhigcfaa
open Ab
set_option linter.unusedVariables false

theorem least_own_round (T : Tb) (v k i : Int) (x : Fr) : ((W (tabF T) noS noL 19 [false, false, true, false, true] false (codeOf 19 [false, false, true, false, true]) (mkT 19 [(0, .int .i64 v), (7, .slice (.own 0 0 0 1) x.n.toNat (some x.n.toNat)), (8, .int .i64 k), (9, .int .i64 i)])).full ⟨hp 0 [x.blk], 1, [], []⟩ leafS).take 1 (.x (.n (.n (.x (.leaf [0] 897) (.leaf [0] 897)))) (.leaf [0] 1)) =
  (.br (decide (i < k))
  (.need (decide (0 ≤ i) && decide (i < (↑(Int.toNat (Fr.n x)) : Int))) (.need (decide (0 + Int.toNat i < 16)) (.br (decide (List.getD (Fr.c x) (0 + Int.toNat i) 0 < v))
    (.leaf (.normal, mkT 19 [(0, .int .i64 (List.getD (Fr.c x) (0 + Int.toNat i) 0)), (7, .slice (.own 0 0 0 1) (Int.toNat (Fr.n x)) (some (Int.toNat (Fr.n x)))), (8, .int .i64 k), (9, .int .i64 (wr .i64 (i + 1)))], [(0, some (.segs [⟨16, 1, [.int .i64 (Fr.c x)]⟩, ⟨1, 1, [.int .i64 [Fr.n x]]⟩, ⟨1, 1, [.int .i64 [Fr.t x]]⟩]))]))
    (.leaf (.normal, mkT 19 [(0, .int .i64 v), (7, .slice (.own 0 0 0 1) (Int.toNat (Fr.n x)) (some (Int.toNat (Fr.n x)))), (8, .int .i64 k), (9, .int .i64 (wr .i64 (i + 1)))], [(0, some (.segs [⟨16, 1, [.int .i64 (Fr.c x)]⟩, ⟨1, 1, [.int .i64 [Fr.n x]]⟩, ⟨1, 1, [.int .i64 [Fr.t x]]⟩]))])))))
  (.leaf (.exit 0, mkT 19 [(0, .int .i64 v)], [(0, some (.segs [⟨16, 1, [.int .i64 (Fr.c x)]⟩, ⟨1, 1, [.int .i64 [Fr.n x]]⟩, ⟨1, 1, [.int .i64 [Fr.t x]]⟩]))]))) := by kernel_rfl

theorem least_own (T : Tb) (v : Int) (x : Fr) : ((callB Try.prog (tabF T) noS (W (tabF T) noS (L19 T)) 19 [.int .i64 v, .slice (.own 0 0 0 1) x.n.toNat (some x.n.toNat)]).full ⟨hp 0 [x.blk], 1, [], []⟩ leafV).take 1 (.n (.n (.n (.leaf [0] 1)))) =
  (.need (decide (Fr.c x = Fr.c x) && true && (decide ([Fr.n x] = [Fr.n x]) && true && (decide ([Fr.t x] = [Fr.t x]) && true && true)) && true && true) (.need (decide (v = leV (Le.own v x)) && (decide (Int.toNat (Fr.n x) = Int.toNat (Fr.n x)) && decide (Int.toNat (Fr.n x) = Int.toNat (Fr.n x)) && (decide ((↑(Int.toNat (Fr.n x)) : Int) = (↑(leN (Le.own v x)) : Int)) && true)) && true) (.need (leP T (Le.own v x)) (.leaf (.ret, mkT 1 [(0, .int .i64 (leastL (leV (Le.own v x)) (leL T (Le.own v x))))], [(0, some (.segs [⟨16, 1, [.int .i64 (Fr.c x)]⟩, ⟨1, 1, [.int .i64 [Fr.n x]]⟩, ⟨1, 1, [.int .i64 [Fr.t x]]⟩]))]))))) := by kernel_rfl

theorem least_ro_round (T : Tb) (v k i : Int) (p m : Nat) : ((W (tabF T) noS noL 19 [false, false, true, false, true] false (codeOf 19 [false, false, true, false, true]) (mkT 19 [(0, .int .i64 v), (7, .slice (.ro 1 p 0 0) m none), (8, .int .i64 k), (9, .int .i64 i)])).full ⟨hp 0 [], 0, [], []⟩ leafS).take 0 (.x (.n (.n (.x (.leaf [] 897) (.leaf [] 897)))) (.leaf [] 1)) =
  (.br (decide (i < k))
  (.need (decide (0 ≤ i) && decide (i < (↑m : Int))) (.need (decide (0 + Int.toNat i < List.length (Tb.hs T p))) (.br (decide (List.getD (Tb.hs T p) (0 + Int.toNat i) 0 < v))
    (.leaf (.normal, mkT 19 [(0, .int .i64 (List.getD (Tb.hs T p) (0 + Int.toNat i) 0)), (7, .slice (.ro 1 p 0 0) m none), (8, .int .i64 k), (9, .int .i64 (wr .i64 (i + 1)))], []))
    (.leaf (.normal, mkT 19 [(0, .int .i64 v), (7, .slice (.ro 1 p 0 0) m none), (8, .int .i64 k), (9, .int .i64 (wr .i64 (i + 1)))], [])))))
  (.leaf (.exit 0, mkT 19 [(0, .int .i64 v)], []))) := by kernel_rfl

theorem least_ro (T : Tb) (v : Int) (p m : Nat) : ((callB Try.prog (tabF T) noS (W (tabF T) noS (L19 T)) 19 [.int .i64 v, .slice (.ro 1 p 0 0) m none]).full ⟨hp 0 [], 0, [], []⟩ leafV).take 0 (.c (.n (.n (.leaf [] 1)))) =
  (.need (decide (v = leV (Le.sl v (Sl.ro p m))) && (decide (p = p) && true && (decide (m = m) && true) && (decide ((↑m : Int) = (↑(leN (Le.sl v (Sl.ro p m))) : Int)) && true)) && true) (.need (leP T (Le.sl v (Sl.ro p m))) (.leaf (.ret, mkT 1 [(0, .int .i64 (leastL (leV (Le.sl v (Sl.ro p m))) (leL T (Le.sl v (Sl.ro p m)))))], [])))) := by kernel_rfl

theorem least_nil_round (T : Tb) (v : Int) : ((W (tabF T) noS noL 19 [false, false, true, false, true] false (codeOf 19 [false, false, true, false, true]) (mkT 19 [(0, .int .i64 v), (7, .nils), (8, .int .i64 0), (9, .int .i64 0)])).full ⟨hp 0 [], 0, [], []⟩ leafS).take 0 (.c (.leaf [] 1)) =
  (.leaf (.exit 0, mkT 19 [(0, .int .i64 v)], [])) := by kernel_rfl

theorem least_nil (T : Tb) (v : Int) : ((callB Try.prog (tabF T) noS (W (tabF T) noS (L19 T)) 19 [.int .i64 v, .nils]).full ⟨hp 0 [], 0, [], []⟩ leafV).take 0 (.c (.n (.c (.leaf [] 1)))) =
  (.need (decide (v = leV (Le.sl v Sl.nil)) && true && true) (.leaf (.ret, mkT 1 [(0, .int .i64 (leastL (leV (Le.sl v Sl.nil)) (leL T (Le.sl v Sl.nil))))], []))) := by kernel_rfl

theorem new_call (T : Tb) (n : Int) : ((callB Try.prog (tabF T) noS (W (tabF T) noS noL) 8 [.int .i64 n]).full ⟨hp 0 [], 0, [], []⟩ leafV).take 0 (.x (.c (.c (.c (.leaf [] 1)))) (.c (.x (.leaf [] 1) (.leaf [0] 1)))) =
  (.br (decide (n < 1))
  (.leaf (.ret, mkT 1 [(0, .nilp)], []))
  (.br (decide (16 < n))
    (.leaf (.ret, mkT 1 [(0, .nilp)], []))
    (.leaf (.ret, mkT 1 [(0, .ptr (.own 0 0 0 0))], [(0, some (.segs [⟨16, 1, [.int .i64 [0, 0, 0, 0, 0, 0, 0, 0, 0, 0, 0, 0, 0, 0, 0, 0]]⟩, ⟨1, 1, [.int .i64 [n]]⟩, ⟨1, 1, [.int .i64 [0]]⟩]))])))) := by kernel_rfl

theorem mark_call (T : Tb) (x : Fr) (i a : Int) : ((callB Try.prog (tabF T) noS (W (tabF T) noS noL) 9 [.ptr (.own 0 0 0 0), .int .i64 i, .int .i64 a]).full ⟨hp 0 [x.blk], 1, [], []⟩ leafV).take 1 (.c (.x (cs 7 (.leaf [0] 1)) (cs 5 (.x (.leaf [0] 1) (.n (.n (.x (.c (.c (.c (.leaf [0] 1)))) (.c (.x (.leaf [0] 1) (.n (.n (.leaf [0] 1)))))))))))) =
  (.br (decide (i < 0))
  (.leaf (.ret, mkT 1 [(0, .int .i64 2)], [(0, some (.segs [⟨16, 1, [.int .i64 (Fr.c x)]⟩, ⟨1, 1, [.int .i64 [Fr.n x]]⟩, ⟨1, 1, [.int .i64 [Fr.t x]]⟩]))]))
  (.br (decide (Fr.n x ≤ i))
    (.leaf (.ret, mkT 1 [(0, .int .i64 2)], [(0, some (.segs [⟨16, 1, [.int .i64 (Fr.c x)]⟩, ⟨1, 1, [.int .i64 [Fr.n x]]⟩, ⟨1, 1, [.int .i64 [Fr.t x]]⟩]))]))
    (.need (decide (0 ≤ i) && decide (i < 16)) (.need (decide (Int.toNat i < 16)) (.br (decide (a < List.getD (Fr.c x) (Int.toNat i) 0))
      (.leaf (.ret, mkT 1 [(0, .int .i64 12)], [(0, some (.segs [⟨16, 1, [.int .i64 (Fr.c x)]⟩, ⟨1, 1, [.int .i64 [Fr.n x]]⟩, ⟨1, 1, [.int .i64 [Fr.t x]]⟩]))]))
      (.br (decide (1152921504606846976 < a))
        (.leaf (.ret, mkT 1 [(0, .int .i64 12)], [(0, some (.segs [⟨16, 1, [.int .i64 (Fr.c x)]⟩, ⟨1, 1, [.int .i64 [Fr.n x]]⟩, ⟨1, 1, [.int .i64 [Fr.t x]]⟩]))]))
        (.need (decide (0 ≤ i) && decide (i < 16)) (.need (decide (Int.toNat i < 16)) (.leaf (.ret, mkT 1 [(0, .int .i64 0)], [(0, some (.segs [⟨16, 1, [.int .i64 (List.set (Fr.c x) (Int.toNat i) a)]⟩, ⟨1, 1, [.int .i64 [Fr.n x]]⟩, ⟨1, 1, [.int .i64 [Fr.t x]]⟩]))])))))))))) := by kernel_rfl

theorem of_call (T : Tb) (x : Fr) (i : Int) : ((callB Try.prog (tabF T) noS (W (tabF T) noS noL) 13 [.ptr (.own 0 0 0 0), .int .i64 i]).full ⟨hp 0 [x.blk], 1, [], []⟩ leafV).take 1 (.c (.c (.x (cs 7 (.leaf [0] 1)) (cs 5 (.x (.leaf [0] 1) (.n (.n (.leaf [0] 1)))))))) =
  (.br (decide (i < 0))
  (.leaf (.ret, mkT 1 [(0, .int .i64 0)], [(0, some (.segs [⟨16, 1, [.int .i64 (Fr.c x)]⟩, ⟨1, 1, [.int .i64 [Fr.n x]]⟩, ⟨1, 1, [.int .i64 [Fr.t x]]⟩]))]))
  (.br (decide (Fr.n x ≤ i))
    (.leaf (.ret, mkT 1 [(0, .int .i64 0)], [(0, some (.segs [⟨16, 1, [.int .i64 (Fr.c x)]⟩, ⟨1, 1, [.int .i64 [Fr.n x]]⟩, ⟨1, 1, [.int .i64 [Fr.t x]]⟩]))]))
    (.need (decide (0 ≤ i) && decide (i < 16)) (.need (decide (Int.toNat i < 16)) (.leaf (.ret, mkT 1 [(0, .int .i64 (List.getD (Fr.c x) (Int.toNat i) 0))], [(0, some (.segs [⟨16, 1, [.int .i64 (Fr.c x)]⟩, ⟨1, 1, [.int .i64 [Fr.n x]]⟩, ⟨1, 1, [.int .i64 [Fr.t x]]⟩]))])))))) := by kernel_rfl

theorem told_call (T : Tb) (x : Fr) : ((callB Try.prog (tabF T) noS (W (tabF T) noS noL) 12 [.ptr (.own 0 0 0 0)]).full ⟨hp 0 [x.blk], 1, [], []⟩ leafV).take 1 (.c (.leaf [0] 1)) =
  (.leaf (.ret, mkT 1 [(0, .int .i64 (Fr.t x))], [(0, some (.segs [⟨16, 1, [.int .i64 (Fr.c x)]⟩, ⟨1, 1, [.int .i64 [Fr.n x]]⟩, ⟨1, 1, [.int .i64 [Fr.t x]]⟩]))])) := by kernel_rfl

theorem min_call (T : Tb) (x : Fr) : ((callB Try.prog (tabF T) (S1 T) (W (tabF T) (S1 T) noL) 10 [.ptr (.own 0 0 0 0)]).full ⟨hp 0 [x.blk], 1, [], []⟩ leafV).take 1 (.c (.c (.c (.n (.n (.c (.n (.n (.n (.c (.leaf [0] 1))))))))))) =
  (.need (decide (0 ≤ Fr.n x) && decide (Fr.n x ≤ 16)) (.need (decide (0 ≤ Fr.n x) && decide (Fr.n x ≤ (↑(Int.toNat (Fr.n x)) : Int))) (.need (decide (Fr.c x = Fr.c x) && true && (decide ([Fr.n x] = [Fr.n x]) && true && (decide ([Fr.t x] = [Fr.t x]) && true && true)) && true && true) (.need (decide (List.getD (Fr.c x) 0 0 = leV (Le.own (List.getD (Fr.c x) 0 0) x)) && (decide (Int.toNat (Fr.n x) = Int.toNat (Fr.n x)) && decide (Int.toNat (Fr.n x) = Int.toNat (Fr.n x)) && true) && true) (.need (leP T (Le.own (List.getD (Fr.c x) 0 0) x)) (.leaf (.ret, mkT 1 [(0, .int .i64 (leastL (leV (Le.own (List.getD (Fr.c x) 0 0) x)) (leL T (Le.own (List.getD (Fr.c x) 0 0) x))))], [(0, some (.segs [⟨16, 1, [.int .i64 (Fr.c x)]⟩, ⟨1, 1, [.int .i64 [Fr.n x]]⟩, ⟨1, 1, [.int .i64 [Fr.t x]]⟩]))]))))))) := by kernel_rfl

theorem tell_ro (T : Tb) (x : Fr) (p m : Nat) : ((callB Try.prog (tabF T) (S2 T) (W (tabF T) (S2 T) noL) 11 [.ptr (.own 0 0 0 0), .slice (.ro 1 p 0 0) m none]).full ⟨hp 0 [x.blk], 1, [], []⟩ leafV).take 1 (.c (.n (.c (.n (.c (.n (.n (.x (.leaf [0] 1) (.leaf [0] 1))))))))) =
  (.need (decide (Fr.c x = Fr.c x) && true && (decide ([Fr.n x] = [Fr.n x]) && true && (decide ([Fr.t x] = [Fr.t x]) && true && true)) && true && true) (.need (decide (List.length (Fr.c x) = 16) && (decide (1 ≤ Fr.n x) && decide (Fr.n x ≤ 16))) (.need (decide (minF x = leV (Le.sl (minF x) (Sl.ro p m))) && (decide (p = p) && true && (decide (m = m) && true) && true) && true) (.need (leP T (Le.sl (minF x) (Sl.ro p m))) (.br (decide (Fr.t x < leastL (leV (Le.sl (minF x) (Sl.ro p m))) (leL T (Le.sl (minF x) (Sl.ro p m)))))
  (.leaf (.ret, mkT 1 [(0, .tup [.int .i64 (leastL (leV (Le.sl (minF x) (Sl.ro p m))) (leL T (Le.sl (minF x) (Sl.ro p m)))), .bool true])], [(0, some (.segs [⟨16, 1, [.int .i64 (Fr.c x)]⟩, ⟨1, 1, [.int .i64 [Fr.n x]]⟩, ⟨1, 1, [.int .i64 [leastL (leV (Le.sl (minF x) (Sl.ro p m))) (leL T (Le.sl (minF x) (Sl.ro p m)))]]⟩]))]))
  (.leaf (.ret, mkT 1 [(0, .tup [.int .i64 (Fr.t x), .bool false])], [(0, some (.segs [⟨16, 1, [.int .i64 (Fr.c x)]⟩, ⟨1, 1, [.int .i64 [Fr.n x]]⟩, ⟨1, 1, [.int .i64 [Fr.t x]]⟩]))]))))))) := by kernel_rfl

theorem tell_nil (T : Tb) (x : Fr) : ((callB Try.prog (tabF T) (S2 T) (W (tabF T) (S2 T) noL) 11 [.ptr (.own 0 0 0 0), .nils]).full ⟨hp 0 [x.blk], 1, [], []⟩ leafV).take 1 (.c (.n (.c (.n (.c (.n (.c (.x (.leaf [0] 1) (.leaf [0] 1))))))))) =
  (.need (decide (Fr.c x = Fr.c x) && true && (decide ([Fr.n x] = [Fr.n x]) && true && (decide ([Fr.t x] = [Fr.t x]) && true && true)) && true && true) (.need (decide (List.length (Fr.c x) = 16) && (decide (1 ≤ Fr.n x) && decide (Fr.n x ≤ 16))) (.need (decide (minF x = leV (Le.sl (minF x) Sl.nil)) && true && true) (.br (decide (Fr.t x < leastL (leV (Le.sl (minF x) Sl.nil)) (leL T (Le.sl (minF x) Sl.nil))))
  (.leaf (.ret, mkT 1 [(0, .tup [.int .i64 (leastL (leV (Le.sl (minF x) Sl.nil)) (leL T (Le.sl (minF x) Sl.nil))), .bool true])], [(0, some (.segs [⟨16, 1, [.int .i64 (Fr.c x)]⟩, ⟨1, 1, [.int .i64 [Fr.n x]]⟩, ⟨1, 1, [.int .i64 [leastL (leV (Le.sl (minF x) Sl.nil)) (leL T (Le.sl (minF x) Sl.nil))]]⟩]))]))
  (.leaf (.ret, mkT 1 [(0, .tup [.int .i64 (Fr.t x), .bool false])], [(0, some (.segs [⟨16, 1, [.int .i64 (Fr.c x)]⟩, ⟨1, 1, [.int .i64 [Fr.n x]]⟩, ⟨1, 1, [.int .i64 [Fr.t x]]⟩]))])))))) := by kernel_rfl

theorem works_tree (T : Tb) : ((callB Try.prog (tabF T) noS (W (tabF T) noS noL) 7 []).full ⟨[], 0, [], []⟩ leafV).take 0 (cs 237 (.leaf [] 1)) =
  (.leaf (.ret, mkT 1 [(0, .bool true)], [])) := by kernel_rfl

end Go.Proofs.Ytnnbbjfbhigcfaa
