/- front: FrontPlays: the document's functions, and makers, as trees. -/
import Derived.Test.YtnnbbjfbhigcfaaD23f
namespace Go.Proofs.Ytnnbbjfbhigcfaa
open Ab
set_option linter.unusedVariables false

theorem within_call (T : Tb) (v : Int) : ((callB Try.prog (tabF T) noS (W (tabF T) noS noL) 26 [.int .i64 v]).full ⟨hp 0 [], 0, [], []⟩ leafV).take 0 (.c (.c (.c (.x (.c (.leaf [] 1)) (.c (.leaf [] 1)))))) =
  (.br (decide (1152921504606846976 < v))
  (.leaf (.ret, mkT 1 [(0, .int .i64 1152921504606846976)], []))
  (.leaf (.ret, mkT 1 [(0, .int .i64 (if 0 < v then v else 0))], []))) := by kernel_rfl

theorem make_round_r (T : Tb) (p m : Nat) (t i k : Int) (x : Fr) : ((W (tabF T) (S5 T) noL 17 [false, false, true, false, true, true, true] false (codeOf 17 [false, false, true, false, true, true, true]) (mkT 37 [(1, .int .i64 t), (5, .ptr (.own 0 0 0 0)), (19, .slice (.ro 1 p 0 0) m none), (20, .int .i64 k), (21, .int .i64 i)])).full ⟨hp 0 [x.blk], 1, [], []⟩ leafS).take 0 (.x (.n (.n (.n (.n (.n (.x (.leaf [] 16) (.leaf [0] 3670050))))))) (.leaf [0] 34)) =
  (.br (decide (i < k))
  (.need (decide (0 ≤ i) && decide (i < (↑m : Int))) (.need (decide (0 + Int.toNat i < List.length (Tb.hs T p))) (.need (decide (Fr.c x = Fr.c x) && true && (decide ([Fr.n x] = [Fr.n x]) && true && (decide ([Fr.t x] = [Fr.t x]) && true && true)) && true && true) (.need (decide (i = i) && (decide (List.getD (Tb.hs T p) (0 + Int.toNat i) 0 = List.getD (Tb.hs T p) (0 + Int.toNat i) 0) && true) && true) (.need (okFr x) (.br (!decide (markE (Fr.l x) i (List.getD (Tb.hs T p) (0 + Int.toNat i) 0) = 0))
    (.leaf (.ret, mkT 37 [(4, .nilp)], []))
    (.leaf (.normal, mkT 37 [(1, .int .i64 t), (5, .ptr (.own 0 0 0 0)), (19, .slice (.ro 1 p 0 0) m none), (20, .int .i64 k), (21, .int .i64 (wr .i64 (i + 1)))], [(0, some (.segs [⟨16, 1, [.int .i64 (putI (Fr.c x) (markE (Fr.l x) i (List.getD (Tb.hs T p) (0 + Int.toNat i) 0)) i (List.getD (Tb.hs T p) (0 + Int.toNat i) 0))]⟩, ⟨1, 1, [.int .i64 [Fr.n x]]⟩, ⟨1, 1, [.int .i64 [Fr.t x]]⟩]))]))))))))
  (.leaf (.exit 0, mkT 37 [(1, .int .i64 t), (5, .ptr (.own 0 0 0 0))], [(0, some (.segs [⟨16, 1, [.int .i64 (Fr.c x)]⟩, ⟨1, 1, [.int .i64 [Fr.n x]]⟩, ⟨1, 1, [.int .i64 [Fr.t x]]⟩]))]))) := by kernel_rfl

theorem make_r (T : Tb) (p m : Nat) (t : Int) : (callT Try.prog (tabF T) (W (tabF T) (S5 T) noL) (TK T) 0 17 [.slice (.ro 1 p 0 0) m none, .int .i64 t] ⟨hp 0 [], 0, [], []⟩).take 0 (.x (.c (.n (.n (csQ 4 (.n (.c (.c (.x (.leaf [] 1) (.c (.n (.n (.b (.a (.i (.leaf [0] 1))) (.a (.i (.leaf [] 1))))))))))))))) (.c (.n (.n (csQ 6 (.leaf [] 1)))))) =
  (.br (newOk (↑m : Int))
  (.need (decide ((↑m : Int) = (↑m : Int)) && true && true) (.need (newOk (↑m : Int)) (.need (decide (t = t) && true && true) (.br (!decide (t = clampV t))
    (.leaf (.ret, mkT 1 [(0, .nilp)], []))
    (.need (decide (t = t) && (decide (p = p) && true && (decide (m = m) && true) && (decide ((↑m : Int) = (↑(slN (Sl.ro p m)) : Int)) && true)) && (decide ([(↑m : Int)] = [(↑m : Int)]) && true && true && true)) (.need (okS20 T (Sl.ro p m) && (decide (1 ≤ slN (Sl.ro p m)) && (decide (slN (Sl.ro p m) ≤ 16) && decide ((↑m : Int) = (↑(slN (Sl.ro p m)) : Int))))) (.both
      (.all (PUnit) fun (y3 : PUnit) => (.imp (allT (Sl.l T (Sl.ro p m)) = true) (.leaf (.ret, mkT 1 [(0, .ptr (.own 0 0 0 0))], [(0, some (.segs [⟨16, 1, [.int .i64 (Sl.l T (Sl.ro p m) ++ List.replicate (16 - slN (Sl.ro p m)) 0)]⟩, ⟨1, 1, [.int .i64 [(↑(slN (Sl.ro p m)) : Int)]]⟩, ⟨1, 1, [.int .i64 [t]]⟩]))]))))
      (.all (PUnit) fun (y3 : PUnit) => (.imp (allT (Sl.l T (Sl.ro p m)) = false) (.leaf (.ret, mkT 1 [(0, .nilp)], [])))))))))))
  (.need (decide ((↑m : Int) = (↑m : Int)) && true && true) (.need (!newOk (↑m : Int)) (.leaf (.ret, mkT 1 [(0, .nilp)], []))))) := by kernel_rfl

theorem rmake_round_r (T : Tb) (p m : Nat) (t i : Int) : ((W (tabF T) noS noL 18 [false, false, true, false, true, true] false (codeOf 18 [false, false, true, false, true, true]) (mkT 37 [(0, .slice (.ro 1 p 0 0) m none), (1, .int .i64 t), (5, .int .i64 i)])).full ⟨hp 0 [], 0, [], []⟩ leafS).take 0 (.x (.n (.n (.x (.c (.x (.leaf [] 16) (.leaf [] 35))) (.c (.c (.c (.leaf [] 16))))))) (.leaf [] 3)) =
  (.br (decide (i < (↑m : Int)))
  (.need (decide (0 ≤ i) && decide (i < (↑m : Int))) (.need (decide (0 + Int.toNat i < List.length (Tb.hs T p))) (.br (decide (0 ≤ List.getD (Tb.hs T p) (0 + Int.toNat i) 0))
    (.br (!decide (List.getD (Tb.hs T p) (0 + Int.toNat i) 0 ≤ 1152921504606846976))
      (.leaf (.ret, mkT 37 [(4, .nilp)], []))
      (.leaf (.normal, mkT 37 [(0, .slice (.ro 1 p 0 0) m none), (1, .int .i64 t), (5, .int .i64 (wr .i64 (i + 1)))], [])))
    (.leaf (.ret, mkT 37 [(4, .nilp)], [])))))
  (.leaf (.exit 0, mkT 37 [(0, .slice (.ro 1 p 0 0) m none), (1, .int .i64 t)], []))) := by kernel_rfl

theorem rmake_r (T : Tb) (p m : Nat) (t : Int) : ((callB Try.prog (tabF T) noS (W (tabF T) noS (rmakeL T)) 18 [.slice (.ro 1 p 0 0) m none, .int .i64 t]).full ⟨hp 0 [], 0, [], []⟩ leafV).take 0 (.x (cs 8 (.leaf [] 1)) (.c (.c (.x (cs 4 (.leaf [] 1)) (.c (.x (.c (.c (.x (.leaf [] 1) (.x (.c (.n (.n (.f (.n (.c (.n (.leaf [1, 2] 1)))))))) (.c (.n (.n (.leaf [] 1)))))))) (cs 4 (.leaf [] 1)))))))) =
  (.br (decide ((↑m : Int) < 1))
  (.leaf (.ret, mkT 1 [(0, .nilp)], []))
  (.br (decide (16 < (↑m : Int)))
    (.leaf (.ret, mkT 1 [(0, .nilp)], []))
    (.br (decide (0 ≤ t))
      (.br (!decide (t ≤ 1152921504606846976))
        (.leaf (.ret, mkT 1 [(0, .nilp)], []))
        (.br (allT (Sl.l T (Sl.ro p m)))
          (.need (decide (p = p) && true && (decide (m = m) && true) && (decide (t = t) && true) && true) (.need (okR T (Sl.ro p m) && allT (Sl.l T (Sl.ro p m))) (.but (Nat.ble (0 + m) 0) (.need (decide ((0 + m) * 8 ≤ 35184372088832)) (.need (decide (0 + m ≤ List.length (Tb.hs T p))) (.leaf (.ret, mkT 1 [(0, .ptr (.own 1 0 0 0))], [(0, some (.segs [⟨0 + m, 1, [.int .i64 (List.take m (List.drop 0 (Tb.hs T p)))]⟩])), (1, some (.segs [⟨1, 1, [.val [.slice (.own 0 0 0 1) (0 + m) none]]⟩, ⟨1, 1, [.int .i64 [t]]⟩]))])))))))
          (.need (decide (p = p) && true && (decide (m = m) && true) && (decide (t = t) && true) && true) (.need (okR T (Sl.ro p m) && !allT (Sl.l T (Sl.ro p m))) (.leaf (.ret, mkT 1 [(0, .nilp)], []))))))
      (.leaf (.ret, mkT 1 [(0, .nilp)], []))))) := by kernel_rfl

theorem rtell_round_r (T : Tb) (p m : Nat) (v i : Int) (r : Rr) : ((W (tabF T) (S6 T) noL 22 [false, false, true, false, true, true] false (codeOf 22 [false, false, true, false, true, true]) (mkT 37 [(0, .ptr (.own 0 0 0 0)), (1, .slice (.ro 1 p 0 0) m none), (6, .int .i64 v), (7, .int .i64 i)])).full ⟨hp 0 (rrB r), 2, [], []⟩ leafS).take 2 (.x (.n (.n (.leaf [0, 1] 195))) (.leaf [0, 1] 113)) =
  (.br (decide (i < (↑m : Int)))
  (.need (decide (0 ≤ i) && decide (i < (↑m : Int))) (.need (decide (0 + Int.toNat i < List.length (Tb.hs T p))) (.leaf (.normal, mkT 37 [(0, .ptr (.own 0 0 0 0)), (1, .slice (.ro 1 p 0 0) m none), (6, .int .i64 (if List.getD (Tb.hs T p) (0 + Int.toNat i) 0 < v then List.getD (Tb.hs T p) (0 + Int.toNat i) 0 else v)), (7, .int .i64 (wr .i64 (i + 1)))], [(0, some (.segs [⟨1, 1, [.val [.slice (.own 1 0 0 1) (List.length (Rr.l r)) none]]⟩, ⟨1, 1, [.int .i64 [Rr.t r]]⟩])), (1, some (.segs [⟨List.length (Rr.l r), 1, [.int .i64 (Rr.l r)]⟩]))]))))
  (.leaf (.exit 0, mkT 37 [(0, .ptr (.own 0 0 0 0)), (6, .int .i64 v)], [(0, some (.segs [⟨1, 1, [.val [.slice (.own 1 0 0 1) (List.length (Rr.l r)) none]]⟩, ⟨1, 1, [.int .i64 [Rr.t r]]⟩])), (1, some (.segs [⟨List.length (Rr.l r), 1, [.int .i64 (Rr.l r)]⟩]))]))) := by kernel_rfl

theorem rtell_r (T : Tb) (p m : Nat) (r : Rr) : ((callB Try.prog (tabF T) (S6 T) (W (tabF T) (S6 T) (L22 T)) 22 [.ptr (.own 0 0 0 0), .slice (.ro 1 p 0 0) m none]).full ⟨hp 0 [r.b0 1, r.b1], 2, [], []⟩ leafV).take 2 (.n (.c (.n (.n (.n (.n (.x (.leaf [0, 1] 1) (.leaf [0, 1] 1)))))))) =
  (.need (decide (List.length (Rr.l r) = List.length (Rr.l r)) && true && true && true && (decide ([Rr.t r] = [Rr.t r]) && true && true) && (decide (List.length (Rr.l r) = List.length (Rr.l r)) && (decide (Rr.l r = Rr.l r) && true && true) && true) && true) (.need (okRr r) (.need (decide (List.length (Rr.l r) = List.length (Rr.l r)) && true && true && true && (decide ([Rr.t r] = [Rr.t r]) && true && true) && (decide (List.length (Rr.l r) = List.length (Rr.l r)) && (decide (Rr.l r = Rr.l r) && true && true) && true) && true) (.need (decide (p = p) && true && (decide (m = m) && true) && (decide (rmin r = rmin r) && true) && true) (.need (okRr r && okS T (Sl.ro p m)) (.br (decide (rtellA T r (Sl.ro p m) ≤ Rr.t r))
  (.leaf (.ret, mkT 1 [(0, .tup [.int .i64 (Rr.t r), .bool false])], [(0, some (.segs [⟨1, 1, [.val [.slice (.own 1 0 0 1) (List.length (Rr.l r)) none]]⟩, ⟨1, 1, [.int .i64 [Rr.t r]]⟩])), (1, some (.segs [⟨List.length (Rr.l r), 1, [.int .i64 (Rr.l r)]⟩]))]))
  (.leaf (.ret, mkT 1 [(0, .tup [.int .i64 (rtellA T r (Sl.ro p m)), .bool true])], [(0, some (.segs [⟨1, 1, [.val [.slice (.own 1 0 0 1) (List.length (Rr.l r)) none]]⟩, ⟨1, 1, [.int .i64 [rtellA T r (Sl.ro p m)]]⟩])), (1, some (.segs [⟨List.length (Rr.l r), 1, [.int .i64 (Rr.l r)]⟩]))])))))))) := by kernel_rfl

theorem make_n (T : Tb) (t : Int) : (callT Try.prog (tabF T) (W (tabF T) (S5 T) noL) (TK T) 0 17 [.nils, .int .i64 t] ⟨hp 0 [], 0, [], []⟩).take 0 (csQ 10 (.leaf [] 1)) =
  (.leaf (.ret, mkT 1 [(0, .nilp)], [])) := by kernel_rfl

theorem rmake_n (T : Tb) (t : Int) : ((callB Try.prog (tabF T) noS (W (tabF T) noS (rmakeL T)) 18 [.nils, .int .i64 t]).full ⟨hp 0 [], 0, [], []⟩ leafV).take 0 (cs 9 (.leaf [] 1)) =
  (.leaf (.ret, mkT 1 [(0, .nilp)], [])) := by kernel_rfl

theorem rtell_round_n (T : Tb) (v i : Int) (r : Rr) : ((W (tabF T) (S6 T) noL 22 [false, false, true, false, true, true] false (codeOf 22 [false, false, true, false, true, true]) (mkT 37 [(0, .ptr (.own 0 0 0 0)), (1, .nils), (6, .int .i64 v), (7, .int .i64 i)])).full ⟨hp 0 (rrB r), 2, [], []⟩ leafS).take 2 (.f (.leaf [0, 1] 113)) =
  (.but (decide (i < 0)) (.leaf (.exit 0, mkT 37 [(0, .ptr (.own 0 0 0 0)), (6, .int .i64 v)], [(0, some (.segs [⟨1, 1, [.val [.slice (.own 1 0 0 1) (List.length (Rr.l r)) none]]⟩, ⟨1, 1, [.int .i64 [Rr.t r]]⟩])), (1, some (.segs [⟨List.length (Rr.l r), 1, [.int .i64 (Rr.l r)]⟩]))]))) := by kernel_rfl

theorem rtell_n (T : Tb) (r : Rr) : ((callB Try.prog (tabF T) (S6 T) (W (tabF T) (S6 T) (L22 T)) 22 [.ptr (.own 0 0 0 0), .nils]).full ⟨hp 0 [r.b0 1, r.b1], 2, [], []⟩ leafV).take 2 (.n (.c (.n (.n (.n (.n (.x (.leaf [0, 1] 1) (.leaf [0, 1] 1)))))))) =
  (.need (decide (List.length (Rr.l r) = List.length (Rr.l r)) && true && true && true && (decide ([Rr.t r] = [Rr.t r]) && true && true) && (decide (List.length (Rr.l r) = List.length (Rr.l r)) && (decide (Rr.l r = Rr.l r) && true && true) && true) && true) (.need (okRr r) (.need (decide (List.length (Rr.l r) = List.length (Rr.l r)) && true && true && true && (decide ([Rr.t r] = [Rr.t r]) && true && true) && (decide (List.length (Rr.l r) = List.length (Rr.l r)) && (decide (Rr.l r = Rr.l r) && true && true) && true) && true) (.need (decide (rmin r = rmin r) && true && true) (.need (okRr r && true) (.br (decide (rtellA T r Sl.nil ≤ Rr.t r))
  (.leaf (.ret, mkT 1 [(0, .tup [.int .i64 (Rr.t r), .bool false])], [(0, some (.segs [⟨1, 1, [.val [.slice (.own 1 0 0 1) (List.length (Rr.l r)) none]]⟩, ⟨1, 1, [.int .i64 [Rr.t r]]⟩])), (1, some (.segs [⟨List.length (Rr.l r), 1, [.int .i64 (Rr.l r)]⟩]))]))
  (.leaf (.ret, mkT 1 [(0, .tup [.int .i64 (rtellA T r Sl.nil), .bool true])], [(0, some (.segs [⟨1, 1, [.val [.slice (.own 1 0 0 1) (List.length (Rr.l r)) none]]⟩, ⟨1, 1, [.int .i64 [rtellA T r Sl.nil]]⟩])), (1, some (.segs [⟨List.length (Rr.l r), 1, [.int .i64 (Rr.l r)]⟩]))])))))))) := by kernel_rfl

theorem rnew_round (T : Tb) (n : Nat) (i : Int) : ((W (tabF T) noS noL 18 [false, false, true, false, true, true] false (codeOf 18 [false, false, true, false, true, true]) (mkT 37 [(0, .slice (.own 0 0 0 1) n (some n)), (1, .int .i64 0), (5, .int .i64 i)])).full ⟨hp 0 [rowI n (zerosI n)], 1, [], []⟩ leafS).take 1 (.x (.n (.n (.x (.c (.x (.leaf [0] 19) (.leaf [0] 35))) (.c (.c (.c (.leaf [0] 19))))))) (.leaf [0] 19)) =
  (.br (decide (i < (↑n : Int)))
  (.need (decide (0 ≤ i) && decide (i < (↑n : Int))) (.need (decide (0 + Int.toNat i < n)) (.br (decide (0 ≤ List.getD (zerosI n) (0 + Int.toNat i) 0))
    (.br (!decide (List.getD (zerosI n) (0 + Int.toNat i) 0 ≤ 1152921504606846976))
      (.leaf (.ret, mkT 37 [(0, .slice (.own 0 0 0 1) n (some n)), (1, .int .i64 0), (4, .nilp)], [(0, some (.segs [⟨n, 1, [.int .i64 (zerosI n)]⟩]))]))
      (.leaf (.normal, mkT 37 [(0, .slice (.own 0 0 0 1) n (some n)), (1, .int .i64 0), (5, .int .i64 (wr .i64 (i + 1)))], [(0, some (.segs [⟨n, 1, [.int .i64 (zerosI n)]⟩]))])))
    (.leaf (.ret, mkT 37 [(0, .slice (.own 0 0 0 1) n (some n)), (1, .int .i64 0), (4, .nilp)], [(0, some (.segs [⟨n, 1, [.int .i64 (zerosI n)]⟩]))])))))
  (.leaf (.exit 0, mkT 37 [(0, .slice (.own 0 0 0 1) n (some n)), (1, .int .i64 0)], [(0, some (.segs [⟨n, 1, [.int .i64 (zerosI n)]⟩]))]))) := by kernel_rfl

theorem rnew_call (T : Tb) (n : Int) : ((callB Try.prog (tabF T) noS (W (tabF T) noS L18) 16 [.int .i64 n]).full ⟨hp 0 [], 0, [], []⟩ leafV).take 0 (.x (.c (.c (.c (.leaf [] 1)))) (.c (.x (.leaf [] 1) (.n (.f (.c (.c (.f (cs 5 (.n (.n (.n (.f (.n (.c (.n (.leaf [2, 3] 1))))))))))))))))) =
  (.br (decide (n < 1))
  (.leaf (.ret, mkT 1 [(0, .nilp)], []))
  (.br (decide (16 < n))
    (.leaf (.ret, mkT 1 [(0, .nilp)], []))
    (.need (decide (0 ≤ n) && decide (n ≤ n) && decide (n ≤ 1099511627776)) (.but (decide ((↑(Int.toNat n) : Int) < 1)) (.but (decide (16 < (↑(Int.toNat n) : Int))) (.need (decide (Int.toNat n = Int.toNat n) && (decide (List.replicate (Int.toNat n) 0 = zerosI (Int.toNat n)) && true && true) && true && true) (.need (decide (Int.toNat n = Int.toNat n) && decide (Int.toNat n = Int.toNat n) && true && true) (.need (decide (Int.toNat n ≤ 16)) (.but (Nat.ble (0 + Int.toNat n) 0) (.need (decide ((0 + Int.toNat n) * 8 ≤ 35184372088832)) (.need (decide (0 + Int.toNat n ≤ Int.toNat n)) (.leaf (.ret, mkT 1 [(0, .ptr (.own 1 0 0 0))], [(0, some (.segs [⟨0 + Int.toNat n, 1, [.int .i64 (List.take (Int.toNat n) (List.drop 0 (zerosI (Int.toNat n))))]⟩])), (1, some (.segs [⟨1, 1, [.val [.slice (.own 0 0 0 1) (0 + Int.toNat n) none]]⟩, ⟨1, 1, [.int .i64 [0]]⟩]))]))))))))))))) := by kernel_rfl

theorem rmark_call (T : Tb) (r : Rr) (i a : Int) : ((callB Try.prog (tabF T) noS (W (tabF T) noS noL) 21 [.ptr (.own 0 0 0 0), .int .i64 i, .int .i64 a]).full ⟨hp 0 [r.b0 1, r.b1], 2, [], []⟩ leafV).take 2 (.x (cs 8 (.leaf [0, 1] 1)) (cs 6 (.x (.leaf [0, 1] 1) (.n (.n (.x (.c (.c (.c (.leaf [0, 1] 1)))) (.c (.x (.leaf [0, 1] 1) (.n (.n (.leaf [0, 1] 1))))))))))) =
  (.br (decide (i < 0))
  (.leaf (.ret, mkT 1 [(0, .int .i64 2)], [(0, some (.segs [⟨1, 1, [.val [.slice (.own 1 0 0 1) (List.length (Rr.l r)) none]]⟩, ⟨1, 1, [.int .i64 [Rr.t r]]⟩])), (1, some (.segs [⟨List.length (Rr.l r), 1, [.int .i64 (Rr.l r)]⟩]))]))
  (.br (decide ((↑(List.length (Rr.l r)) : Int) ≤ i))
    (.leaf (.ret, mkT 1 [(0, .int .i64 2)], [(0, some (.segs [⟨1, 1, [.val [.slice (.own 1 0 0 1) (List.length (Rr.l r)) none]]⟩, ⟨1, 1, [.int .i64 [Rr.t r]]⟩])), (1, some (.segs [⟨List.length (Rr.l r), 1, [.int .i64 (Rr.l r)]⟩]))]))
    (.need (decide (0 ≤ i) && decide (i < (↑(List.length (Rr.l r)) : Int))) (.need (decide (0 + Int.toNat i < List.length (Rr.l r))) (.br (decide (a < List.getD (Rr.l r) (0 + Int.toNat i) 0))
      (.leaf (.ret, mkT 1 [(0, .int .i64 12)], [(0, some (.segs [⟨1, 1, [.val [.slice (.own 1 0 0 1) (List.length (Rr.l r)) none]]⟩, ⟨1, 1, [.int .i64 [Rr.t r]]⟩])), (1, some (.segs [⟨List.length (Rr.l r), 1, [.int .i64 (Rr.l r)]⟩]))]))
      (.br (decide (1152921504606846976 < a))
        (.leaf (.ret, mkT 1 [(0, .int .i64 12)], [(0, some (.segs [⟨1, 1, [.val [.slice (.own 1 0 0 1) (List.length (Rr.l r)) none]]⟩, ⟨1, 1, [.int .i64 [Rr.t r]]⟩])), (1, some (.segs [⟨List.length (Rr.l r), 1, [.int .i64 (Rr.l r)]⟩]))]))
        (.need (decide (0 ≤ i) && decide (i < (↑(List.length (Rr.l r)) : Int))) (.need (decide (0 + Int.toNat i < List.length (Rr.l r))) (.leaf (.ret, mkT 1 [(0, .int .i64 0)], [(0, some (.segs [⟨1, 1, [.val [.slice (.own 1 0 0 1) (List.length (Rr.l r)) none]]⟩, ⟨1, 1, [.int .i64 [Rr.t r]]⟩])), (1, some (.segs [⟨List.length (Rr.l r), 1, [.int .i64 (List.set (Rr.l r) (0 + Int.toNat i) a)]⟩]))])))))))))) := by kernel_rfl

theorem rof_call (T : Tb) (r : Rr) (i : Int) : ((callB Try.prog (tabF T) noS (W (tabF T) noS noL) 25 [.ptr (.own 0 0 0 0), .int .i64 i]).full ⟨hp 0 [r.b0 1, r.b1], 2, [], []⟩ leafV).take 2 (.x (cs 8 (.leaf [0, 1] 1)) (cs 6 (.x (.leaf [0, 1] 1) (.n (.n (.leaf [0, 1] 1)))))) =
  (.br (decide (i < 0))
  (.leaf (.ret, mkT 1 [(0, .int .i64 0)], [(0, some (.segs [⟨1, 1, [.val [.slice (.own 1 0 0 1) (List.length (Rr.l r)) none]]⟩, ⟨1, 1, [.int .i64 [Rr.t r]]⟩])), (1, some (.segs [⟨List.length (Rr.l r), 1, [.int .i64 (Rr.l r)]⟩]))]))
  (.br (decide ((↑(List.length (Rr.l r)) : Int) ≤ i))
    (.leaf (.ret, mkT 1 [(0, .int .i64 0)], [(0, some (.segs [⟨1, 1, [.val [.slice (.own 1 0 0 1) (List.length (Rr.l r)) none]]⟩, ⟨1, 1, [.int .i64 [Rr.t r]]⟩])), (1, some (.segs [⟨List.length (Rr.l r), 1, [.int .i64 (Rr.l r)]⟩]))]))
    (.need (decide (0 ≤ i) && decide (i < (↑(List.length (Rr.l r)) : Int))) (.need (decide (0 + Int.toNat i < List.length (Rr.l r))) (.leaf (.ret, mkT 1 [(0, .int .i64 (List.getD (Rr.l r) (0 + Int.toNat i) 0))], [(0, some (.segs [⟨1, 1, [.val [.slice (.own 1 0 0 1) (List.length (Rr.l r)) none]]⟩, ⟨1, 1, [.int .i64 [Rr.t r]]⟩])), (1, some (.segs [⟨List.length (Rr.l r), 1, [.int .i64 (Rr.l r)]⟩]))])))))) := by kernel_rfl

theorem rmin_round (T : Tb) (r : Rr) (v i : Int) : ((W (tabF T) noS noL 23 [false, false, true, false, true, true] false (codeOf 23 [false, false, true, false, true, true]) (mkT 30 [(0, .ptr (.own 0 0 0 0)), (3, .int .i64 v), (4, .int .i64 i)])).full ⟨hp 0 (rrB r), 2, [], []⟩ leafS).take 2 (.x (.n (.n (.leaf [0, 1] 25))) (.leaf [0, 1] 12)) =
  (.br (decide (i < (↑(List.length (Rr.l r)) : Int)))
  (.need (decide (0 ≤ i) && decide (i < (↑(List.length (Rr.l r)) : Int))) (.need (decide (0 + Int.toNat i < List.length (Rr.l r))) (.leaf (.normal, mkT 30 [(0, .ptr (.own 0 0 0 0)), (3, .int .i64 (if List.getD (Rr.l r) (0 + Int.toNat i) 0 < v then List.getD (Rr.l r) (0 + Int.toNat i) 0 else v)), (4, .int .i64 (wr .i64 (i + 1)))], [(0, some (.segs [⟨1, 1, [.val [.slice (.own 1 0 0 1) (List.length (Rr.l r)) none]]⟩, ⟨1, 1, [.int .i64 [Rr.t r]]⟩])), (1, some (.segs [⟨List.length (Rr.l r), 1, [.int .i64 (Rr.l r)]⟩]))]))))
  (.leaf (.exit 0, mkT 30 [(3, .int .i64 v)], [(0, some (.segs [⟨1, 1, [.val [.slice (.own 1 0 0 1) (List.length (Rr.l r)) none]]⟩, ⟨1, 1, [.int .i64 [Rr.t r]]⟩])), (1, some (.segs [⟨List.length (Rr.l r), 1, [.int .i64 (Rr.l r)]⟩]))]))) := by kernel_rfl

theorem rmin_call (T : Tb) (r : Rr) : ((callB Try.prog (tabF T) noS (W (tabF T) noS L23) 23 [.ptr (.own 0 0 0 0)]).full ⟨hp 0 [r.b0 1, r.b1], 2, [], []⟩ leafV).take 2 (.n (.n (.n (.n (.n (.leaf [0, 1] 1)))))) =
  (.need (decide (0 < (↑(List.length (Rr.l r)) : Int))) (.need (decide (0 < List.length (Rr.l r))) (.need (decide (List.length (Rr.l r) = List.length (Rr.l r)) && true && true && true && (decide ([Rr.t r] = [Rr.t r]) && true && true) && (decide (List.length (Rr.l r) = List.length (Rr.l r)) && (decide (Rr.l r = Rr.l r) && true && true) && true) && true) (.need (decide (List.getD (Rr.l r) 0 0 = List.getD (Rr.l r) 0 0) && true && true) (.need (okRr r) (.leaf (.ret, mkT 1 [(0, .int .i64 (rmin r))], [(0, some (.segs [⟨1, 1, [.val [.slice (.own 1 0 0 1) (List.length (Rr.l r)) none]]⟩, ⟨1, 1, [.int .i64 [Rr.t r]]⟩])), (1, some (.segs [⟨List.length (Rr.l r), 1, [.int .i64 (Rr.l r)]⟩]))]))))))) := by kernel_rfl

theorem ints_round (T : Tb) (y : Ls) (i : Int) : ((W (tabF T) noS noL 24 [false, false, true, false, true, true] false (codeOf 24 [false, false, true, false, true, true]) (mkT 26 [(0, .slice (.own 0 0 0 1) y.n none), (1, .slice (.own 1 0 0 1) y.m none), (5, .int .i64 i)])).full ⟨hp 0 (lsB y), 2, [], []⟩ leafS).take 2 (.x (.n (.n (.n (.n (.c (.x (.leaf [0, 1] 16) (.leaf [0, 1] 35))))))) (.leaf [0, 1] 16)) =
  (.br (decide (i < (↑(Ls.n y) : Int)))
  (.need (decide (0 ≤ i) && decide (i < (↑(Ls.n y) : Int))) (.need (decide (0 + Int.toNat i < Ls.n y)) (.need (decide (0 ≤ i) && decide (i < (↑(Ls.m y) : Int))) (.need (decide (0 + Int.toNat i < Ls.m y)) (.br (!decide (List.getD (Ls.l y) (0 + Int.toNat i) 0 = List.getD (Ls.l' y) (0 + Int.toNat i) 0))
    (.leaf (.ret, mkT 26 [(4, .bool false)], [(0, some (.segs [⟨Ls.n y, 1, [.int .i64 (Ls.l y)]⟩])), (1, some (.segs [⟨Ls.m y, 1, [.int .i64 (Ls.l' y)]⟩]))]))
    (.leaf (.normal, mkT 26 [(0, .slice (.own 0 0 0 1) (Ls.n y) none), (1, .slice (.own 1 0 0 1) (Ls.m y) none), (5, .int .i64 (wr .i64 (i + 1)))], [(0, some (.segs [⟨Ls.n y, 1, [.int .i64 (Ls.l y)]⟩])), (1, some (.segs [⟨Ls.m y, 1, [.int .i64 (Ls.l' y)]⟩]))])))))))
  (.leaf (.exit 0, mkT 26 [], [(0, some (.segs [⟨Ls.n y, 1, [.int .i64 (Ls.l y)]⟩])), (1, some (.segs [⟨Ls.m y, 1, [.int .i64 (Ls.l' y)]⟩]))]))) := by kernel_rfl

theorem ints_call (T : Tb) (y : Ls) : ((callB Try.prog (tabF T) noS (W (tabF T) noS L24) 24 [.slice (.own 0 0 0 1) y.n none, .slice (.own 1 0 0 1) y.m none]).full ⟨hp 0 [rowI y.n y.l, rowI y.m y.l'], 2, [], []⟩ leafV).take 2 (.x (.leaf [0, 1] 1) (.n (.n (.n (.leaf [0, 1] 1))))) =
  (.br (!decide ((↑(Ls.n y) : Int) = (↑(Ls.m y) : Int)))
  (.leaf (.ret, mkT 1 [(0, .bool false)], [(0, some (.segs [⟨Ls.n y, 1, [.int .i64 (Ls.l y)]⟩])), (1, some (.segs [⟨Ls.m y, 1, [.int .i64 (Ls.l' y)]⟩]))]))
  (.need (decide (Ls.n y = Ls.n y) && (decide (Ls.l y = Ls.l y) && true && true) && (decide (Ls.m y = Ls.m y) && (decide (Ls.l' y = Ls.l' y) && true && true) && true) && true) (.need (decide (Ls.n y = Ls.n y) && true && (decide (Ls.m y = Ls.m y) && true && true) && true) (.need (lsP y) (.leaf (.ret, mkT 1 [(0, .bool true)], [(0, some (.segs [⟨Ls.n y, 1, [.int .i64 (Ls.l y)]⟩])), (1, some (.segs [⟨Ls.m y, 1, [.int .i64 (Ls.l' y)]⟩]))])))))) := by kernel_rfl

end Go.Proofs.Ytnnbbjfbhigcfaa
