/- send: the document's functions as trees. -/
import Derived.Test.YtoahbijmemgghaaD20r
namespace Go.Proofs.Ytoahbijmemgghaa
open Ab

theorem rnext_round_z (E : Nat → Nat → Seg) (k b m i c j : Int) : ((W E noS noL 13 [false, false, true, false, true, true] false (codeOf 13 [false, false, true, false, true, true]) (mkT 58 [(0, .ptr (.own 0 0 0 0)), (1, .int .i64 i), (5, .ptr (.own 1 0 0 0)), (7, .int .i64 c), (8, .int .i64 j)])).full ⟨hp 0 [rzBlk k b m, m0], 2, [], []⟩ leafS).take 1 (.x (.f (cs 12 (.x (.leaf [0, 1] 419) (.leaf [0, 1] 419)))) (.leaf [0, 1] 163)) =
  (.br (decide (j < 0))
  (.but (decide (j = 0)) (.br (decide (wr .u64 (b + wr .u64 j) < m))
    (.leaf (.normal, mkT 58 [(0, .ptr (.own 0 0 0 0)), (1, .int .i64 i), (5, .ptr (.own 1 0 0 0)), (7, .int .i64 (wr .i64 (c + 1))), (8, .int .i64 (wr .i64 (j + 1)))], [(0, some (.segs [⟨1, 1, [.int .i64 [k]]⟩, ⟨1, 1, [.int .u64 [b]]⟩, ⟨1, 1, [.int .u64 [m]]⟩, ⟨1, 1, [.val [.nils]]⟩])), (1, some (m0))]))
    (.leaf (.normal, mkT 58 [(0, .ptr (.own 0 0 0 0)), (1, .int .i64 i), (5, .ptr (.own 1 0 0 0)), (7, .int .i64 c), (8, .int .i64 (wr .i64 (j + 1)))], [(0, some (.segs [⟨1, 1, [.int .i64 [k]]⟩, ⟨1, 1, [.int .u64 [b]]⟩, ⟨1, 1, [.int .u64 [m]]⟩, ⟨1, 1, [.val [.nils]]⟩])), (1, some (m0))]))))
  (.leaf (.exit 0, mkT 58 [(0, .ptr (.own 0 0 0 0)), (1, .int .i64 i), (5, .ptr (.own 1 0 0 0)), (7, .int .i64 c)], [(0, some (.segs [⟨1, 1, [.int .i64 [k]]⟩, ⟨1, 1, [.int .u64 [b]]⟩, ⟨1, 1, [.int .u64 [m]]⟩, ⟨1, 1, [.val [.nils]]⟩])), (1, some (m0))]))) := by kernel_rfl

theorem rnext_round_q (E : Nat → Nat → Seg) (x : Sd) (i c j : Int) : ((W E noS noL 13 [false, false, true, false, true, true] false (codeOf 13 [false, false, true, false, true, true]) (mkT 58 [(0, .ptr (.own 0 0 0 0)), (1, .int .i64 i), (5, .ptr (.own 2 0 0 0)), (7, .int .i64 c), (8, .int .i64 j)])).full ⟨hp 0 [x.rblk 1, Qb x.ts, m0], 3, [], []⟩ leafS).take 2 (.x (.x (cs 14 (.leaf [0, 1, 2] 419)) (cs 12 (.x (.leaf [0, 1, 2] 419) (.leaf [0, 1, 2] 419)))) (.leaf [0, 1, 2] 163)) =
  (.br (decide (j < (↑(Sd.n x) : Int)))
  (.br (decide (j = 0))
    (.leaf (.normal, mkT 58 [(0, .ptr (.own 0 0 0 0)), (1, .int .i64 i), (5, .ptr (.own 2 0 0 0)), (7, .int .i64 (wr .i64 (c + 1))), (8, .int .i64 (wr .i64 (j + 1)))], [(0, some (.segs [⟨1, 1, [.int .i64 [Sd.k x]]⟩, ⟨1, 1, [.int .u64 [Sd.b x]]⟩, ⟨1, 1, [.int .u64 [Sd.m x]]⟩, ⟨1, 1, [.val [.slice (.own 1 0 (Sd.o x) 24) (Sd.n x) x.4]]⟩])), (1, some (Qb (Sd.ts x))), (2, some (m0))]))
    (.br (decide (wr .u64 (Sd.b x + wr .u64 j) < Sd.m x))
      (.leaf (.normal, mkT 58 [(0, .ptr (.own 0 0 0 0)), (1, .int .i64 i), (5, .ptr (.own 2 0 0 0)), (7, .int .i64 (wr .i64 (c + 1))), (8, .int .i64 (wr .i64 (j + 1)))], [(0, some (.segs [⟨1, 1, [.int .i64 [Sd.k x]]⟩, ⟨1, 1, [.int .u64 [Sd.b x]]⟩, ⟨1, 1, [.int .u64 [Sd.m x]]⟩, ⟨1, 1, [.val [.slice (.own 1 0 (Sd.o x) 24) (Sd.n x) x.4]]⟩])), (1, some (Qb (Sd.ts x))), (2, some (m0))]))
      (.leaf (.normal, mkT 58 [(0, .ptr (.own 0 0 0 0)), (1, .int .i64 i), (5, .ptr (.own 2 0 0 0)), (7, .int .i64 c), (8, .int .i64 (wr .i64 (j + 1)))], [(0, some (.segs [⟨1, 1, [.int .i64 [Sd.k x]]⟩, ⟨1, 1, [.int .u64 [Sd.b x]]⟩, ⟨1, 1, [.int .u64 [Sd.m x]]⟩, ⟨1, 1, [.val [.slice (.own 1 0 (Sd.o x) 24) (Sd.n x) x.4]]⟩])), (1, some (Qb (Sd.ts x))), (2, some (m0))]))))
  (.leaf (.exit 0, mkT 58 [(0, .ptr (.own 0 0 0 0)), (1, .int .i64 i), (5, .ptr (.own 2 0 0 0)), (7, .int .i64 c)], [(0, some (.segs [⟨1, 1, [.int .i64 [Sd.k x]]⟩, ⟨1, 1, [.int .u64 [Sd.b x]]⟩, ⟨1, 1, [.int .u64 [Sd.m x]]⟩, ⟨1, 1, [.val [.slice (.own 1 0 (Sd.o x) 24) (Sd.n x) x.4]]⟩])), (1, some (Qb (Sd.ts x))), (2, some (m0))]))) := by kernel_rfl

theorem rnext_z (E : Nat → Nat → Seg) (k b m i : Int) : ((callT Try.prog E (W E noS noL) T13z 1 13 [.ptr (.own 0 0 0 0), .int .i64 i] ⟨hp 0 [rzBlk k b m], 1, [], []⟩)).take 1 (.c (.n (.n (.a (.i (.c (.leaf [0] 1))))))) =
  (.need (decide (i = i) && true && (decide ([k] = [k]) && true && (decide ([b] = [b]) && true && (decide ([m] = [m]) && true && true)) && true)) (.need (okN 0 k b m) (.all (PUnit) fun (y0 : PUnit) => (.imp (True) (.leaf (.ret, mkT 1 [(0, .tup [.int .u64 0, msgV 0 0, .bool false])], [(0, some (.segs [⟨1, 1, [.int .i64 [k]]⟩, ⟨1, 1, [.int .u64 [b]]⟩, ⟨1, 1, [.int .u64 [m]]⟩, ⟨1, 1, [.val [.nils]]⟩]))])))))) := by kernel_rfl

theorem rnext_q (E : Nat → Nat → Seg) (x : Sd) (i : Int) : ((callT Try.prog E (W E noS noL) T13q 2 13 [.ptr (.own 0 0 0 0), .int .i64 i] ⟨hp 0 [x.rblk 1, Qb x.ts], 2, [], []⟩)).take 2 (.c (.n (.n (.a (.i (.x (.leaf [0, 1] 1) (.n (.n (.n (.c (.leaf [0, 1] 1))))))))))) =
  (.need (decide (i = i) && true && (decide ([Sd.k x] = [Sd.k x]) && true && (decide ([Sd.b x] = [Sd.b x]) && true && (decide ([Sd.m x] = [Sd.m x]) && true && (decide (Sd.o x = Sd.o x) && true && (decide (Sd.n x = Sd.n x) && sameCap x.4 x.4) && true && true && true))) && (qSame (Sd.ts x) && true))) (.need (okSd x) (.all (PUnit) fun (y0 : PUnit) => (.imp (True) (.br (decide (cntN (Sd.n x) (Sd.b x) (Sd.m x) = 0))
    (.leaf (.ret, mkT 1 [(0, .tup [.int .u64 0, msgV 0 0, .bool false])], [(0, some (.segs [⟨1, 1, [.int .i64 [Sd.k x]]⟩, ⟨1, 1, [.int .u64 [Sd.b x]]⟩, ⟨1, 1, [.int .u64 [Sd.m x]]⟩, ⟨1, 1, [.val [.slice (.own 1 0 (Sd.o x) 24) (Sd.n x) x.4]]⟩])), (1, some (Qb (Sd.ts x)))]))
    (.need (decide ¬cntN (Sd.n x) (Sd.b x) (Sd.m x) = 0) (.need (decide (0 ≤ Int.tmod (if 0 < i then i else 0) (cntN (Sd.n x) (Sd.b x) (Sd.m x))) && decide (Int.tmod (if 0 < i then i else 0) (cntN (Sd.n x) (Sd.b x) (Sd.m x)) < (↑(Sd.n x) : Int))) (.need (decide (Sd.o x + Int.toNat (Int.tmod (if 0 < i then i else 0) (cntN (Sd.n x) (Sd.b x) (Sd.m x))) < List.length (Sd.ts x))) (.leaf (.ret, mkT 1 [(0, .tup [.int .u64 (wr .u64 (Sd.b x + wr .u64 (Int.tmod (if 0 < i then i else 0) (cntN (Sd.n x) (Sd.b x) (Sd.m x))))), msgAt (Sd.ts x) (Sd.o x + Int.toNat (Int.tmod (if 0 < i then i else 0) (cntN (Sd.n x) (Sd.b x) (Sd.m x)))), .bool true])], [(0, some (.segs [⟨1, 1, [.int .i64 [Sd.k x]]⟩, ⟨1, 1, [.int .u64 [Sd.b x]]⟩, ⟨1, 1, [.int .u64 [Sd.m x]]⟩, ⟨1, 1, [.val [.slice (.own 1 0 (Sd.o x) 24) (Sd.n x) x.4]]⟩])), (1, some (Qb (Sd.ts x)))])))))))))) := by kernel_rfl

theorem rack_round_z (E : Nat → Nat → Seg) (k b m i r : Int) : ((W E noS noL 16 [false, false, false, true, true] false (codeOf 16 [false, false, false, true, true]) (mkT 65 [(0, .ptr (.own 0 0 0 0)), (1, .int .u64 i), (2, .int .i64 r)])).full ⟨hp 0 [rzBlk k b m], 1, [], []⟩ leafS).take 1 (.f (.leaf [0] 7)) =
  (.but (decide (b < i)) (.leaf (.exit 0, mkT 65 [(0, .ptr (.own 0 0 0 0)), (1, .int .u64 i), (2, .int .i64 r)], [(0, some (.segs [⟨1, 1, [.int .i64 [k]]⟩, ⟨1, 1, [.int .u64 [b]]⟩, ⟨1, 1, [.int .u64 [m]]⟩, ⟨1, 1, [.val [.nils]]⟩]))]))) := by kernel_rfl

theorem rack_round_q (E : Nat → Nat → Seg) (ts : List Int) (o n : Nat) (k b m i r : Int) : ((W E noS noL 16 [false, false, false, true, true] false (codeOf 16 [false, false, false, true, true]) (mkT 65 [(0, .ptr (.own 0 0 0 0)), (1, .int .u64 i), (2, .int .i64 r)])).full ⟨hp 0 [Sd.rblk 1 ⟨ts, o, n, none, k, b, m⟩, Qb ts], 2, [], []⟩ leafS).take 2 (.x (.n (.leaf [0, 1] 7)) (.leaf [0, 1] 7)) =
  (.br (decide (b < i))
  (.need (decide (1 ≤ (↑n : Int))) (.leaf (.normal, mkT 65 [(0, .ptr (.own 0 0 0 0)), (1, .int .u64 i), (2, .int .i64 r)], [(0, some (.segs [⟨1, 1, [.int .i64 [k]]⟩, ⟨1, 1, [.int .u64 [wr .u64 (b + 1)]]⟩, ⟨1, 1, [.int .u64 [m]]⟩, ⟨1, 1, [.val [.slice (.own 1 0 (o + 1) 24) (n - 1) none]]⟩])), (1, some (Qb ts))])))
  (.leaf (.exit 0, mkT 65 [(0, .ptr (.own 0 0 0 0)), (1, .int .u64 i), (2, .int .i64 r)], [(0, some (.segs [⟨1, 1, [.int .i64 [k]]⟩, ⟨1, 1, [.int .u64 [b]]⟩, ⟨1, 1, [.int .u64 [m]]⟩, ⟨1, 1, [.val [.slice (.own 1 0 o 24) n none]]⟩])), (1, some (Qb ts))]))) := by kernel_rfl

theorem rack_z (E : Nat → Nat → Seg) (k b m i r : Int) : ((callT Try.prog E (W E noS noL) T16z 1 16 [.ptr (.own 0 0 0 0), .int .u64 i, .int .i64 r] ⟨hp 0 [rzBlk k b m], 1, [], []⟩)).take 1 (.x (csQ 11 (.leaf [0] 1)) (.c (.x (csQ 8 (.leaf [0] 1)) (csQ 6 (.x (.leaf [0] 1) (.c (.n (.n (.a (.i (.leaf [0] 1))))))))))) =
  (.br (decide (wr .u64 (b + 0) < i))
  (.leaf (.ret, mkT 1 [(0, .int .i64 2)], [(0, some (.segs [⟨1, 1, [.int .i64 [k]]⟩, ⟨1, 1, [.int .u64 [b]]⟩, ⟨1, 1, [.int .u64 [m]]⟩, ⟨1, 1, [.val [.nils]]⟩]))]))
  (.br (decide (r < 0))
    (.leaf (.ret, mkT 1 [(0, .int .i64 2)], [(0, some (.segs [⟨1, 1, [.int .i64 [k]]⟩, ⟨1, 1, [.int .u64 [b]]⟩, ⟨1, 1, [.int .u64 [m]]⟩, ⟨1, 1, [.val [.nils]]⟩]))]))
    (.br (decide (k < r))
      (.leaf (.ret, mkT 1 [(0, .int .i64 2)], [(0, some (.segs [⟨1, 1, [.int .i64 [k]]⟩, ⟨1, 1, [.int .u64 [b]]⟩, ⟨1, 1, [.int .u64 [m]]⟩, ⟨1, 1, [.val [.nils]]⟩]))]))
      (.need (decide (i = i) && (decide (r = r) && true) && (decide ([k] = [k]) && true && (decide ([b] = [b]) && true && (decide ([m] = [m]) && true && true)) && true)) (.need (decide (i ≤ b)) (.all (PUnit) fun (y3 : PUnit) => (.imp (True) (.leaf (.ret, mkT 1 [(0, .int .i64 0)], [(0, some (.segs [⟨1, 1, [.int .i64 [k]]⟩, ⟨1, 1, [.int .u64 [b]]⟩, ⟨1, 1, [.int .u64 [if m < wr .u64 (i + wr .u64 r) then wr .u64 (i + wr .u64 r) else m]]⟩, ⟨1, 1, [.val [.nils]]⟩]))]))))))))) := by kernel_rfl

theorem rack_q (E : Nat → Nat → Seg) (ts : List Int) (o n : Nat) (k b m i r : Int) : ((callT Try.prog E (W E noS noL) T16q 2 16 [.ptr (.own 0 0 0 0), .int .u64 i, .int .i64 r] ⟨hp 0 [Sd.rblk 1 ⟨ts, o, n, none, k, b, m⟩, Qb ts], 2, [], []⟩)).take 2 (.x (csQ 11 (.leaf [0, 1] 1)) (.c (.x (csQ 8 (.leaf [0, 1] 1)) (csQ 6 (.x (.leaf [0, 1] 1) (.c (.n (.n (.a (.i (.leaf [0, 1] 1))))))))))) =
  (.br (decide (wr .u64 (b + wr .u64 (↑n : Int)) < i))
  (.leaf (.ret, mkT 1 [(0, .int .i64 2)], [(0, some (.segs [⟨1, 1, [.int .i64 [k]]⟩, ⟨1, 1, [.int .u64 [b]]⟩, ⟨1, 1, [.int .u64 [m]]⟩, ⟨1, 1, [.val [.slice (.own 1 0 o 24) n none]]⟩])), (1, some (Qb ts))]))
  (.br (decide (r < 0))
    (.leaf (.ret, mkT 1 [(0, .int .i64 2)], [(0, some (.segs [⟨1, 1, [.int .i64 [k]]⟩, ⟨1, 1, [.int .u64 [b]]⟩, ⟨1, 1, [.int .u64 [m]]⟩, ⟨1, 1, [.val [.slice (.own 1 0 o 24) n none]]⟩])), (1, some (Qb ts))]))
    (.br (decide (k < r))
      (.leaf (.ret, mkT 1 [(0, .int .i64 2)], [(0, some (.segs [⟨1, 1, [.int .i64 [k]]⟩, ⟨1, 1, [.int .u64 [b]]⟩, ⟨1, 1, [.int .u64 [m]]⟩, ⟨1, 1, [.val [.slice (.own 1 0 o 24) n none]]⟩])), (1, some (Qb ts))]))
      (.need (decide (i = i) && (decide (r = r) && true) && (decide ([k] = [k]) && true && (decide ([b] = [b]) && true && (decide ([m] = [m]) && true && (decide (o = o) && true && (decide (n = n) && true) && true && true && true))) && (qSame ts && true))) (.need (okSd { ts := ts, o := o, n := n, c := none, k := k, b := b, m := m } && decide (i ≤ b + (↑n : Int))) (.all (PUnit) fun (y3 : PUnit) => (.imp (True) (.leaf (.ret, mkT 1 [(0, .int .i64 0)], [(0, some (.segs [⟨1, 1, [.int .i64 [k]]⟩, ⟨1, 1, [.int .u64 [maxI b i]]⟩, ⟨1, 1, [.int .u64 [if m < wr .u64 (i + wr .u64 r) then wr .u64 (i + wr .u64 r) else m]]⟩, ⟨1, 1, [.val [.slice (.own 1 0 (o + gone b i) 24) (n - gone b i) none]]⟩])), (1, some (Qb ts))]))))))))) := by kernel_rfl

theorem same_call (E : Nat → Nat → Seg) (k t : Int) : ((callB Try.prog E noS (W E noS noL) 14 [msgV k t, msgV k t]).full ⟨hp 0 [], 0, [], []⟩ leafV).take 0 (.t (cs 14 (.t (cs 128 (.leaf [] 1))))) =
  (.need (decide (k = k)) (.need (decide (t = t)) (.leaf (.ret, mkT 1 [(0, .bool true)], [])))) := by kernel_rfl

end Go.Proofs.Ytoahbijmemgghaa
