/- send: functions as trees. -/
import Derived.Test.YtoahbijmemgghaaD20
namespace Go.Proofs.Ytoahbijmemgghaa
open Ab

theorem new_call (E : Nat → Nat → Seg) (i : Int) : ((callB Try.prog E noS (W E noS noL) 7 [.int .i64 i]).full ⟨hp 0 [], 0, [], []⟩ leafV).take 0 (.x (.c (.c (.c (.leaf [] 1)))) (.c (.x (.leaf [] 1) (.leaf [0] 1)))) =
  (.br (decide (i < 1))
  (.leaf (.ret, mkT 1 [(0, .nilp)], []))
  (.br (decide (16 < i))
    (.leaf (.ret, mkT 1 [(0, .nilp)], []))
    (.leaf (.ret, mkT 1 [(0, .ptr (.own 0 0 0 0))], [(0, some (.segs [⟨1, 1, [.val [.nils]]⟩, ⟨1, 1, [.int .i64 [i]]⟩, ⟨1, 1, [.int .u64 [0]]⟩, ⟨1, 1, [.int .u64 [wr .u64 i]]⟩]))])))) := by kernel_rfl

theorem rnew_call (E : Nat → Nat → Seg) (i : Int) : ((callB Try.prog E noS (W E noS noL) 8 [.int .i64 i]).full ⟨hp 0 [], 0, [], []⟩ leafV).take 0 (.x (.c (.c (.c (.leaf [] 1)))) (.c (.x (.leaf [] 1) (.leaf [0] 1)))) =
  (.br (decide (i < 1))
  (.leaf (.ret, mkT 1 [(0, .nilp)], []))
  (.br (decide (16 < i))
    (.leaf (.ret, mkT 1 [(0, .nilp)], []))
    (.leaf (.ret, mkT 1 [(0, .ptr (.own 0 0 0 0))], [(0, some (.segs [⟨1, 1, [.int .i64 [i]]⟩, ⟨1, 1, [.int .u64 [0]]⟩, ⟨1, 1, [.int .u64 [wr .u64 i]]⟩, ⟨1, 1, [.val [.nils]]⟩]))])))) := by kernel_rfl

theorem len_z (E : Nat → Nat → Seg) (k b m : Int) : ((callB Try.prog E noS (W E noS noL) 18 [.ptr (.own 0 0 0 0)]).full ⟨hp 0 [zBlk k b m], 1, [], []⟩ leafV).take 1 (.c (.leaf [0] 1)) =
  (.leaf (.ret, mkT 1 [(0, .int .i64 0)], [(0, some (.segs [⟨1, 1, [.val [.nils]]⟩, ⟨1, 1, [.int .i64 [k]]⟩, ⟨1, 1, [.int .u64 [b]]⟩, ⟨1, 1, [.int .u64 [m]]⟩]))])) := by kernel_rfl

theorem len_q (E : Nat → Nat → Seg) (x : Sd) : ((callB Try.prog E noS (W E noS noL) 18 [.ptr (.own 0 0 0 0)]).full ⟨hp 0 [x.blk 1, Qb x.ts], 2, [], []⟩ leafV).take 2 (.c (.leaf [0, 1] 1)) =
  (.leaf (.ret, mkT 1 [(0, .int .i64 (↑(Sd.n x) : Int))], [(0, some (.segs [⟨1, 1, [.val [.slice (.own 1 0 (Sd.o x) 24) (Sd.n x) x.4]]⟩, ⟨1, 1, [.int .i64 [Sd.k x]]⟩, ⟨1, 1, [.int .u64 [Sd.b x]]⟩, ⟨1, 1, [.int .u64 [Sd.m x]]⟩])), (1, some (Qb (Sd.ts x)))])) := by kernel_rfl

theorem base_z (E : Nat → Nat → Seg) (k b m : Int) : ((callB Try.prog E noS (W E noS noL) 17 [.ptr (.own 0 0 0 0)]).full ⟨hp 0 [zBlk k b m], 1, [], []⟩ leafV).take 1 (.c (.leaf [0] 1)) =
  (.leaf (.ret, mkT 1 [(0, .int .u64 b)], [(0, some (.segs [⟨1, 1, [.val [.nils]]⟩, ⟨1, 1, [.int .i64 [k]]⟩, ⟨1, 1, [.int .u64 [b]]⟩, ⟨1, 1, [.int .u64 [m]]⟩]))])) := by kernel_rfl

theorem base_q (E : Nat → Nat → Seg) (x : Sd) : ((callB Try.prog E noS (W E noS noL) 17 [.ptr (.own 0 0 0 0)]).full ⟨hp 0 [x.blk 1, Qb x.ts], 2, [], []⟩ leafV).take 2 (.c (.leaf [0, 1] 1)) =
  (.leaf (.ret, mkT 1 [(0, .int .u64 (Sd.b x))], [(0, some (.segs [⟨1, 1, [.val [.slice (.own 1 0 (Sd.o x) 24) (Sd.n x) x.4]]⟩, ⟨1, 1, [.int .i64 [Sd.k x]]⟩, ⟨1, 1, [.int .u64 [Sd.b x]]⟩, ⟨1, 1, [.int .u64 [Sd.m x]]⟩])), (1, some (Qb (Sd.ts x)))])) := by kernel_rfl

theorem left_z (E : Nat → Nat → Seg) (k b m : Int) : ((callB Try.prog E noS (W E noS noL) 19 [.ptr (.own 0 0 0 0)]).full ⟨hp 0 [zBlk k b m], 1, [], []⟩ leafV).take 1 (.c (.c (.leaf [0] 1))) =
  (.leaf (.ret, mkT 1 [(0, .int .i64 (wr .i64 (k - 0)))], [(0, some (.segs [⟨1, 1, [.val [.nils]]⟩, ⟨1, 1, [.int .i64 [k]]⟩, ⟨1, 1, [.int .u64 [b]]⟩, ⟨1, 1, [.int .u64 [m]]⟩]))])) := by kernel_rfl

theorem left_q (E : Nat → Nat → Seg) (x : Sd) : ((callB Try.prog E noS (W E noS noL) 19 [.ptr (.own 0 0 0 0)]).full ⟨hp 0 [x.blk 1, Qb x.ts], 2, [], []⟩ leafV).take 2 (.c (.c (.leaf [0, 1] 1))) =
  (.leaf (.ret, mkT 1 [(0, .int .i64 (wr .i64 (Sd.k x - (↑(Sd.n x) : Int))))], [(0, some (.segs [⟨1, 1, [.val [.slice (.own 1 0 (Sd.o x) 24) (Sd.n x) x.4]]⟩, ⟨1, 1, [.int .i64 [Sd.k x]]⟩, ⟨1, 1, [.int .u64 [Sd.b x]]⟩, ⟨1, 1, [.int .u64 [Sd.m x]]⟩])), (1, some (Qb (Sd.ts x)))])) := by kernel_rfl

theorem next_z (E : Nat → Nat → Seg) (k b m i : Int) : ((callB Try.prog E noS (W E noS noL) 12 [.ptr (.own 0 0 0 0), .int .i64 i]).full ⟨hp 0 [zBlk k b m], 1, [], []⟩ leafV).take 1 (cs 8 (.leaf [0] 1)) =
  (.leaf (.ret, mkT 1 [(0, .tup [.int .u64 0, msgV 0 0, .bool false])], [(0, some (.segs [⟨1, 1, [.val [.nils]]⟩, ⟨1, 1, [.int .i64 [k]]⟩, ⟨1, 1, [.int .u64 [b]]⟩, ⟨1, 1, [.int .u64 [m]]⟩]))])) := by kernel_rfl

theorem next_q (E : Nat → Nat → Seg) (x : Sd) (i : Int) : ((callB Try.prog E noS (W E noS noL) 12 [.ptr (.own 0 0 0 0), .int .i64 i]).full ⟨hp 0 [x.blk 1, Qb x.ts], 2, [], []⟩ leafV).take 2 (cs 6 (.x (.c (.leaf [0, 1] 1)) (.c (.x (.c (.n (.n (.c (.leaf [0, 1] 1))))) (.c (.n (.n (.n (.c (.leaf [0, 1] 1)))))))))) =
  (.br (decide ((↑(Sd.n x) : Int) = 0))
  (.leaf (.ret, mkT 1 [(0, .tup [.int .u64 0, msgV 0 0, .bool false])], [(0, some (.segs [⟨1, 1, [.val [.slice (.own 1 0 (Sd.o x) 24) (Sd.n x) x.4]]⟩, ⟨1, 1, [.int .i64 [Sd.k x]]⟩, ⟨1, 1, [.int .u64 [Sd.b x]]⟩, ⟨1, 1, [.int .u64 [Sd.m x]]⟩])), (1, some (Qb (Sd.ts x)))]))
  (.br (decide (Sd.m x ≤ Sd.b x))
    (.need (decide (0 ≤ Int.tmod (if 0 < i then i else 0) 1) && decide (Int.tmod (if 0 < i then i else 0) 1 < (↑(Sd.n x) : Int))) (.need (decide (Sd.o x + Int.toNat (Int.tmod (if 0 < i then i else 0) 1) < List.length (Sd.ts x))) (.leaf (.ret, mkT 1 [(0, .tup [.int .u64 (wr .u64 (Sd.b x + wr .u64 (Int.tmod (if 0 < i then i else 0) 1))), msgAt (Sd.ts x) (Sd.o x + Int.toNat (Int.tmod (if 0 < i then i else 0) 1)), .bool true])], [(0, some (.segs [⟨1, 1, [.val [.slice (.own 1 0 (Sd.o x) 24) (Sd.n x) x.4]]⟩, ⟨1, 1, [.int .i64 [Sd.k x]]⟩, ⟨1, 1, [.int .u64 [Sd.b x]]⟩, ⟨1, 1, [.int .u64 [Sd.m x]]⟩])), (1, some (Qb (Sd.ts x)))]))))
    (.need (decide (wr .i64 (if wr .u64 (Sd.m x - Sd.b x) < wr .u64 (↑(Sd.n x) : Int) then wr .u64 (Sd.m x - Sd.b x) else wr .u64 (↑(Sd.n x) : Int)) ≠ 0)) (.need (decide (0 ≤ Int.tmod (if 0 < i then i else 0) (wr .i64 (if wr .u64 (Sd.m x - Sd.b x) < wr .u64 (↑(Sd.n x) : Int) then wr .u64 (Sd.m x - Sd.b x) else wr .u64 (↑(Sd.n x) : Int)))) && decide (Int.tmod (if 0 < i then i else 0) (wr .i64 (if wr .u64 (Sd.m x - Sd.b x) < wr .u64 (↑(Sd.n x) : Int) then wr .u64 (Sd.m x - Sd.b x) else wr .u64 (↑(Sd.n x) : Int))) < (↑(Sd.n x) : Int))) (.need (decide (Sd.o x + Int.toNat (Int.tmod (if 0 < i then i else 0) (wr .i64 (if wr .u64 (Sd.m x - Sd.b x) < wr .u64 (↑(Sd.n x) : Int) then wr .u64 (Sd.m x - Sd.b x) else wr .u64 (↑(Sd.n x) : Int)))) < List.length (Sd.ts x))) (.leaf (.ret, mkT 1 [(0, .tup [.int .u64 (wr .u64 (Sd.b x + wr .u64 (Int.tmod (if 0 < i then i else 0) (wr .i64 (if wr .u64 (Sd.m x - Sd.b x) < wr .u64 (↑(Sd.n x) : Int) then wr .u64 (Sd.m x - Sd.b x) else wr .u64 (↑(Sd.n x) : Int)))))), msgAt (Sd.ts x) (Sd.o x + Int.toNat (Int.tmod (if 0 < i then i else 0) (wr .i64 (if wr .u64 (Sd.m x - Sd.b x) < wr .u64 (↑(Sd.n x) : Int) then wr .u64 (Sd.m x - Sd.b x) else wr .u64 (↑(Sd.n x) : Int))))), .bool true])], [(0, some (.segs [⟨1, 1, [.val [.slice (.own 1 0 (Sd.o x) 24) (Sd.n x) x.4]]⟩, ⟨1, 1, [.int .i64 [Sd.k x]]⟩, ⟨1, 1, [.int .u64 [Sd.b x]]⟩, ⟨1, 1, [.int .u64 [Sd.m x]]⟩])), (1, some (Qb (Sd.ts x)))]))))))) := by kernel_rfl

theorem ack_z (E : Nat → Nat → Seg) (k b m i r : Int) : ((callB Try.prog E noS (W E noS noL) 15 [.ptr (.own 0 0 0 0), .int .u64 i, .int .i64 r]).full ⟨hp 0 [zBlk k b m], 1, [], []⟩ leafV).take 1 (.c (.x (cs 13 (.x (.leaf [0] 1) (.x (.t (.leaf [0] 1)) (.x (.leaf [0] 1) (.t (.c (.c (.n (.c (.leaf [0] 1)))))))))) (cs 15 (.x (.t (.leaf [0] 1)) (.x (.leaf [0] 1) (.f (.leaf [0] 1))))))) =
  (.br (decide (b < i))
  (.br (decide (0 < wr .u64 (i - b)))
    (.leaf (.ret, mkT 1 [(0, .int .i64 2)], [(0, some (.segs [⟨1, 1, [.val [.nils]]⟩, ⟨1, 1, [.int .i64 [k]]⟩, ⟨1, 1, [.int .u64 [b]]⟩, ⟨1, 1, [.int .u64 [m]]⟩]))]))
    (.br (decide (r < 0))
      (.need (decide (r < 0)) (.leaf (.ret, mkT 1 [(0, .int .i64 2)], [(0, some (.segs [⟨1, 1, [.val [.nils]]⟩, ⟨1, 1, [.int .i64 [k]]⟩, ⟨1, 1, [.int .u64 [b]]⟩, ⟨1, 1, [.int .u64 [m]]⟩]))])))
      (.br (decide (k < r))
        (.leaf (.ret, mkT 1 [(0, .int .i64 2)], [(0, some (.segs [⟨1, 1, [.val [.nils]]⟩, ⟨1, 1, [.int .i64 [k]]⟩, ⟨1, 1, [.int .u64 [b]]⟩, ⟨1, 1, [.int .u64 [m]]⟩]))]))
        (.need (decide (b < i)) (.need (decide (0 ≤ wr .i64 (wr .u64 (i - b))) && decide (wr .i64 (wr .u64 (i - b)) ≤ 0)) (.leaf (.ret, mkT 1 [(0, .int .i64 0)], [(0, some (.segs [⟨1, 1, [.val [.nils]]⟩, ⟨1, 1, [.int .i64 [k]]⟩, ⟨1, 1, [.int .u64 [i]]⟩, ⟨1, 1, [.int .u64 [if m < wr .u64 (i + wr .u64 r) then wr .u64 (i + wr .u64 r) else m]]⟩]))])))))))
  (.br (decide (r < 0))
    (.need (decide (r < 0)) (.leaf (.ret, mkT 1 [(0, .int .i64 2)], [(0, some (.segs [⟨1, 1, [.val [.nils]]⟩, ⟨1, 1, [.int .i64 [k]]⟩, ⟨1, 1, [.int .u64 [b]]⟩, ⟨1, 1, [.int .u64 [m]]⟩]))])))
    (.br (decide (k < r))
      (.leaf (.ret, mkT 1 [(0, .int .i64 2)], [(0, some (.segs [⟨1, 1, [.val [.nils]]⟩, ⟨1, 1, [.int .i64 [k]]⟩, ⟨1, 1, [.int .u64 [b]]⟩, ⟨1, 1, [.int .u64 [m]]⟩]))]))
      (.but (decide (b < i)) (.leaf (.ret, mkT 1 [(0, .int .i64 0)], [(0, some (.segs [⟨1, 1, [.val [.nils]]⟩, ⟨1, 1, [.int .i64 [k]]⟩, ⟨1, 1, [.int .u64 [b]]⟩, ⟨1, 1, [.int .u64 [if m < wr .u64 (i + wr .u64 r) then wr .u64 (i + wr .u64 r) else m]]⟩]))])))))) := by kernel_rfl

theorem ack_q (E : Nat → Nat → Seg) (ts : List Int) (o n : Nat) (k b m i r : Int) : ((callB Try.prog E noS (W E noS noL) 15 [.ptr (.own 0 0 0 0), .int .u64 i, .int .i64 r]).full ⟨hp 0 [Sd.blk 1 ⟨ts, o, n, none, k, b, m⟩, Qb ts], 2, [], []⟩ leafV).take 2 (.c (.x (cs 13 (.x (.leaf [0, 1] 1) (.x (.t (.leaf [0, 1] 1)) (.x (.leaf [0, 1] 1) (.t (.n (.n (.n (.c (.leaf [0, 1] 1)))))))))) (cs 15 (.x (.t (.leaf [0, 1] 1)) (.x (.leaf [0, 1] 1) (.f (.leaf [0, 1] 1))))))) =
  (.br (decide (b < i))
  (.br (decide (wr .u64 (↑n : Int) < wr .u64 (i - b)))
    (.leaf (.ret, mkT 1 [(0, .int .i64 2)], [(0, some (.segs [⟨1, 1, [.val [.slice (.own 1 0 o 24) n none]]⟩, ⟨1, 1, [.int .i64 [k]]⟩, ⟨1, 1, [.int .u64 [b]]⟩, ⟨1, 1, [.int .u64 [m]]⟩])), (1, some (Qb ts))]))
    (.br (decide (r < 0))
      (.need (decide (r < 0)) (.leaf (.ret, mkT 1 [(0, .int .i64 2)], [(0, some (.segs [⟨1, 1, [.val [.slice (.own 1 0 o 24) n none]]⟩, ⟨1, 1, [.int .i64 [k]]⟩, ⟨1, 1, [.int .u64 [b]]⟩, ⟨1, 1, [.int .u64 [m]]⟩])), (1, some (Qb ts))])))
      (.br (decide (k < r))
        (.leaf (.ret, mkT 1 [(0, .int .i64 2)], [(0, some (.segs [⟨1, 1, [.val [.slice (.own 1 0 o 24) n none]]⟩, ⟨1, 1, [.int .i64 [k]]⟩, ⟨1, 1, [.int .u64 [b]]⟩, ⟨1, 1, [.int .u64 [m]]⟩])), (1, some (Qb ts))]))
        (.need (decide (b < i)) (.need (decide ((↑n : Int) ≤ (↑n : Int))) (.need (decide ((↑n : Int) ≤ (↑n : Int))) (.need (decide (0 ≤ wr .i64 (wr .u64 (i - b))) && decide (wr .i64 (wr .u64 (i - b)) ≤ (↑n : Int))) (.leaf (.ret, mkT 1 [(0, .int .i64 0)], [(0, some (.segs [⟨1, 1, [.val [.slice (.own 1 0 (o + Int.toNat (wr .i64 (wr .u64 (i - b)))) 24) (n - Int.toNat (wr .i64 (wr .u64 (i - b)))) (some (n - Int.toNat (wr .i64 (wr .u64 (i - b)))))]]⟩, ⟨1, 1, [.int .i64 [k]]⟩, ⟨1, 1, [.int .u64 [i]]⟩, ⟨1, 1, [.int .u64 [if m < wr .u64 (i + wr .u64 r) then wr .u64 (i + wr .u64 r) else m]]⟩])), (1, some (Qb ts))])))))))))
  (.br (decide (r < 0))
    (.need (decide (r < 0)) (.leaf (.ret, mkT 1 [(0, .int .i64 2)], [(0, some (.segs [⟨1, 1, [.val [.slice (.own 1 0 o 24) n none]]⟩, ⟨1, 1, [.int .i64 [k]]⟩, ⟨1, 1, [.int .u64 [b]]⟩, ⟨1, 1, [.int .u64 [m]]⟩])), (1, some (Qb ts))])))
    (.br (decide (k < r))
      (.leaf (.ret, mkT 1 [(0, .int .i64 2)], [(0, some (.segs [⟨1, 1, [.val [.slice (.own 1 0 o 24) n none]]⟩, ⟨1, 1, [.int .i64 [k]]⟩, ⟨1, 1, [.int .u64 [b]]⟩, ⟨1, 1, [.int .u64 [m]]⟩])), (1, some (Qb ts))]))
      (.but (decide (b < i)) (.leaf (.ret, mkT 1 [(0, .int .i64 0)], [(0, some (.segs [⟨1, 1, [.val [.slice (.own 1 0 o 24) n none]]⟩, ⟨1, 1, [.int .i64 [k]]⟩, ⟨1, 1, [.int .u64 [b]]⟩, ⟨1, 1, [.int .u64 [if m < wr .u64 (i + wr .u64 r) then wr .u64 (i + wr .u64 r) else m]]⟩])), (1, some (Qb ts))])))))) := by kernel_rfl

theorem ack_c (E : Nat → Nat → Seg) (ts : List Int) (o n : Nat) (k b m i r : Int) : ((callB Try.prog E noS (W E noS noL) 15 [.ptr (.own 0 0 0 0), .int .u64 i, .int .i64 r]).full ⟨hp 0 [Sd.blk 1 ⟨ts, o, n, some n, k, b, m⟩, Qb ts], 2, [], []⟩ leafV).take 2 (.c (.x (cs 13 (.x (.leaf [0, 1] 1) (.x (.t (.leaf [0, 1] 1)) (.x (.leaf [0, 1] 1) (.t (.n (.n (.n (.c (.leaf [0, 1] 1)))))))))) (cs 15 (.x (.t (.leaf [0, 1] 1)) (.x (.leaf [0, 1] 1) (.f (.leaf [0, 1] 1))))))) =
  (.br (decide (b < i))
  (.br (decide (wr .u64 (↑n : Int) < wr .u64 (i - b)))
    (.leaf (.ret, mkT 1 [(0, .int .i64 2)], [(0, some (.segs [⟨1, 1, [.val [.slice (.own 1 0 o 24) n (some n)]]⟩, ⟨1, 1, [.int .i64 [k]]⟩, ⟨1, 1, [.int .u64 [b]]⟩, ⟨1, 1, [.int .u64 [m]]⟩])), (1, some (Qb ts))]))
    (.br (decide (r < 0))
      (.need (decide (r < 0)) (.leaf (.ret, mkT 1 [(0, .int .i64 2)], [(0, some (.segs [⟨1, 1, [.val [.slice (.own 1 0 o 24) n (some n)]]⟩, ⟨1, 1, [.int .i64 [k]]⟩, ⟨1, 1, [.int .u64 [b]]⟩, ⟨1, 1, [.int .u64 [m]]⟩])), (1, some (Qb ts))])))
      (.br (decide (k < r))
        (.leaf (.ret, mkT 1 [(0, .int .i64 2)], [(0, some (.segs [⟨1, 1, [.val [.slice (.own 1 0 o 24) n (some n)]]⟩, ⟨1, 1, [.int .i64 [k]]⟩, ⟨1, 1, [.int .u64 [b]]⟩, ⟨1, 1, [.int .u64 [m]]⟩])), (1, some (Qb ts))]))
        (.need (decide (b < i)) (.need (decide ((↑n : Int) ≤ (↑n : Int))) (.need (decide ((↑n : Int) ≤ (↑n : Int))) (.need (decide (0 ≤ wr .i64 (wr .u64 (i - b))) && decide (wr .i64 (wr .u64 (i - b)) ≤ (↑n : Int))) (.leaf (.ret, mkT 1 [(0, .int .i64 0)], [(0, some (.segs [⟨1, 1, [.val [.slice (.own 1 0 (o + Int.toNat (wr .i64 (wr .u64 (i - b)))) 24) (n - Int.toNat (wr .i64 (wr .u64 (i - b)))) (some (n - Int.toNat (wr .i64 (wr .u64 (i - b)))))]]⟩, ⟨1, 1, [.int .i64 [k]]⟩, ⟨1, 1, [.int .u64 [i]]⟩, ⟨1, 1, [.int .u64 [if m < wr .u64 (i + wr .u64 r) then wr .u64 (i + wr .u64 r) else m]]⟩])), (1, some (Qb ts))])))))))))
  (.br (decide (r < 0))
    (.need (decide (r < 0)) (.leaf (.ret, mkT 1 [(0, .int .i64 2)], [(0, some (.segs [⟨1, 1, [.val [.slice (.own 1 0 o 24) n (some n)]]⟩, ⟨1, 1, [.int .i64 [k]]⟩, ⟨1, 1, [.int .u64 [b]]⟩, ⟨1, 1, [.int .u64 [m]]⟩])), (1, some (Qb ts))])))
    (.br (decide (k < r))
      (.leaf (.ret, mkT 1 [(0, .int .i64 2)], [(0, some (.segs [⟨1, 1, [.val [.slice (.own 1 0 o 24) n (some n)]]⟩, ⟨1, 1, [.int .i64 [k]]⟩, ⟨1, 1, [.int .u64 [b]]⟩, ⟨1, 1, [.int .u64 [m]]⟩])), (1, some (Qb ts))]))
      (.but (decide (b < i)) (.leaf (.ret, mkT 1 [(0, .int .i64 0)], [(0, some (.segs [⟨1, 1, [.val [.slice (.own 1 0 o 24) n (some n)]]⟩, ⟨1, 1, [.int .i64 [k]]⟩, ⟨1, 1, [.int .u64 [b]]⟩, ⟨1, 1, [.int .u64 [if m < wr .u64 (i + wr .u64 r) then wr .u64 (i + wr .u64 r) else m]]⟩])), (1, some (Qb ts))])))))) := by kernel_rfl

theorem push_z (E : Nat → Nat → Seg) (k b m i : Int) : ((callB Try.prog E noS (W E noS noL) 9 [.ptr (.own 0 0 0 0), msgV 1 i]).full ⟨hp 0 [zBlk k b m], 1, [], []⟩ leafV).take 1 (.c (.c (.c (.x (.leaf [0] 1) (cs 4 (.leaf [0, 3] 1)))))) =
  (.br (decide (wr .i64 (k - 0) = 0))
  (.leaf (.ret, mkT 1 [(0, .int .i64 8)], [(0, some (.segs [⟨1, 1, [.val [.nils]]⟩, ⟨1, 1, [.int .i64 [k]]⟩, ⟨1, 1, [.int .u64 [b]]⟩, ⟨1, 1, [.int .u64 [m]]⟩]))]))
  (.leaf (.ret, mkT 1 [(0, .int .i64 0)], [(0, some (.segs [⟨1, 1, [.val [.slice (.own 1 0 0 24) 1 none]]⟩, ⟨1, 1, [.int .i64 [k]]⟩, ⟨1, 1, [.int .u64 [b]]⟩, ⟨1, 1, [.int .u64 [m]]⟩])), (1, some (.segs [⟨1, 24, [.int .i64 [1], .int .i64 [0], .int .u32 [0], .int .i64 [0], .int .i64 [0], .int .u8 [0], .bool [false], .bool [false], .int .i64 (List.take 1 (List.drop 0 [i])), .int .i64 [0], .int .i64 [0], .int .i64 [0], .nilc 1, .int .i64 [0], .int .i64 [0], .int .i64 [0], .int .i64 [0], .int .i64 [0], .int .i64 [0], .int .i64 [0], .int .i64 [0], .int .i64 [0], .bool [false], .nilc 1]⟩]))]))) := by kernel_rfl

theorem push_q (E : Nat → Nat → Seg) (ts : List Int) (o n : Nat) (k b m i : Int) : ((callB Try.prog E noS (W E noS noL) 9 [.ptr (.own 0 0 0 0), msgV 1 i]).full ⟨hp 0 [Sd.blk 1 ⟨ts, o, n, none, k, b, m⟩, Qb ts], 2, [], []⟩ leafV).take 1 (.c (.c (.c (.x (.leaf [0, 1] 1) (.n (.n (.c (.c (.c (.leaf [0, 4] 1)))))))))) =
  (.br (decide (wr .i64 (k - (↑n : Int)) = 0))
  (.leaf (.ret, mkT 1 [(0, .int .i64 8)], [(0, some (.segs [⟨1, 1, [.val [.slice (.own 1 0 o 24) n none]]⟩, ⟨1, 1, [.int .i64 [k]]⟩, ⟨1, 1, [.int .u64 [b]]⟩, ⟨1, 1, [.int .u64 [m]]⟩])), (1, some (Qb ts))]))
  (.need (decide ((n + 1) * 208 ≤ 35184372088832)) (.need (decide (o + n ≤ List.length ts)) (.leaf (.ret, mkT 1 [(0, .int .i64 0)], [(0, some (.segs [⟨1, 1, [.val [.slice (.own 1 0 0 24) (n + 1) none]]⟩, ⟨1, 1, [.int .i64 [k]]⟩, ⟨1, 1, [.int .u64 [b]]⟩, ⟨1, 1, [.int .u64 [m]]⟩])), (1, some (Qp ts o n i))]))))) := by kernel_rfl

theorem push_c (E : Nat → Nat → Seg) (ts : List Int) (o n : Nat) (k b m i : Int) : ((callB Try.prog E noS (W E noS noL) 9 [.ptr (.own 0 0 0 0), msgV 1 i]).full ⟨hp 0 [Sd.blk 1 ⟨ts, o, n, some n, k, b, m⟩, Qb ts], 2, [], []⟩ leafV).take 1 (.c (.c (.c (.x (.leaf [0, 1] 1) (.f (.n (.n (.c (.c (.leaf [0, 4] 1)))))))))) =
  (.br (decide (wr .i64 (k - (↑n : Int)) = 0))
  (.leaf (.ret, mkT 1 [(0, .int .i64 8)], [(0, some (.segs [⟨1, 1, [.val [.slice (.own 1 0 o 24) n (some n)]]⟩, ⟨1, 1, [.int .i64 [k]]⟩, ⟨1, 1, [.int .u64 [b]]⟩, ⟨1, 1, [.int .u64 [m]]⟩])), (1, some (Qb ts))]))
  (.but (Nat.ble (n + 1) n) (.need (decide ((n + 1) * 208 ≤ 35184372088832)) (.need (decide (o + n ≤ List.length ts)) (.leaf (.ret, mkT 1 [(0, .int .i64 0)], [(0, some (.segs [⟨1, 1, [.val [.slice (.own 1 0 0 24) (n + 1) none]]⟩, ⟨1, 1, [.int .i64 [k]]⟩, ⟨1, 1, [.int .u64 [b]]⟩, ⟨1, 1, [.int .u64 [m]]⟩])), (1, some (Qp ts o n i))])))))) := by kernel_rfl

end Go.Proofs.Ytoahbijmemgghaa
