/- acc: the functions, as trees. -/
import Derived.Test.YtebpekgijakonaaD05b
namespace Go.Proofs.Ytebpekgijakonaa
open Ab

theorem one_tree (E : Nat → Nat → Seg) (v : Int) : ((callB Try.prog E noS (W E noS noL) 8 [.int .i64 v]).full ⟨hp 0 [], 0, [], []⟩ leafV).take 0 (.c (.leaf [] 1)) =
  (.leaf (.ret, mkT 1 [(0, .agg [.int .i64 1, .int .i64 (Int.fdiv v 9223372036854775808), .int .u64 (wr .u64 v), .int .i64 v, .int .i64 v])], [])) := by kernel_rfl

theorem rone_tree (E : Nat → Nat → Seg) (v : Int) : ((callB Try.prog E noS (W E noS noL) 9 [.int .i64 v]).full ⟨hp 0 [], 0, [], []⟩ leafV).take 0 (.x (.leaf [] 1) (.leaf [] 1)) =
  (.br (decide (v < 0))
  (.leaf (.ret, mkT 1 [(0, .agg [.int .i64 1, .int .i64 (-1), .int .u64 (wr .u64 v), .int .i64 v, .int .i64 v])], []))
  (.leaf (.ret, mkT 1 [(0, .agg [.int .i64 1, .int .i64 0, .int .u64 (wr .u64 v), .int .i64 v, .int .i64 v])], []))) := by kernel_rfl

theorem merge_tree (E : Nat → Nat → Seg) (n h l a b n' h' l' a' b' : Int) : ((callB Try.prog E noS (W E noS noL) 10 [(⟨n, h, l, a, b⟩ : Ac).v, (⟨n', h', l', a', b'⟩ : Ac).v]).full ⟨hp 0 [], 0, [], []⟩ leafV).take 0 (.x (.leaf [] 1) (.x (.leaf [] 1) (.n (.leaf [] 1)))) =
  (.br (decide (0 = n) && true)
  (.leaf (.ret, mkT 1 [(0, .agg [.int .i64 n', .int .i64 h', .int .u64 l', .int .i64 a', .int .i64 b'])], []))
  (.br (decide (0 = n') && true)
    (.leaf (.ret, mkT 1 [(0, .agg [.int .i64 n, .int .i64 h, .int .u64 l, .int .i64 a, .int .i64 b])], []))
    (.need (decide (0 ≤ l) && decide (0 ≤ l') && true && true) (.leaf (.ret, mkT 1 [(0, .agg [.int .i64 (wr .i64 (n + n')), .int .i64 (wr .i64 (wr .i64 (h + h') + wr .i64 ((l + l' + 0) / 18446744073709551616))), .int .u64 ((l + l' + 0) % 18446744073709551616), .int .i64 (if a' < a then a' else a), .int .i64 (if b < b' then b' else b)])], []))))) := by kernel_rfl

theorem rmerge_tree (E : Nat → Nat → Seg) (n h l a b n' h' l' a' b' : Int) : ((callB Try.prog E noS (W E noS noL) 11 [(⟨n, h, l, a, b⟩ : Ac).v, (⟨n', h', l', a', b'⟩ : Ac).v]).full ⟨hp 0 [], 0, [], []⟩ leafV).take 0 (.x (.leaf [] 1) (.x (.leaf [] 1) (cs 8 (.leaf [] 1)))) =
  (.br (decide (n = 0))
  (.leaf (.ret, mkT 1 [(0, .agg [.int .i64 n', .int .i64 h', .int .u64 l', .int .i64 a', .int .i64 b'])], []))
  (.br (decide (n' = 0))
    (.leaf (.ret, mkT 1 [(0, .agg [.int .i64 n, .int .i64 h, .int .u64 l, .int .i64 a, .int .i64 b])], []))
    (.leaf (.ret, mkT 1 [(0, .agg [.int .i64 (wr .i64 (n + n')), .int .i64 (wr .i64 (wr .i64 (h + h') + wr .i64 (wr .u64 (Int.tdiv (wr .u64 (wr .u64 (wr .u64 (Int.tdiv l 4294967296) + wr .u64 (Int.tdiv l' 4294967296)) + wr .u64 (Int.tdiv (wr .u64 (Int.tmod l 4294967296 + Int.tmod l' 4294967296)) 4294967296))) 4294967296)))), .int .u64 (wr .u64 (wr .u64 (Int.tmod (wr .u64 (wr .u64 (wr .u64 (Int.tdiv l 4294967296) + wr .u64 (Int.tdiv l' 4294967296)) + wr .u64 (Int.tdiv (wr .u64 (Int.tmod l 4294967296 + Int.tmod l' 4294967296)) 4294967296))) 4294967296 * 4294967296) + Int.tmod (wr .u64 (Int.tmod l 4294967296 + Int.tmod l' 4294967296)) 4294967296)), .int .i64 (if a' < a then a' else a), .int .i64 (if b < b' then b' else b)])], [])))) := by kernel_rfl

theorem res_tree0 (E : Nat → Nat → Seg) (n h l a b : Int) : ((callB Try.prog E noS (W E noS noL) 12 [(⟨n, h, l, a, b⟩ : Ac).v, .int .i64 0]).full ⟨hp 0 [], 0, [], []⟩ leafV).take 0 (cs 5 (.leaf [] 1)) =
  (.leaf (.ret, mkT 1 [(0, .tup [.int .i64 n, .bool true])], [])) := by kernel_rfl

theorem res_tree1 (E : Nat → Nat → Seg) (n h l a b : Int) : ((callB Try.prog E noS (W E noS noL) 12 [(⟨n, h, l, a, b⟩ : Ac).v, .int .i64 1]).full ⟨hp 0 [], 0, [], []⟩ leafV).take 0 (cs 5 (.x (.c (.leaf [] 1)) (.c (.leaf [] 1)))) =
  (.br (decide (Int.fdiv (wr .i64 l) 9223372036854775808 = h))
  (.leaf (.ret, mkT 1 [(0, .tup [.int .i64 (wr .i64 l), .bool true])], []))
  (.leaf (.ret, mkT 1 [(0, .tup [.int .i64 0, .bool false])], []))) := by kernel_rfl

theorem res_tree2 (E : Nat → Nat → Seg) (n h l a b : Int) : ((callB Try.prog E noS (W E noS noL) 12 [(⟨n, h, l, a, b⟩ : Ac).v, .int .i64 2]).full ⟨hp 0 [], 0, [], []⟩ leafV).take 0 (cs 5 (.leaf [] 1)) =
  (.leaf (.ret, mkT 1 [(0, .tup [.int .i64 a, .bool true])], [])) := by kernel_rfl

theorem res_tree3 (E : Nat → Nat → Seg) (n h l a b : Int) : ((callB Try.prog E noS (W E noS noL) 12 [(⟨n, h, l, a, b⟩ : Ac).v, .int .i64 3]).full ⟨hp 0 [], 0, [], []⟩ leafV).take 0 (cs 5 (.leaf [] 1)) =
  (.leaf (.ret, mkT 1 [(0, .tup [.int .i64 b, .bool true])], [])) := by kernel_rfl

theorem res_none (E : Nat → Nat → Seg) (n h l a b g : Int) : ((callB Try.prog E noS (W E noS noL) 12 [(⟨n, h, l, a, b⟩ : Ac).v, .int .i64 g]).full ⟨hp 0 [], 0, [], []⟩ leafV).take 0 (.x (.c (.c (.c (.leaf [] 1)))) (.c (.t (.leaf [] 1)))) =
  (.br (decide (g < 0))
  (.leaf (.ret, mkT 1 [(0, .tup [.int .i64 0, .bool false])], []))
  (.need (decide (3 < g)) (.leaf (.ret, mkT 1 [(0, .tup [.int .i64 0, .bool false])], [])))) := by kernel_rfl

theorem rres_tree (E : Nat → Nat → Seg) (n h l a b g : Int) : ((callB Try.prog E noS (W E noS noL) 13 [(⟨n, h, l, a, b⟩ : Ac).v, .int .i64 g]).full ⟨hp 0 [], 0, [], []⟩ leafV).take 0 (.x (.leaf [] 1) (.x (.leaf [] 1) (.x (.leaf [] 1) (.x (.x (.c (.c (.x (cs 5 (.leaf [] 1)) (.c (.c (.f (cs 5 (.leaf [] 1)))))))) (cs 6 (.t (.c (.c (.c (.x (.leaf [] 1) (.leaf [] 1)))))))) (.leaf [] 1))))) =
  (.br (decide (g = 0))
  (.leaf (.ret, mkT 1 [(0, .tup [.int .i64 n, .bool true])], []))
  (.br (decide (g = 2))
    (.leaf (.ret, mkT 1 [(0, .tup [.int .i64 a, .bool true])], []))
    (.br (decide (g = 3))
      (.leaf (.ret, mkT 1 [(0, .tup [.int .i64 b, .bool true])], []))
      (.br (decide (g = 1))
        (.br (decide (0 ≤ wr .i64 l))
          (.br (decide (h = 0))
            (.leaf (.ret, mkT 1 [(0, .tup [.int .i64 (wr .i64 l), .bool true])], []))
            (.but (decide (wr .i64 l < 0)) (.leaf (.ret, mkT 1 [(0, .tup [.int .i64 0, .bool false])], []))))
          (.need (decide (wr .i64 l < 0)) (.br (decide (h = -1))
            (.leaf (.ret, mkT 1 [(0, .tup [.int .i64 (wr .i64 l), .bool true])], []))
            (.leaf (.ret, mkT 1 [(0, .tup [.int .i64 0, .bool false])], [])))))
        (.leaf (.ret, mkT 1 [(0, .tup [.int .i64 0, .bool false])], [])))))) := by kernel_rfl

end Go.Proofs.Ytebpekgijakonaa
