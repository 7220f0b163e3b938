/- oper: Check, Class, drafts, as trees. -/
import Derived.Test.YtbfebjmmpiffpaaD04
namespace Go.Proofs.Ytbfebjmmpiffpaa
open Ab
set_option linter.unusedVariables false
theorem check_0 (E : Nat → Nat → Seg) (a b g : Int) : ((callB Try.prog E noS (W E noS noL) 9 [Op4.v ⟨0, a, b, g⟩]).full ⟨hp 0 [], 0, [], []⟩ leafV).take 0 (cs 7 (.x (cs 11 (.leaf [] 1)) (.c (.c (.c (.x (cs 6 (.leaf [] 1)) (cs 5 (.leaf [] 1)))))))) =
  (.br (decide (g < 0))
  (.leaf (.ret, mkT 1 [(0, .int .i64 13)], []))
  (.br (decide (0 < g))
    (.leaf (.ret, mkT 1 [(0, .int .i64 13)], []))
    (.leaf (.ret, mkT 1 [(0, .int .i64 0)], [])))) := by kernel_rfl
theorem check_1 (E : Nat → Nat → Seg) (a b g : Int) : ((callB Try.prog E noS (W E noS noL) 9 [Op4.v ⟨1, a, b, g⟩]).full ⟨hp 0 [], 0, [], []⟩ leafV).take 0 (cs 7 (.x (cs 11 (.leaf [] 1)) (.c (.c (.c (.x (cs 6 (.leaf [] 1)) (.c (.c (.c (.x (.c (.c (.x (.c (.c (.x (.c (.c (.c (.x (.leaf [] 1) (.leaf [] 1))))) (cs 5 (.leaf [] 1))))) (cs 5 (.leaf [] 1))))) (cs 9 (.leaf [] 1)))))))))))) =
  (.br (decide (g < 0))
  (.leaf (.ret, mkT 1 [(0, .int .i64 13)], []))
  (.br (decide (0 < g))
    (.leaf (.ret, mkT 1 [(0, .int .i64 13)], []))
    (.br (decide (1 ≤ a))
      (.br (decide (a ≤ 4294967295))
        (.br (decide (0 ≤ b))
          (.br (!decide (b ≤ 4294967295))
            (.leaf (.ret, mkT 1 [(0, .int .i64 13)], []))
            (.leaf (.ret, mkT 1 [(0, .int .i64 0)], [])))
          (.leaf (.ret, mkT 1 [(0, .int .i64 13)], [])))
        (.leaf (.ret, mkT 1 [(0, .int .i64 13)], [])))
      (.leaf (.ret, mkT 1 [(0, .int .i64 13)], []))))) := by kernel_rfl
theorem check_2 (E : Nat → Nat → Seg) (a b g : Int) : ((callB Try.prog E noS (W E noS noL) 9 [Op4.v ⟨2, a, b, g⟩]).full ⟨hp 0 [], 0, [], []⟩ leafV).take 0 (cs 7 (.x (cs 11 (.leaf [] 1)) (.c (.c (.c (.x (cs 6 (.leaf [] 1)) (.c (.c (.c (.x (.c (.c (.x (cs 5 (.x (.c (.c (.c (.x (.leaf [] 1) (.leaf [] 1))))) (cs 5 (.leaf [] 1)))) (cs 8 (.leaf [] 1))))) (cs 12 (.leaf [] 1)))))))))))) =
  (.br (decide (g < 0))
  (.leaf (.ret, mkT 1 [(0, .int .i64 13)], []))
  (.br (decide (0 < g))
    (.leaf (.ret, mkT 1 [(0, .int .i64 13)], []))
    (.br (decide (1 ≤ a))
      (.br (decide (a ≤ 1073741824))
        (.br (decide (0 ≤ b))
          (.br (!decide (b ≤ wr .i64 (a - 1)))
            (.leaf (.ret, mkT 1 [(0, .int .i64 13)], []))
            (.leaf (.ret, mkT 1 [(0, .int .i64 0)], [])))
          (.leaf (.ret, mkT 1 [(0, .int .i64 13)], [])))
        (.leaf (.ret, mkT 1 [(0, .int .i64 13)], [])))
      (.leaf (.ret, mkT 1 [(0, .int .i64 13)], []))))) := by kernel_rfl
theorem check_3 (E : Nat → Nat → Seg) (a b g : Int) : ((callB Try.prog E noS (W E noS noL) 9 [Op4.v ⟨3, a, b, g⟩]).full ⟨hp 0 [], 0, [], []⟩ leafV).take 0 (cs 7 (.x (cs 11 (.leaf [] 1)) (.c (.c (.c (.x (cs 6 (.leaf [] 1)) (.c (.c (.c (.x (.c (.c (.c (.x (.leaf [] 1) (.leaf [] 1))))) (cs 5 (.leaf [] 1)))))))))))) =
  (.br (decide (g < 0))
  (.leaf (.ret, mkT 1 [(0, .int .i64 13)], []))
  (.br (decide (0 < g))
    (.leaf (.ret, mkT 1 [(0, .int .i64 13)], []))
    (.br (decide (1 ≤ a))
      (.br (!decide (a ≤ 3))
        (.leaf (.ret, mkT 1 [(0, .int .i64 13)], []))
        (.leaf (.ret, mkT 1 [(0, .int .i64 0)], [])))
      (.leaf (.ret, mkT 1 [(0, .int .i64 13)], []))))) := by kernel_rfl
theorem check_4 (E : Nat → Nat → Seg) (a b g : Int) : ((callB Try.prog E noS (W E noS noL) 9 [Op4.v ⟨4, a, b, g⟩]).full ⟨hp 0 [], 0, [], []⟩ leafV).take 0 (cs 7 (.x (cs 11 (.leaf [] 1)) (.c (.c (.c (.x (cs 6 (.leaf [] 1)) (.c (.c (.c (.x (.c (.c (.x (.c (.c (.c (.x (.leaf [] 1) (.leaf [] 1))))) (cs 5 (.leaf [] 1))))) (cs 9 (.leaf [] 1)))))))))))) =
  (.br (decide (g < 0))
  (.leaf (.ret, mkT 1 [(0, .int .i64 13)], []))
  (.br (decide (3 < g))
    (.leaf (.ret, mkT 1 [(0, .int .i64 13)], []))
    (.br (decide (1 ≤ a))
      (.br (decide (a ≤ 1073741824))
        (.br (!decide (b = 0))
          (.leaf (.ret, mkT 1 [(0, .int .i64 13)], []))
          (.leaf (.ret, mkT 1 [(0, .int .i64 0)], [])))
        (.leaf (.ret, mkT 1 [(0, .int .i64 13)], [])))
      (.leaf (.ret, mkT 1 [(0, .int .i64 13)], []))))) := by kernel_rfl
theorem check_5 (E : Nat → Nat → Seg) (a b g : Int) : ((callB Try.prog E noS (W E noS noL) 9 [Op4.v ⟨5, a, b, g⟩]).full ⟨hp 0 [], 0, [], []⟩ leafV).take 0 (cs 7 (.x (cs 11 (.leaf [] 1)) (.c (.c (.c (.x (cs 6 (.leaf [] 1)) (.c (.c (.c (.x (.c (.c (.x (.c (.c (.x (cs 4 (.n (.c (.x (cs 6 (.x (.leaf [] 1) (.leaf [] 1))) (cs 8 (.leaf [] 1)))))) (cs 15 (.leaf [] 1))))) (cs 19 (.leaf [] 1))))) (cs 23 (.leaf [] 1)))))))))))) =
  (.br (decide (g < 0))
  (.leaf (.ret, mkT 1 [(0, .int .i64 13)], []))
  (.br (decide (3 < g))
    (.leaf (.ret, mkT 1 [(0, .int .i64 13)], []))
    (.br (decide (1 ≤ a))
      (.br (decide (a ≤ 1073741824))
        (.br (decide (1 ≤ b))
          (.need (decide ¬b = 0) (.br (decide (Int.tmod a b = 0))
            (.br (!decide (a ≤ wr .i64 (4 * b)))
              (.leaf (.ret, mkT 1 [(0, .int .i64 13)], []))
              (.leaf (.ret, mkT 1 [(0, .int .i64 0)], [])))
            (.leaf (.ret, mkT 1 [(0, .int .i64 13)], []))))
          (.leaf (.ret, mkT 1 [(0, .int .i64 13)], [])))
        (.leaf (.ret, mkT 1 [(0, .int .i64 13)], [])))
      (.leaf (.ret, mkT 1 [(0, .int .i64 13)], []))))) := by kernel_rfl
theorem check_6 (E : Nat → Nat → Seg) (a b g : Int) : ((callB Try.prog E noS (W E noS noL) 9 [Op4.v ⟨6, a, b, g⟩]).full ⟨hp 0 [], 0, [], []⟩ leafV).take 0 (cs 7 (.x (cs 11 (.leaf [] 1)) (.c (.c (.c (.x (cs 6 (.leaf [] 1)) (.c (.c (.c (.x (.c (.c (.x (.c (.c (.c (.x (.leaf [] 1) (.leaf [] 1))))) (cs 5 (.leaf [] 1))))) (cs 9 (.leaf [] 1)))))))))))) =
  (.br (decide (g < 0))
  (.leaf (.ret, mkT 1 [(0, .int .i64 13)], []))
  (.br (decide (3 < g))
    (.leaf (.ret, mkT 1 [(0, .int .i64 13)], []))
    (.br (decide (1 ≤ a))
      (.br (decide (a ≤ 1073741824))
        (.br (!decide (b = 0))
          (.leaf (.ret, mkT 1 [(0, .int .i64 13)], []))
          (.leaf (.ret, mkT 1 [(0, .int .i64 0)], [])))
        (.leaf (.ret, mkT 1 [(0, .int .i64 13)], [])))
      (.leaf (.ret, mkT 1 [(0, .int .i64 13)], []))))) := by kernel_rfl
theorem check_7 (E : Nat → Nat → Seg) (a b g : Int) : ((callB Try.prog E noS (W E noS noL) 9 [Op4.v ⟨7, a, b, g⟩]).full ⟨hp 0 [], 0, [], []⟩ leafV).take 0 (cs 7 (.x (cs 11 (.leaf [] 1)) (.c (.c (.c (.x (cs 6 (.leaf [] 1)) (.c (.c (.c (.x (.c (.c (.x (.c (.c (.c (.x (.leaf [] 1) (.leaf [] 1))))) (cs 5 (.leaf [] 1))))) (cs 9 (.leaf [] 1)))))))))))) =
  (.br (decide (g < 0))
  (.leaf (.ret, mkT 1 [(0, .int .i64 13)], []))
  (.br (decide (0 < g))
    (.leaf (.ret, mkT 1 [(0, .int .i64 13)], []))
    (.br (decide (1 ≤ a))
      (.br (decide (a ≤ 1073741824))
        (.br (!decide (b = 0))
          (.leaf (.ret, mkT 1 [(0, .int .i64 13)], []))
          (.leaf (.ret, mkT 1 [(0, .int .i64 0)], [])))
        (.leaf (.ret, mkT 1 [(0, .int .i64 13)], [])))
      (.leaf (.ret, mkT 1 [(0, .int .i64 13)], []))))) := by kernel_rfl
theorem check_lo (E : Nat → Nat → Seg) (k a b g : Int) : ((callB Try.prog E noS (W E noS noL) 9 [Op4.v ⟨k, a, b, g⟩]).full ⟨hp 0 [], 0, [], []⟩ leafV).take 0 (.t (cs 4 (.leaf [] 1))) =
  (.need (decide (k < 0)) (.leaf (.ret, mkT 1 [(0, .int .i64 13)], []))) := by kernel_rfl
theorem check_hi (E : Nat → Nat → Seg) (k a b g : Int) : ((callB Try.prog E noS (W E noS noL) 9 [Op4.v ⟨k, a, b, g⟩]).full ⟨hp 0 [], 0, [], []⟩ leafV).take 0 (.f (.c (.c (.t (.leaf [] 1))))) =
  (.but (decide (k < 0)) (.need (decide (7 < k)) (.leaf (.ret, mkT 1 [(0, .int .i64 13)], [])))) := by kernel_rfl
theorem may_0 (E : Nat → Nat → Seg) (a b g : Int) : ((callB Try.prog E SC (W E SC noL) 21 [Op4.v ⟨0, a, b, g⟩]).full ⟨hp 0 [], 0, [], []⟩ leafV).take 0 (.c (.n (cs 4 (.x (cs 8 (.leaf [] 1)) (.c (.c (.f (.c (.c (.f (.c (.leaf [] 1)))))))))))) =
  (.need (decide (a = a) && (decide (b = b) && (decide (g = g) && true)) && true && true) (.br (!decide (g = 0))
  (.leaf (.ret, mkT 1 [(0, .bool false)], []))
  (.but (decide (g < 0)) (.but (decide (3 < g)) (.leaf (.ret, mkT 1 [(0, .bool true)], [])))))) := by kernel_rfl
theorem may_1 (E : Nat → Nat → Seg) (a b g : Int) : ((callB Try.prog E SC (W E SC noL) 21 [Op4.v ⟨1, a, b, g⟩]).full ⟨hp 0 [], 0, [], []⟩ leafV).take 0 (.c (.n (cs 4 (.x (cs 8 (.leaf [] 1)) (.c (.c (.f (.c (.c (.f (.c (.c (.x (.c (.c (.x (.c (.c (.x (.c (.c (.leaf [] 1))) (.c (.c (.c (.leaf [] 1))))))) (.c (.c (.c (.leaf [] 1))))))) (cs 7 (.leaf [] 1))))))))))))))) =
  (.need (decide (a = a) && (decide (b = b) && (decide (g = g) && true)) && true && true) (.br (!decide (g = 0))
  (.leaf (.ret, mkT 1 [(0, .bool false)], []))
  (.but (decide (g < 0)) (.but (decide (3 < g)) (.br (decide (1 ≤ a))
    (.br (decide (a ≤ 4294967295))
      (.br (decide (0 ≤ b))
        (.leaf (.ret, mkT 1 [(0, .bool (decide (b ≤ 4294967295)))], []))
        (.leaf (.ret, mkT 1 [(0, .bool false)], [])))
      (.leaf (.ret, mkT 1 [(0, .bool false)], [])))
    (.leaf (.ret, mkT 1 [(0, .bool false)], []))))))) := by kernel_rfl
theorem may_2 (E : Nat → Nat → Seg) (a b g : Int) : ((callB Try.prog E SC (W E SC noL) 21 [Op4.v ⟨2, a, b, g⟩]).full ⟨hp 0 [], 0, [], []⟩ leafV).take 0 (.c (.n (cs 4 (.x (cs 8 (.leaf [] 1)) (.c (.c (.f (.c (.c (.f (.c (.c (.c (.x (.c (.c (.x (cs 5 (.x (.c (.c (.leaf [] 1))) (.c (.c (.c (.leaf [] 1)))))) (cs 6 (.leaf [] 1))))) (cs 10 (.leaf [] 1)))))))))))))))) =
  (.need (decide (a = a) && (decide (b = b) && (decide (g = g) && true)) && true && true) (.br (!decide (g = 0))
  (.leaf (.ret, mkT 1 [(0, .bool false)], []))
  (.but (decide (g < 0)) (.but (decide (3 < g)) (.br (decide (1 ≤ a))
    (.br (decide (a ≤ 1073741824))
      (.br (decide (0 ≤ b))
        (.leaf (.ret, mkT 1 [(0, .bool (decide (b ≤ wr .i64 (a - 1))))], []))
        (.leaf (.ret, mkT 1 [(0, .bool false)], [])))
      (.leaf (.ret, mkT 1 [(0, .bool false)], [])))
    (.leaf (.ret, mkT 1 [(0, .bool false)], []))))))) := by kernel_rfl
theorem may_3 (E : Nat → Nat → Seg) (a b g : Int) : ((callB Try.prog E SC (W E SC noL) 21 [Op4.v ⟨3, a, b, g⟩]).full ⟨hp 0 [], 0, [], []⟩ leafV).take 0 (.c (.n (cs 4 (.x (cs 8 (.leaf [] 1)) (.c (.c (.f (.c (.c (.f (cs 4 (.x (.c (.c (.leaf [] 1))) (.c (.c (.c (.leaf [] 1)))))))))))))))) =
  (.need (decide (a = a) && (decide (b = b) && (decide (g = g) && true)) && true && true) (.br (!decide (g = 0))
  (.leaf (.ret, mkT 1 [(0, .bool false)], []))
  (.but (decide (g < 0)) (.but (decide (3 < g)) (.br (decide (1 ≤ a))
    (.leaf (.ret, mkT 1 [(0, .bool (decide (a ≤ 3)))], []))
    (.leaf (.ret, mkT 1 [(0, .bool false)], []))))))) := by kernel_rfl
theorem may_4 (E : Nat → Nat → Seg) (a b g : Int) : ((callB Try.prog E SC (W E SC noL) 21 [Op4.v ⟨4, a, b, g⟩]).full ⟨hp 0 [], 0, [], []⟩ leafV).take 0 (.c (.n (cs 8 (.x (cs 4 (.leaf [] 1)) (.c (.c (.x (.leaf [] 1) (cs 6 (.x (.c (.c (.x (.c (.c (.leaf [] 1))) (.c (.c (.c (.leaf [] 1))))))) (cs 7 (.leaf [] 1))))))))))) =
  (.need (decide (a = a) && (decide (b = b) && (decide (g = g) && true)) && true && true) (.br (decide (g < 0))
  (.leaf (.ret, mkT 1 [(0, .bool false)], []))
  (.br (decide (3 < g))
    (.leaf (.ret, mkT 1 [(0, .bool false)], []))
    (.br (decide (1 ≤ a))
      (.br (decide (a ≤ 1073741824))
        (.leaf (.ret, mkT 1 [(0, .bool (decide (b = 0)))], []))
        (.leaf (.ret, mkT 1 [(0, .bool false)], [])))
      (.leaf (.ret, mkT 1 [(0, .bool false)], [])))))) := by kernel_rfl
theorem may_5 (E : Nat → Nat → Seg) (a b g : Int) : ((callB Try.prog E SC (W E SC noL) 21 [Op4.v ⟨5, a, b, g⟩]).full ⟨hp 0 [], 0, [], []⟩ leafV).take 0 (.c (.n (cs 8 (.x (cs 4 (.leaf [] 1)) (.c (.c (.x (.leaf [] 1) (cs 8 (.x (.c (.c (.x (.c (.c (.x (cs 4 (.n (.c (.x (cs 4 (.n (.c (.leaf [] 1)))) (cs 6 (.leaf [] 1)))))) (cs 13 (.leaf [] 1))))) (cs 17 (.leaf [] 1))))) (cs 21 (.leaf [] 1))))))))))) =
  (.need (decide (a = a) && (decide (b = b) && (decide (g = g) && true)) && true && true) (.br (decide (g < 0))
  (.leaf (.ret, mkT 1 [(0, .bool false)], []))
  (.br (decide (3 < g))
    (.leaf (.ret, mkT 1 [(0, .bool false)], []))
    (.br (decide (1 ≤ a))
      (.br (decide (a ≤ 1073741824))
        (.br (decide (0 < b))
          (.need (decide ¬b = 0) (.br (decide (Int.tmod a b = 0))
            (.need (decide ¬b = 0) (.leaf (.ret, mkT 1 [(0, .bool (decide (wr .i64 (Int.tdiv a b) ≤ 4)))], [])))
            (.leaf (.ret, mkT 1 [(0, .bool false)], []))))
          (.leaf (.ret, mkT 1 [(0, .bool false)], [])))
        (.leaf (.ret, mkT 1 [(0, .bool false)], [])))
      (.leaf (.ret, mkT 1 [(0, .bool false)], [])))))) := by kernel_rfl
theorem may_6 (E : Nat → Nat → Seg) (a b g : Int) : ((callB Try.prog E SC (W E SC noL) 21 [Op4.v ⟨6, a, b, g⟩]).full ⟨hp 0 [], 0, [], []⟩ leafV).take 0 (.c (.n (cs 8 (.x (cs 4 (.leaf [] 1)) (.c (.c (.x (.leaf [] 1) (cs 7 (.x (.c (.c (.x (.c (.c (.leaf [] 1))) (.c (.c (.c (.leaf [] 1))))))) (cs 7 (.leaf [] 1))))))))))) =
  (.need (decide (a = a) && (decide (b = b) && (decide (g = g) && true)) && true && true) (.br (decide (g < 0))
  (.leaf (.ret, mkT 1 [(0, .bool false)], []))
  (.br (decide (3 < g))
    (.leaf (.ret, mkT 1 [(0, .bool false)], []))
    (.br (decide (1 ≤ a))
      (.br (decide (a ≤ 1073741824))
        (.leaf (.ret, mkT 1 [(0, .bool (decide (b = 0)))], []))
        (.leaf (.ret, mkT 1 [(0, .bool false)], [])))
      (.leaf (.ret, mkT 1 [(0, .bool false)], [])))))) := by kernel_rfl
theorem may_7 (E : Nat → Nat → Seg) (a b g : Int) : ((callB Try.prog E SC (W E SC noL) 21 [Op4.v ⟨7, a, b, g⟩]).full ⟨hp 0 [], 0, [], []⟩ leafV).take 0 (.c (.n (cs 4 (.x (cs 8 (.leaf [] 1)) (.c (.c (.f (.c (.c (.f (cs 7 (.x (.c (.c (.x (.c (.c (.leaf [] 1))) (.c (.c (.c (.leaf [] 1))))))) (cs 7 (.leaf [] 1)))))))))))))) =
  (.need (decide (a = a) && (decide (b = b) && (decide (g = g) && true)) && true && true) (.br (!decide (g = 0))
  (.leaf (.ret, mkT 1 [(0, .bool false)], []))
  (.but (decide (g < 0)) (.but (decide (3 < g)) (.br (decide (1 ≤ a))
    (.br (decide (a ≤ 1073741824))
      (.leaf (.ret, mkT 1 [(0, .bool (decide (b = 0)))], []))
      (.leaf (.ret, mkT 1 [(0, .bool false)], [])))
    (.leaf (.ret, mkT 1 [(0, .bool false)], []))))))) := by kernel_rfl
theorem may_lo (E : Nat → Nat → Seg) (k a b g : Int) : ((callB Try.prog E SC (W E SC noL) 21 [Op4.v ⟨k, a, b, g⟩]).full ⟨hp 0 [], 0, [], []⟩ leafV).take 0 (.c (.n (.c (.x (.c (.c (.x (cs 8 (.leaf [] 1)) (.c (.c (.f (.c (.c (.f (.f (.f (.f (.f (.f (.f (.f (.f (.leaf [] 1)))))))))))))))))) (cs 6 (.x (cs 4 (.leaf [] 1)) (.c (.c (.x (.leaf [] 1) (.f (.f (.f (.f (.f (.f (.f (.f (.leaf [] 1)))))))))))))))))) =
  (.need (decide (k = k) && (decide (a = a) && (decide (b = b) && (decide (g = g) && true))) && true && true) (.br (!decide (classE { k := k, a := a, b := b, g := g } = 1))
  (.br (!decide (g = 0))
    (.leaf (.ret, mkT 1 [(0, .bool false)], []))
    (.but (decide (g < 0)) (.but (decide (3 < g)) (.but (decide (k = 0)) (.but (decide (k = 1)) (.but (decide (k = 2)) (.but (decide (k = 3)) (.but (decide (k = 4)) (.but (decide (k = 6)) (.but (decide (k = 7)) (.but (decide (k = 5)) (.leaf (.ret, mkT 1 [(0, .bool false)], [])))))))))))))
  (.br (decide (g < 0))
    (.leaf (.ret, mkT 1 [(0, .bool false)], []))
    (.br (decide (3 < g))
      (.leaf (.ret, mkT 1 [(0, .bool false)], []))
      (.but (decide (k = 0)) (.but (decide (k = 1)) (.but (decide (k = 2)) (.but (decide (k = 3)) (.but (decide (k = 4)) (.but (decide (k = 6)) (.but (decide (k = 7)) (.but (decide (k = 5)) (.leaf (.ret, mkT 1 [(0, .bool false)], [])))))))))))))) := by kernel_rfl
theorem may_hi (E : Nat → Nat → Seg) (k a b g : Int) : ((callB Try.prog E SC (W E SC noL) 21 [Op4.v ⟨k, a, b, g⟩]).full ⟨hp 0 [], 0, [], []⟩ leafV).take 0 (.c (.n (.c (.x (.c (.c (.x (cs 8 (.leaf [] 1)) (.c (.c (.f (.c (.c (.f (.f (.f (.f (.f (.f (.f (.f (.f (.leaf [] 1)))))))))))))))))) (cs 6 (.x (cs 4 (.leaf [] 1)) (.c (.c (.x (.leaf [] 1) (.f (.f (.f (.f (.f (.f (.f (.f (.leaf [] 1)))))))))))))))))) =
  (.need (decide (k = k) && (decide (a = a) && (decide (b = b) && (decide (g = g) && true))) && true && true) (.br (!decide (classE { k := k, a := a, b := b, g := g } = 1))
  (.br (!decide (g = 0))
    (.leaf (.ret, mkT 1 [(0, .bool false)], []))
    (.but (decide (g < 0)) (.but (decide (3 < g)) (.but (decide (k = 0)) (.but (decide (k = 1)) (.but (decide (k = 2)) (.but (decide (k = 3)) (.but (decide (k = 4)) (.but (decide (k = 6)) (.but (decide (k = 7)) (.but (decide (k = 5)) (.leaf (.ret, mkT 1 [(0, .bool false)], [])))))))))))))
  (.br (decide (g < 0))
    (.leaf (.ret, mkT 1 [(0, .bool false)], []))
    (.br (decide (3 < g))
      (.leaf (.ret, mkT 1 [(0, .bool false)], []))
      (.but (decide (k = 0)) (.but (decide (k = 1)) (.but (decide (k = 2)) (.but (decide (k = 3)) (.but (decide (k = 4)) (.but (decide (k = 6)) (.but (decide (k = 7)) (.but (decide (k = 5)) (.leaf (.ret, mkT 1 [(0, .bool false)], [])))))))))))))) := by kernel_rfl
theorem class_0 (E : Nat → Nat → Seg) (a b g : Int) : ((callB Try.prog E noS (W E noS noL) 11 [Op4.v ⟨0, a, b, g⟩]).full ⟨hp 0 [], 0, [], []⟩ leafV).take 0 (cs 6 (.leaf [] 1)) =
  (.leaf (.ret, mkT 1 [(0, .int .i64 0)], [])) := by kernel_rfl
theorem class_1 (E : Nat → Nat → Seg) (a b g : Int) : ((callB Try.prog E noS (W E noS noL) 11 [Op4.v ⟨1, a, b, g⟩]).full ⟨hp 0 [], 0, [], []⟩ leafV).take 0 (cs 6 (.leaf [] 1)) =
  (.leaf (.ret, mkT 1 [(0, .int .i64 0)], [])) := by kernel_rfl
theorem class_2 (E : Nat → Nat → Seg) (a b g : Int) : ((callB Try.prog E noS (W E noS noL) 11 [Op4.v ⟨2, a, b, g⟩]).full ⟨hp 0 [], 0, [], []⟩ leafV).take 0 (cs 6 (.leaf [] 1)) =
  (.leaf (.ret, mkT 1 [(0, .int .i64 0)], [])) := by kernel_rfl
theorem class_3 (E : Nat → Nat → Seg) (a b g : Int) : ((callB Try.prog E noS (W E noS noL) 11 [Op4.v ⟨3, a, b, g⟩]).full ⟨hp 0 [], 0, [], []⟩ leafV).take 0 (cs 6 (.leaf [] 1)) =
  (.leaf (.ret, mkT 1 [(0, .int .i64 0)], [])) := by kernel_rfl
theorem class_4 (E : Nat → Nat → Seg) (a b g : Int) : ((callB Try.prog E noS (W E noS noL) 11 [Op4.v ⟨4, a, b, g⟩]).full ⟨hp 0 [], 0, [], []⟩ leafV).take 0 (cs 6 (.leaf [] 1)) =
  (.leaf (.ret, mkT 1 [(0, .int .i64 1)], [])) := by kernel_rfl
theorem class_5 (E : Nat → Nat → Seg) (a b g : Int) : ((callB Try.prog E noS (W E noS noL) 11 [Op4.v ⟨5, a, b, g⟩]).full ⟨hp 0 [], 0, [], []⟩ leafV).take 0 (cs 6 (.leaf [] 1)) =
  (.leaf (.ret, mkT 1 [(0, .int .i64 1)], [])) := by kernel_rfl
theorem class_6 (E : Nat → Nat → Seg) (a b g : Int) : ((callB Try.prog E noS (W E noS noL) 11 [Op4.v ⟨6, a, b, g⟩]).full ⟨hp 0 [], 0, [], []⟩ leafV).take 0 (cs 6 (.leaf [] 1)) =
  (.leaf (.ret, mkT 1 [(0, .int .i64 1)], [])) := by kernel_rfl
theorem class_7 (E : Nat → Nat → Seg) (a b g : Int) : ((callB Try.prog E noS (W E noS noL) 11 [Op4.v ⟨7, a, b, g⟩]).full ⟨hp 0 [], 0, [], []⟩ leafV).take 0 (cs 6 (.leaf [] 1)) =
  (.leaf (.ret, mkT 1 [(0, .int .i64 2)], [])) := by kernel_rfl
theorem class_lo (E : Nat → Nat → Seg) (k a b g : Int) : ((callB Try.prog E noS (W E noS noL) 11 [Op4.v ⟨k, a, b, g⟩]).full ⟨hp 0 [], 0, [], []⟩ leafV).take 0 (.t (cs 4 (.leaf [] 1))) =
  (.need (decide (k < 0)) (.leaf (.ret, mkT 1 [(0, .int .i64 (-1))], []))) := by kernel_rfl
theorem class_hi (E : Nat → Nat → Seg) (k a b g : Int) : ((callB Try.prog E noS (W E noS noL) 11 [Op4.v ⟨k, a, b, g⟩]).full ⟨hp 0 [], 0, [], []⟩ leafV).take 0 (.f (.c (.c (.t (.leaf [] 1))))) =
  (.but (decide (k < 0)) (.need (decide (7 < k)) (.leaf (.ret, mkT 1 [(0, .int .i64 (-1))], [])))) := by kernel_rfl
theorem rclass (E : Nat → Nat → Seg) (k a b g : Int) : ((callB Try.prog E noS (W E noS noL) 12 [Op4.v ⟨k, a, b, g⟩]).full ⟨hp 0 [], 0, [], []⟩ leafV).take 0 (.x (.t (.leaf [] 1)) (.x (.t (.leaf [] 1)) (.x (.t (.leaf [] 1)) (.x (.leaf [] 1) (.x (.t (.leaf [] 1)) (.x (.t (.leaf [] 1)) (.x (.leaf [] 1) (.x (.leaf [] 1) (.leaf [] 1))))))))) =
  (.br (decide (k = 0))
  (.need (decide (k = 0)) (.leaf (.ret, mkT 1 [(0, .int .i64 0)], [])))
  (.br (decide (k = 1))
    (.need (decide (k = 1)) (.leaf (.ret, mkT 1 [(0, .int .i64 0)], [])))
    (.br (decide (k = 2))
      (.need (decide (k = 2)) (.leaf (.ret, mkT 1 [(0, .int .i64 0)], [])))
      (.br (decide (k = 3))
        (.leaf (.ret, mkT 1 [(0, .int .i64 0)], []))
        (.br (decide (k = 4))
          (.need (decide (k = 4)) (.leaf (.ret, mkT 1 [(0, .int .i64 1)], [])))
          (.br (decide (k = 5))
            (.need (decide (k = 5)) (.leaf (.ret, mkT 1 [(0, .int .i64 1)], [])))
            (.br (decide (k = 6))
              (.leaf (.ret, mkT 1 [(0, .int .i64 1)], []))
              (.br (decide (k = 7))
                (.leaf (.ret, mkT 1 [(0, .int .i64 2)], []))
                (.leaf (.ret, mkT 1 [(0, .int .i64 (-1))], [])))))))))) := by kernel_rfl
theorem drafted (E : Nat → Nat → Seg) (w a b g : Int) (odd : Bool) : ((callB Try.prog E noS (W E noS noL) 8 [Dr.v ⟨w, a, b, g, odd⟩]).full ⟨hp 0 [], 0, [], []⟩ leafV).take 0 (.c (.x (.c (.c (.leaf [] 1))) (.x (cs 4 (.x (cs 9 (.leaf [] 1)) (.c (.c (.x (cs 5 (.leaf [] 1)) (.c (.c (.x (.c (.leaf [] 1)) (.leaf [] 1))))))))) (.x (.c (.c (.n (.n (.x (cs 9 (.leaf [] 1)) (.c (.c (.x (cs 5 (.leaf [] 1)) (.c (.c (.x (.c (.leaf [] 1)) (.leaf [] 1)))))))))))) (.x (.c (.c (.x (cs 9 (.leaf [] 1)) (.c (.c (.x (cs 5 (.leaf [] 1)) (.c (.c (.x (.c (.leaf [] 1)) (.leaf [] 1)))))))))) (.x (.t (.c (.c (.x (cs 9 (.leaf [] 1)) (.c (.c (.x (cs 5 (.leaf [] 1)) (.c (.c (.x (.c (.leaf [] 1)) (.leaf [] 1))))))))))) (.x (.t (.c (.c (.x (cs 9 (.leaf [] 1)) (.c (.c (.x (cs 5 (.leaf [] 1)) (.c (.c (.x (.c (.leaf [] 1)) (.leaf [] 1))))))))))) (.x (.c (.c (.x (cs 9 (.leaf [] 1)) (.c (.c (.x (cs 5 (.leaf [] 1)) (.c (.c (.x (.c (.leaf [] 1)) (.leaf [] 1)))))))))) (.x (cs 5 (.x (cs 9 (.leaf [] 1)) (.c (.c (.x (cs 5 (.leaf [] 1)) (.c (.c (.x (.c (.leaf [] 1)) (.leaf [] 1))))))))) (.x (cs 9 (.leaf [] 1)) (.c (.c (.x (cs 5 (.leaf [] 1)) (.c (.c (.x (.c (.leaf [] 1)) (.leaf [] 1))))))))))))))))) =
  (.br (odd)
  (.leaf (.ret, mkT 1 [(0, .agg [.int .i64 (wr .i64 (wr .i64 (Int.tmod w 12) - 2)), .int .i64 a, .int .i64 b, .int .i64 (wr .i64 (wr .i64 (Int.tmod g 6) - 1))])], []))
  (.br (decide (wr .i64 (Int.tmod w 8) = 1))
    (.br (decide (wr .i64 (Int.tmod w 8) = 4))
      (.leaf (.ret, mkT 1 [(0, .agg [.int .i64 (wr .i64 (Int.tmod w 8)), .int .i64 (wr .i64 (1 + Int.tmod (wr .i64 (Int.tmod a 4294967295 + 4294967295)) 4294967295)), .int .i64 (Int.tmod (wr .i64 (Int.tmod b 4294967296 + 4294967296)) 4294967296), .int .i64 (wr .i64 (Int.tmod g 4))])], []))
      (.br (decide (wr .i64 (Int.tmod w 8) = 5))
        (.leaf (.ret, mkT 1 [(0, .agg [.int .i64 (wr .i64 (Int.tmod w 8)), .int .i64 (wr .i64 (1 + Int.tmod (wr .i64 (Int.tmod a 4294967295 + 4294967295)) 4294967295)), .int .i64 (Int.tmod (wr .i64 (Int.tmod b 4294967296 + 4294967296)) 4294967296), .int .i64 (wr .i64 (Int.tmod g 4))])], []))
        (.br (decide (wr .i64 (Int.tmod w 8) = 6))
          (.leaf (.ret, mkT 1 [(0, .agg [.int .i64 (wr .i64 (Int.tmod w 8)), .int .i64 (wr .i64 (1 + Int.tmod (wr .i64 (Int.tmod a 4294967295 + 4294967295)) 4294967295)), .int .i64 (Int.tmod (wr .i64 (Int.tmod b 4294967296 + 4294967296)) 4294967296), .int .i64 (wr .i64 (Int.tmod g 4))])], []))
          (.leaf (.ret, mkT 1 [(0, .agg [.int .i64 (wr .i64 (Int.tmod w 8)), .int .i64 (wr .i64 (1 + Int.tmod (wr .i64 (Int.tmod a 4294967295 + 4294967295)) 4294967295)), .int .i64 (Int.tmod (wr .i64 (Int.tmod b 4294967296 + 4294967296)) 4294967296), .int .i64 0])], [])))))
    (.br (decide (wr .i64 (Int.tmod w 8) = 2))
      (.need (decide ¬wr .i64 (1 + Int.tmod (wr .i64 (Int.tmod a 20 + 20)) 20) = 0) (.need (decide ¬wr .i64 (1 + Int.tmod (wr .i64 (Int.tmod a 20 + 20)) 20) = 0) (.br (decide (wr .i64 (Int.tmod w 8) = 4))
        (.leaf (.ret, mkT 1 [(0, .agg [.int .i64 (wr .i64 (Int.tmod w 8)), .int .i64 (wr .i64 (1 + Int.tmod (wr .i64 (Int.tmod a 20 + 20)) 20)), .int .i64 (Int.tmod (wr .i64 (Int.tmod b (wr .i64 (1 + Int.tmod (wr .i64 (Int.tmod a 20 + 20)) 20)) + wr .i64 (1 + Int.tmod (wr .i64 (Int.tmod a 20 + 20)) 20))) (wr .i64 (1 + Int.tmod (wr .i64 (Int.tmod a 20 + 20)) 20))), .int .i64 (wr .i64 (Int.tmod g 4))])], []))
        (.br (decide (wr .i64 (Int.tmod w 8) = 5))
          (.leaf (.ret, mkT 1 [(0, .agg [.int .i64 (wr .i64 (Int.tmod w 8)), .int .i64 (wr .i64 (1 + Int.tmod (wr .i64 (Int.tmod a 20 + 20)) 20)), .int .i64 (Int.tmod (wr .i64 (Int.tmod b (wr .i64 (1 + Int.tmod (wr .i64 (Int.tmod a 20 + 20)) 20)) + wr .i64 (1 + Int.tmod (wr .i64 (Int.tmod a 20 + 20)) 20))) (wr .i64 (1 + Int.tmod (wr .i64 (Int.tmod a 20 + 20)) 20))), .int .i64 (wr .i64 (Int.tmod g 4))])], []))
          (.br (decide (wr .i64 (Int.tmod w 8) = 6))
            (.leaf (.ret, mkT 1 [(0, .agg [.int .i64 (wr .i64 (Int.tmod w 8)), .int .i64 (wr .i64 (1 + Int.tmod (wr .i64 (Int.tmod a 20 + 20)) 20)), .int .i64 (Int.tmod (wr .i64 (Int.tmod b (wr .i64 (1 + Int.tmod (wr .i64 (Int.tmod a 20 + 20)) 20)) + wr .i64 (1 + Int.tmod (wr .i64 (Int.tmod a 20 + 20)) 20))) (wr .i64 (1 + Int.tmod (wr .i64 (Int.tmod a 20 + 20)) 20))), .int .i64 (wr .i64 (Int.tmod g 4))])], []))
            (.leaf (.ret, mkT 1 [(0, .agg [.int .i64 (wr .i64 (Int.tmod w 8)), .int .i64 (wr .i64 (1 + Int.tmod (wr .i64 (Int.tmod a 20 + 20)) 20)), .int .i64 (Int.tmod (wr .i64 (Int.tmod b (wr .i64 (1 + Int.tmod (wr .i64 (Int.tmod a 20 + 20)) 20)) + wr .i64 (1 + Int.tmod (wr .i64 (Int.tmod a 20 + 20)) 20))) (wr .i64 (1 + Int.tmod (wr .i64 (Int.tmod a 20 + 20)) 20))), .int .i64 0])], [])))))))
      (.br (decide (wr .i64 (Int.tmod w 8) = 3))
        (.br (decide (wr .i64 (Int.tmod w 8) = 4))
          (.leaf (.ret, mkT 1 [(0, .agg [.int .i64 (wr .i64 (Int.tmod w 8)), .int .i64 (wr .i64 (1 + Int.tmod (wr .i64 (Int.tmod a 3 + 3)) 3)), .int .i64 b, .int .i64 (wr .i64 (Int.tmod g 4))])], []))
          (.br (decide (wr .i64 (Int.tmod w 8) = 5))
            (.leaf (.ret, mkT 1 [(0, .agg [.int .i64 (wr .i64 (Int.tmod w 8)), .int .i64 (wr .i64 (1 + Int.tmod (wr .i64 (Int.tmod a 3 + 3)) 3)), .int .i64 b, .int .i64 (wr .i64 (Int.tmod g 4))])], []))
            (.br (decide (wr .i64 (Int.tmod w 8) = 6))
              (.leaf (.ret, mkT 1 [(0, .agg [.int .i64 (wr .i64 (Int.tmod w 8)), .int .i64 (wr .i64 (1 + Int.tmod (wr .i64 (Int.tmod a 3 + 3)) 3)), .int .i64 b, .int .i64 (wr .i64 (Int.tmod g 4))])], []))
              (.leaf (.ret, mkT 1 [(0, .agg [.int .i64 (wr .i64 (Int.tmod w 8)), .int .i64 (wr .i64 (1 + Int.tmod (wr .i64 (Int.tmod a 3 + 3)) 3)), .int .i64 b, .int .i64 0])], [])))))
        (.br (decide (wr .i64 (Int.tmod w 8) = 4))
          (.need (decide (wr .i64 (Int.tmod w 8) = 4)) (.br (decide (wr .i64 (Int.tmod w 8) = 4))
            (.leaf (.ret, mkT 1 [(0, .agg [.int .i64 (wr .i64 (Int.tmod w 8)), .int .i64 (wr .i64 (1 + Int.tmod (wr .i64 (Int.tmod a 1073741824 + 1073741824)) 1073741824)), .int .i64 0, .int .i64 (wr .i64 (Int.tmod g 4))])], []))
            (.br (decide (wr .i64 (Int.tmod w 8) = 5))
              (.leaf (.ret, mkT 1 [(0, .agg [.int .i64 (wr .i64 (Int.tmod w 8)), .int .i64 (wr .i64 (1 + Int.tmod (wr .i64 (Int.tmod a 1073741824 + 1073741824)) 1073741824)), .int .i64 0, .int .i64 (wr .i64 (Int.tmod g 4))])], []))
              (.br (decide (wr .i64 (Int.tmod w 8) = 6))
                (.leaf (.ret, mkT 1 [(0, .agg [.int .i64 (wr .i64 (Int.tmod w 8)), .int .i64 (wr .i64 (1 + Int.tmod (wr .i64 (Int.tmod a 1073741824 + 1073741824)) 1073741824)), .int .i64 0, .int .i64 (wr .i64 (Int.tmod g 4))])], []))
                (.leaf (.ret, mkT 1 [(0, .agg [.int .i64 (wr .i64 (Int.tmod w 8)), .int .i64 (wr .i64 (1 + Int.tmod (wr .i64 (Int.tmod a 1073741824 + 1073741824)) 1073741824)), .int .i64 0, .int .i64 0])], []))))))
          (.br (decide (wr .i64 (Int.tmod w 8) = 6))
            (.need (decide (wr .i64 (Int.tmod w 8) = 6)) (.br (decide (wr .i64 (Int.tmod w 8) = 4))
              (.leaf (.ret, mkT 1 [(0, .agg [.int .i64 (wr .i64 (Int.tmod w 8)), .int .i64 (wr .i64 (1 + Int.tmod (wr .i64 (Int.tmod a 1073741824 + 1073741824)) 1073741824)), .int .i64 0, .int .i64 (wr .i64 (Int.tmod g 4))])], []))
              (.br (decide (wr .i64 (Int.tmod w 8) = 5))
                (.leaf (.ret, mkT 1 [(0, .agg [.int .i64 (wr .i64 (Int.tmod w 8)), .int .i64 (wr .i64 (1 + Int.tmod (wr .i64 (Int.tmod a 1073741824 + 1073741824)) 1073741824)), .int .i64 0, .int .i64 (wr .i64 (Int.tmod g 4))])], []))
                (.br (decide (wr .i64 (Int.tmod w 8) = 6))
                  (.leaf (.ret, mkT 1 [(0, .agg [.int .i64 (wr .i64 (Int.tmod w 8)), .int .i64 (wr .i64 (1 + Int.tmod (wr .i64 (Int.tmod a 1073741824 + 1073741824)) 1073741824)), .int .i64 0, .int .i64 (wr .i64 (Int.tmod g 4))])], []))
                  (.leaf (.ret, mkT 1 [(0, .agg [.int .i64 (wr .i64 (Int.tmod w 8)), .int .i64 (wr .i64 (1 + Int.tmod (wr .i64 (Int.tmod a 1073741824 + 1073741824)) 1073741824)), .int .i64 0, .int .i64 0])], []))))))
            (.br (decide (wr .i64 (Int.tmod w 8) = 7))
              (.br (decide (wr .i64 (Int.tmod w 8) = 4))
                (.leaf (.ret, mkT 1 [(0, .agg [.int .i64 (wr .i64 (Int.tmod w 8)), .int .i64 (wr .i64 (1 + Int.tmod (wr .i64 (Int.tmod a 1073741824 + 1073741824)) 1073741824)), .int .i64 0, .int .i64 (wr .i64 (Int.tmod g 4))])], []))
                (.br (decide (wr .i64 (Int.tmod w 8) = 5))
                  (.leaf (.ret, mkT 1 [(0, .agg [.int .i64 (wr .i64 (Int.tmod w 8)), .int .i64 (wr .i64 (1 + Int.tmod (wr .i64 (Int.tmod a 1073741824 + 1073741824)) 1073741824)), .int .i64 0, .int .i64 (wr .i64 (Int.tmod g 4))])], []))
                  (.br (decide (wr .i64 (Int.tmod w 8) = 6))
                    (.leaf (.ret, mkT 1 [(0, .agg [.int .i64 (wr .i64 (Int.tmod w 8)), .int .i64 (wr .i64 (1 + Int.tmod (wr .i64 (Int.tmod a 1073741824 + 1073741824)) 1073741824)), .int .i64 0, .int .i64 (wr .i64 (Int.tmod g 4))])], []))
                    (.leaf (.ret, mkT 1 [(0, .agg [.int .i64 (wr .i64 (Int.tmod w 8)), .int .i64 (wr .i64 (1 + Int.tmod (wr .i64 (Int.tmod a 1073741824 + 1073741824)) 1073741824)), .int .i64 0, .int .i64 0])], [])))))
              (.br (decide (wr .i64 (Int.tmod w 8) = 5))
                (.br (decide (wr .i64 (Int.tmod w 8) = 4))
                  (.leaf (.ret, mkT 1 [(0, .agg [.int .i64 (wr .i64 (Int.tmod w 8)), .int .i64 (wr .i64 (wr .i64 (1 + Int.tmod (wr .i64 (Int.tmod b 268435456 + 268435456)) 268435456) * wr .i64 (1 + Int.tmod (wr .i64 (Int.tmod a 4 + 4)) 4))), .int .i64 (wr .i64 (1 + Int.tmod (wr .i64 (Int.tmod b 268435456 + 268435456)) 268435456)), .int .i64 (wr .i64 (Int.tmod g 4))])], []))
                  (.br (decide (wr .i64 (Int.tmod w 8) = 5))
                    (.leaf (.ret, mkT 1 [(0, .agg [.int .i64 (wr .i64 (Int.tmod w 8)), .int .i64 (wr .i64 (wr .i64 (1 + Int.tmod (wr .i64 (Int.tmod b 268435456 + 268435456)) 268435456) * wr .i64 (1 + Int.tmod (wr .i64 (Int.tmod a 4 + 4)) 4))), .int .i64 (wr .i64 (1 + Int.tmod (wr .i64 (Int.tmod b 268435456 + 268435456)) 268435456)), .int .i64 (wr .i64 (Int.tmod g 4))])], []))
                    (.br (decide (wr .i64 (Int.tmod w 8) = 6))
                      (.leaf (.ret, mkT 1 [(0, .agg [.int .i64 (wr .i64 (Int.tmod w 8)), .int .i64 (wr .i64 (wr .i64 (1 + Int.tmod (wr .i64 (Int.tmod b 268435456 + 268435456)) 268435456) * wr .i64 (1 + Int.tmod (wr .i64 (Int.tmod a 4 + 4)) 4))), .int .i64 (wr .i64 (1 + Int.tmod (wr .i64 (Int.tmod b 268435456 + 268435456)) 268435456)), .int .i64 (wr .i64 (Int.tmod g 4))])], []))
                      (.leaf (.ret, mkT 1 [(0, .agg [.int .i64 (wr .i64 (Int.tmod w 8)), .int .i64 (wr .i64 (wr .i64 (1 + Int.tmod (wr .i64 (Int.tmod b 268435456 + 268435456)) 268435456) * wr .i64 (1 + Int.tmod (wr .i64 (Int.tmod a 4 + 4)) 4))), .int .i64 (wr .i64 (1 + Int.tmod (wr .i64 (Int.tmod b 268435456 + 268435456)) 268435456)), .int .i64 0])], [])))))
                (.br (decide (wr .i64 (Int.tmod w 8) = 4))
                  (.leaf (.ret, mkT 1 [(0, .agg [.int .i64 (wr .i64 (Int.tmod w 8)), .int .i64 a, .int .i64 b, .int .i64 (wr .i64 (Int.tmod g 4))])], []))
                  (.br (decide (wr .i64 (Int.tmod w 8) = 5))
                    (.leaf (.ret, mkT 1 [(0, .agg [.int .i64 (wr .i64 (Int.tmod w 8)), .int .i64 a, .int .i64 b, .int .i64 (wr .i64 (Int.tmod g 4))])], []))
                    (.br (decide (wr .i64 (Int.tmod w 8) = 6))
                      (.leaf (.ret, mkT 1 [(0, .agg [.int .i64 (wr .i64 (Int.tmod w 8)), .int .i64 a, .int .i64 b, .int .i64 (wr .i64 (Int.tmod g 4))])], []))
                      (.leaf (.ret, mkT 1 [(0, .agg [.int .i64 (wr .i64 (Int.tmod w 8)), .int .i64 a, .int .i64 b, .int .i64 0])], []))))))))))))) := by kernel_rfl
end Go.Proofs.Ytbfebjmmpiffpaa
