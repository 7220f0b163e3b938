/- frame: Next, as trees. -/
import Derived.Test.YtbpcljkapkjheaaD02n
namespace Go.Proofs.Ytbpcljkapkjheaa
open Ab
set_option linter.unusedVariables false
theorem next_call (E : Nat → Nat → Seg) (s : ByteArray) (a : Int) : ((callB Try.prog E SN (W E SN noL) 14 [.str s, .int .i64 a]).full ⟨hp 0 [], 0, [], []⟩ leafV).take 0 (.c (.c (.c (.x (.c (.x (.c (.leaf [] 1)) (.c (.c (.c (.x (.c (.leaf [] 1)) (.c (.c (.c (.n (.x (.c (.leaf [] 1)) (.c (.c (.c (.x (.c (.leaf [] 1)) (.c (.c (.c (.n (.c (.n (.x (.c (.leaf [] 1)) (.c (.c (.c (.x (.c (.leaf [] 1)) (.c (.c (.c (.n (.x (.c (.leaf [] 1)) (.c (.n (.n (.c (.leaf [] 1)))))))))))))))))))))))))))))))))))) (cs 4 (.leaf [] 1)))))) =
  (.br (decide (0 ≤ a))
  (.br (!decide (0 ≤ wr .i64 ((↑(ByteArray.size s) : Int) - a)))
    (.leaf (.ret, mkT 1 [(0, .tup [.str noTx, .int .i64 a, .int .i64 2])], []))
    (.br (!decide (0 < wr .i64 ((↑(ByteArray.size s) : Int) - a)))
      (.leaf (.ret, mkT 1 [(0, .tup [.str noTx, .int .i64 a, .int .i64 9])], []))
      (.need (decide (0 ≤ a) && decide (a < (↑(ByteArray.size s) : Int))) (.br (!decide ((↑(BitVec.toNat (List.getD (Array.toList (ByteArray.data s)) (Int.toNat a) 0).1) : Int) = 165))
        (.leaf (.ret, mkT 1 [(0, .tup [.str noTx, .int .i64 a, .int .i64 5])], []))
        (.br (!decide (4 ≤ wr .i64 ((↑(ByteArray.size s) : Int) - a)))
          (.leaf (.ret, mkT 1 [(0, .tup [.str noTx, .int .i64 a, .int .i64 20])], []))
          (.need (decide ([s] = [s]) && true && true && (decide ([a] = [a]) && true && true && true) && true) (.need (decide (0 ≤ a) && (decide (a + 4 ≤ (↑(ByteArray.size s) : Int)) && decide (ByteArray.size s ≤ 1000000000000))) (.br (!decide (sizeT { s := s, a := a, n := 0 } ≤ 1048576))
            (.leaf (.ret, mkT 1 [(0, .tup [.str noTx, .int .i64 a, .int .i64 5])], []))
            (.br (!decide (wr .i64 (4 + sizeT { s := s, a := a, n := 0 }) < wr .i64 ((↑(ByteArray.size s) : Int) - a)))
              (.leaf (.ret, mkT 1 [(0, .tup [.str noTx, .int .i64 a, .int .i64 20])], []))
              (.need (decide (0 ≤ wr .i64 (wr .i64 (a + 4) + sizeT { s := s, a := a, n := 0 })) && decide (wr .i64 (wr .i64 (a + 4) + sizeT { s := s, a := a, n := 0 }) < (↑(ByteArray.size s) : Int))) (.br (!decide ((↑(BitVec.toNat (List.getD (Array.toList (ByteArray.data s)) (Int.toNat (wr .i64 (wr .i64 (a + 4) + sizeT { s := s, a := a, n := 0 }))) 0).1) : Int) = 90))
                (.leaf (.ret, mkT 1 [(0, .tup [.str noTx, .int .i64 a, .int .i64 5])], []))
                (.need (decide (0 ≤ wr .i64 (wr .i64 (a + 4) + sizeT { s := s, a := a, n := 0 })) && decide (wr .i64 (wr .i64 (a + 4) + sizeT { s := s, a := a, n := 0 }) ≤ (↑(ByteArray.size s) : Int))) (.need (decide (0 ≤ wr .i64 (a + 4)) && decide (wr .i64 (a + 4) ≤ (↑(Int.toNat (wr .i64 (wr .i64 (a + 4) + sizeT { s := s, a := a, n := 0 }))) : Int))) (.leaf (.ret, mkT 1 [(0, .tup [.str (cutB s (wr .i64 (a + 4)) (wr .i64 (wr .i64 (a + 4) + sizeT { s := s, a := a, n := 0 }))), .int .i64 (wr .i64 (wr .i64 (wr .i64 (a + 4) + sizeT { s := s, a := a, n := 0 }) + 1)), .int .i64 0])], [])))))))))))))))
  (.leaf (.ret, mkT 1 [(0, .tup [.str noTx, .int .i64 a, .int .i64 2])], []))) := by kernel_rfl
theorem nextR_call (E : Nat → Nat → Seg) (s : ByteArray) (a : Int) : ((callB Try.prog E noS (W E noS noL) 16 [.str s, .int .i64 a]).full ⟨hp 0 [], 0, [], []⟩ leafV).take 0 (.x (cs 5 (.leaf [] 1)) (.c (.c (.c (.x (.leaf [] 1) (.x (.leaf [] 1) (.n (.x (.leaf [] 1) (.x (.leaf [] 1) (.n (.n (.n (.c (.x (.leaf [] 1) (.x (.leaf [] 1) (.n (.x (.leaf [] 1) (.n (.n (.leaf [] 1)))))))))))))))))))) =
  (.br (decide (a < 0))
  (.leaf (.ret, mkT 1 [(0, .tup [.str noTx, .int .i64 a, .int .i64 2])], []))
  (.br (decide ((↑(ByteArray.size s) : Int) < a))
    (.leaf (.ret, mkT 1 [(0, .tup [.str noTx, .int .i64 a, .int .i64 2])], []))
    (.br (decide (a = (↑(ByteArray.size s) : Int)))
      (.leaf (.ret, mkT 1 [(0, .tup [.str noTx, .int .i64 a, .int .i64 9])], []))
      (.need (decide (0 ≤ a) && decide (a < (↑(ByteArray.size s) : Int))) (.br (!decide ((↑(BitVec.toNat (List.getD (Array.toList (ByteArray.data s)) (Int.toNat a) 0).1) : Int) = 165))
        (.leaf (.ret, mkT 1 [(0, .tup [.str noTx, .int .i64 a, .int .i64 5])], []))
        (.br (decide (wr .i64 ((↑(ByteArray.size s) : Int) - a) < 4))
          (.leaf (.ret, mkT 1 [(0, .tup [.str noTx, .int .i64 a, .int .i64 20])], []))
          (.need (decide (0 ≤ wr .i64 (a + 1)) && decide (wr .i64 (a + 1) < (↑(ByteArray.size s) : Int))) (.need (decide (0 ≤ wr .i64 (a + 2)) && decide (wr .i64 (a + 2) < (↑(ByteArray.size s) : Int))) (.need (decide (0 ≤ wr .i64 (a + 3)) && decide (wr .i64 (a + 3) < (↑(ByteArray.size s) : Int))) (.br (decide (1048576 < (rawN s a)))
            (.leaf (.ret, mkT 1 [(0, .tup [.str noTx, .int .i64 a, .int .i64 5])], []))
            (.br (decide (wr .i64 ((↑(ByteArray.size s) : Int) - a) < wr .i64 ((rawN s a) + 5)))
              (.leaf (.ret, mkT 1 [(0, .tup [.str noTx, .int .i64 a, .int .i64 20])], []))
              (.need (decide (0 ≤ wr .i64 (wr .i64 (a + 4) + (rawN s a))) && decide (wr .i64 (wr .i64 (a + 4) + (rawN s a)) < (↑(ByteArray.size s) : Int))) (.br (!decide ((↑(BitVec.toNat (List.getD (Array.toList (ByteArray.data s)) (Int.toNat (wr .i64 (wr .i64 (a + 4) + (rawN s a)))) 0).1) : Int) = 90))
                (.leaf (.ret, mkT 1 [(0, .tup [.str noTx, .int .i64 a, .int .i64 5])], []))
                (.need (decide (0 ≤ wr .i64 (wr .i64 (a + 4) + (rawN s a))) && decide (wr .i64 (wr .i64 (a + 4) + (rawN s a)) ≤ (↑(ByteArray.size s) : Int))) (.need (decide (0 ≤ wr .i64 (a + 4)) && decide (wr .i64 (a + 4) ≤ (↑(Int.toNat (wr .i64 (wr .i64 (a + 4) + (rawN s a)))) : Int))) (.leaf (.ret, mkT 1 [(0, .tup [.str (cutB s (wr .i64 (a + 4)) (wr .i64 (wr .i64 (a + 4) + (rawN s a)))), .int .i64 (wr .i64 (wr .i64 (a + (rawN s a)) + 5)), .int .i64 0])], []))))))))))))))))) := by kernel_rfl
end Go.Proofs.Ytbpcljkapkjheaa
