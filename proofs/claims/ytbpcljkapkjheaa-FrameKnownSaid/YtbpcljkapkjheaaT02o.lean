/- frame: All, texts, as trees. -/
import Derived.Test.YtbpcljkapkjheaaD02o
namespace Go.Proofs.Ytbpcljkapkjheaa
open Ab
set_option linter.unusedVariables false
theorem al_n (E : Nat → Nat → Seg) (s : ByteArray) (a : Int) : ((W E S3 noL 12 (false :: pA) false (codeOf 12 (false :: pA)) (mkT 29 [(0, .str s), (2, .nils), (3, .int .i64 a), (4, .int .i64 0)])).full ⟨hp 0 [], 0, [], []⟩ leafS).take 0 (.c (.n (.n (.x (.c (.c (.c (.leaf [1] 29)))) (.x (.leaf [] 28) (.leaf [] 28)))))) =
  (.need (decide (s = s) && (decide (a = a) && true) && true) (.need (decide (ByteArray.size s ≤ 1000000000000) && (decide (-1000000000000 ≤ a) && decide (a ≤ 1000000000000))) (.br (decide (nxE s a = 0))
  (.leaf (.normal, mkT 29 [(0, .str s), (2, .slice (.own 0 0 0 1) 1 none), (3, .int .i64 (if nxE s a = 0 then a + szN s a + 5 else a)), (4, .int .i64 0)], [(0, some (.segs [{ n := 1, st := 1, cols := [.str (List.take 1 (List.drop 0 [if nxE s a = 0 then cutB s (a + 4) (a + 4 + szN s a) else noTx]))] }]))]))
  (.br (decide (nxE s a = 9))
    (.leaf (.exit 0, mkT 29 [(2, .nils), (3, .int .i64 a), (4, .int .i64 0)], []))
    (.leaf (.exit 0, mkT 29 [(2, .nils), (3, .int .i64 a), (4, .int .i64 (nxE s a))], [])))))) := by kernel_rfl
theorem al_g (E : Nat → Nat → Seg) (s : ByteArray) (a : Int) (L : List ByteArray) : ((W E S3 noL 12 (false :: pA) false (codeOf 12 (false :: pA)) (mkT 29 [(0, .str s), (2, liV L 0), (3, .int .i64 a), (4, .int .i64 0)])).full ⟨hp 0 [txB L], 1, [], []⟩ leafS).take 0 (.c (.n (.n (.x (.n (.n (.c (.c (.leaf [2] 29))))) (.x (.leaf [0] 28) (.leaf [0] 28)))))) =
  (.need (decide (s = s) && (decide (a = a) && true) && true) (.need (decide (ByteArray.size s ≤ 1000000000000) && (decide (-1000000000000 ≤ a) && decide (a ≤ 1000000000000))) (.br (decide (nxE s a = 0))
  (.need (decide ((List.length L + 1) * 16 ≤ 35184372088832)) (.need (decide (0 + List.length L ≤ List.length L)) (.leaf (.normal, mkT 29 [(0, .str s), (2, .slice (.own 0 0 0 1) (List.length L + 1) none), (3, .int .i64 (if nxE s a = 0 then a + szN s a + 5 else a)), (4, .int .i64 0)], [(0, some (.segs [{ n := List.length L + 1, st := 1, cols := [.str (List.take (List.length L) (List.drop 0 L) ++ List.take 1 (List.drop 0 [if nxE s a = 0 then cutB s (a + 4) (a + 4 + szN s a) else noTx]))] }]))]))))
  (.br (decide (nxE s a = 9))
    (.leaf (.exit 0, mkT 29 [(2, .slice (.own 0 0 0 1) (List.length L) none), (3, .int .i64 a), (4, .int .i64 0)], [(0, some (.segs [⟨List.length L, 1, [.str L]⟩]))]))
    (.leaf (.exit 0, mkT 29 [(2, .slice (.own 0 0 0 1) (List.length L) none), (3, .int .i64 a), (4, .int .i64 (nxE s a))], [(0, some (.segs [⟨List.length L, 1, [.str L]⟩]))])))))) := by kernel_rfl
theorem ar_n (E : Nat → Nat → Seg) (s : ByteArray) (a : Int) : ((W E S3 noL 17 (false :: pR) false (codeOf 17 (false :: pR)) (mkT 31 [(0, .str s), (5, .nils), (6, .int .i64 a)])).full ⟨hp 0 [], 0, [], []⟩ leafS).take 0 (.c (.n (.n (.x (.leaf [] 28) (.x (.leaf [] 28) (.c (.c (.c (.leaf [1] 97))))))))) =
  (.need (decide (s = s) && (decide (a = a) && true) && true) (.need (decide (ByteArray.size s ≤ 1000000000000) && (decide (-1000000000000 ≤ a) && decide (a ≤ 1000000000000))) (.br (decide (nxE s a = 9))
  (.leaf (.ret, mkT 31 [(2, .nils), (3, .int .i64 a), (4, .int .i64 0)], []))
  (.br (!decide (nxE s a = 0))
    (.leaf (.ret, mkT 31 [(2, .nils), (3, .int .i64 a), (4, .int .i64 (nxE s a))], []))
    (.leaf (.normal, mkT 31 [(0, .str s), (5, .slice (.own 0 0 0 1) 1 none), (6, .int .i64 (if nxE s a = 0 then a + szN s a + 5 else a))], [(0, some (.segs [{ n := 1, st := 1, cols := [.str (List.take 1 (List.drop 0 [if nxE s a = 0 then cutB s (a + 4) (a + 4 + szN s a) else noTx]))] }]))])))))) := by kernel_rfl
theorem ar_g (E : Nat → Nat → Seg) (s : ByteArray) (a : Int) (L : List ByteArray) : ((W E S3 noL 17 (false :: pR) false (codeOf 17 (false :: pR)) (mkT 31 [(0, .str s), (5, liV L 0), (6, .int .i64 a)])).full ⟨hp 0 [txB L], 1, [], []⟩ leafS).take 0 (.c (.n (.n (.x (.leaf [0] 28) (.x (.leaf [0] 28) (.n (.n (.c (.c (.leaf [2] 97)))))))))) =
  (.need (decide (s = s) && (decide (a = a) && true) && true) (.need (decide (ByteArray.size s ≤ 1000000000000) && (decide (-1000000000000 ≤ a) && decide (a ≤ 1000000000000))) (.br (decide (nxE s a = 9))
  (.leaf (.ret, mkT 31 [(2, .slice (.own 0 0 0 1) (List.length L) none), (3, .int .i64 a), (4, .int .i64 0)], [(0, some (.segs [⟨List.length L, 1, [.str L]⟩]))]))
  (.br (!decide (nxE s a = 0))
    (.leaf (.ret, mkT 31 [(2, .slice (.own 0 0 0 1) (List.length L) none), (3, .int .i64 a), (4, .int .i64 (nxE s a))], [(0, some (.segs [⟨List.length L, 1, [.str L]⟩]))]))
    (.need (decide ((List.length L + 1) * 16 ≤ 35184372088832)) (.need (decide (0 + List.length L ≤ List.length L)) (.leaf (.normal, mkT 31 [(0, .str s), (5, .slice (.own 0 0 0 1) (List.length L + 1) none), (6, .int .i64 (if nxE s a = 0 then a + szN s a + 5 else a))], [(0, some (.segs [{ n := List.length L + 1, st := 1, cols := [.str (List.take (List.length L) (List.drop 0 L) ++ List.take 1 (List.drop 0 [if nxE s a = 0 then cutB s (a + 4) (a + 4 + szN s a) else noTx]))] }]))])))))))) := by kernel_rfl
theorem al_call (E : Nat → Nat → Seg) (s : ByteArray) : (callT Try.prog E (W E noS noL) TAl 0 12 [.str s] ⟨hp 0 [], 0, [], []⟩).take 0 (.c (.n (.n (.b (.a (.i (.leaf [] 1))) (.a (.i (.leaf [0] 1))))))) =
  (.need (decide (s = s) && true && true) (.need (lowT s) (.both
  (.all (Al) fun (y1 : Al) => (.imp (isN s y1) (.leaf (.ret, mkT 1 [(0, .tup [.nils, .int .i64 (Al.a y1), .int .i64 (Al.e y1)])], []))))
  (.all (Al) fun (y1 : Al) => (.imp (isG s y1) (.leaf (.ret, mkT 1 [(0, .tup [.slice (.own 0 0 0 1) (List.length (Al.L y1)) none, .int .i64 (Al.a y1), .int .i64 (Al.e y1)])], [(0, some (.segs [⟨List.length (Al.L y1), 1, [.str (Al.L y1)]⟩]))]))))))) := by kernel_rfl
theorem ar_call (E : Nat → Nat → Seg) (s : ByteArray) : (callT Try.prog E (W E noS noL) TAl 0 17 [.str s] ⟨hp 0 [], 0, [], []⟩).take 0 (.c (.n (.n (.b (.a (.i (.leaf [] 1))) (.a (.i (.leaf [0] 1))))))) =
  (.need (decide (s = s) && true && true) (.need (lowT s) (.both
  (.all (Al) fun (y1 : Al) => (.imp (isN s y1) (.leaf (.ret, mkT 1 [(0, .tup [.nils, .int .i64 (Al.a y1), .int .i64 (Al.e y1)])], []))))
  (.all (Al) fun (y1 : Al) => (.imp (isG s y1) (.leaf (.ret, mkT 1 [(0, .tup [.slice (.own 0 0 0 1) (List.length (Al.L y1)) none, .int .i64 (Al.a y1), .int .i64 (Al.e y1)])], [(0, some (.segs [⟨List.length (Al.L y1), 1, [.str (Al.L y1)]⟩]))]))))))) := by kernel_rfl
theorem tx_round (E : Nat → Nat → Seg) (A B : List ByteArray) (m : Nat) (c : Option Nat) (i : Int) : ((W E noS noL 13 (false :: pX) false (codeOf 13 (false :: pX)) (mkT 26 (T2.at ⟨A, B, m, c⟩ i))).full ⟨hp 0 [txB A, txB B], 2, [], []⟩ leafS).take 2 (.x (.n (.n (.n (.n (.c (.x (.leaf [0, 1] 16) (.leaf [0, 1] 35))))))) (.leaf [0, 1] 16)) =
  (.br (decide (i < (↑(List.length A) : Int)))
  (.need (decide (0 ≤ i) && decide (i < (↑(List.length A) : Int))) (.need (decide (0 + Int.toNat i < List.length A)) (.need (decide (0 ≤ i) && decide (i < (↑m : Int))) (.need (decide (0 + Int.toNat i < List.length B)) (.br (!((ByteArray.toList (List.getD A (0 + Int.toNat i) noTx)) == (ByteArray.toList (List.getD B (0 + Int.toNat i) noTx))))
    (.leaf (.ret, mkT 26 [(4, .bool false)], [(0, some (.segs [⟨List.length A, 1, [.str A]⟩])), (1, some (.segs [⟨List.length B, 1, [.str B]⟩]))]))
    (.leaf (.normal, mkT 26 [(0, .slice (.own 0 0 0 1) (List.length A) none), (1, .slice (.own 1 0 0 1) m c), (5, .int .i64 (wr .i64 (i + 1)))], [(0, some (.segs [⟨List.length A, 1, [.str A]⟩])), (1, some (.segs [⟨List.length B, 1, [.str B]⟩]))])))))))
  (.leaf (.exit 0, mkT 26 [], [(0, some (.segs [⟨List.length A, 1, [.str A]⟩])), (1, some (.segs [⟨List.length B, 1, [.str B]⟩]))]))) := by kernel_rfl
theorem tx_nn (E : Nat → Nat → Seg) : (callT Try.prog E (W E noS noL) noT 0 13 [.nils, .nils] ⟨hp 0 [], 0, [], []⟩).take 0 (.c (.c (.leaf [] 1))) =
  (.leaf (.ret, mkT 1 [(0, .bool true)], [])) := by kernel_rfl
theorem tx_ng (E : Nat → Nat → Seg) (B : List ByteArray) (m : Nat) (c : Option Nat) : (callT Try.prog E (W E noS noL) noT 1 13 [.nils, .slice (.own 0 0 0 1) m c] ⟨hp 0 [txB B], 1, [], []⟩).take 1 (.x (.leaf [0] 1) (.c (.leaf [0] 1))) =
  (.br (!decide (0 = (↑m : Int)))
  (.leaf (.ret, mkT 1 [(0, .bool false)], [(0, some (.segs [⟨List.length B, 1, [.str B]⟩]))]))
  (.leaf (.ret, mkT 1 [(0, .bool true)], [(0, some (.segs [⟨List.length B, 1, [.str B]⟩]))]))) := by kernel_rfl
theorem tx_gn (E : Nat → Nat → Seg) (A : List ByteArray) : (callT Try.prog E (W E noS noL) noT 1 13 [liV A 0, .nils] ⟨hp 0 [txB A], 1, [], []⟩).take 1 (.t (.leaf [0] 1)) =
  (.need (!decide ((↑(List.length A) : Int) = 0)) (.leaf (.ret, mkT 1 [(0, .bool false)], [(0, some (.segs [⟨List.length A, 1, [.str A]⟩]))]))) := by kernel_rfl
theorem tx_gg (E : Nat → Nat → Seg) (A B : List ByteArray) (m : Nat) (c : Option Nat) : (callT Try.prog E (W E noS noL) TX 2 13 [liV A 0, .slice (.own 1 0 0 1) m c] ⟨hp 0 [txB A, txB B], 2, [], []⟩).take 2 (.x (.leaf [0, 1] 1) (.c (.n (.n (.b (.a (.i (.leaf [0, 1] 1))) (.a (.i (.leaf [0, 1] 1)))))))) =
  (.br (!decide ((↑(List.length A) : Int) = (↑m : Int)))
  (.leaf (.ret, mkT 1 [(0, .bool false)], [(0, some (.segs [⟨List.length A, 1, [.str A]⟩])), (1, some (.segs [⟨List.length B, 1, [.str B]⟩]))]))
  (.need (decide (List.length A = List.length A) && true && (decide (m = m) && sameCap c c && true) && (decide (List.length A = List.length A) && (decide (A = A) && true && true) && (decide (List.length B = List.length B) && (decide (B = B) && true && true) && true))) (.need (decide (List.length A = m) && (decide (m ≤ List.length B) && decide (List.length B ≤ 1000000000000))) (.both
    (.all (PUnit) fun (y2 : PUnit) => (.imp (t2E { A := A, B := B, m := m, c := c } y2) (.leaf (.ret, mkT 1 [(0, .bool true)], [(0, some (.segs [⟨List.length A, 1, [.str A]⟩])), (1, some (.segs [⟨List.length B, 1, [.str B]⟩]))]))))
    (.all (PUnit) fun (y2 : PUnit) => (.imp (t2N { A := A, B := B, m := m, c := c } y2) (.leaf (.ret, mkT 1 [(0, .bool false)], [(0, some (.segs [⟨List.length A, 1, [.str A]⟩])), (1, some (.segs [⟨List.length B, 1, [.str B]⟩]))])))))))) := by kernel_rfl
end Go.Proofs.Ytbpcljkapkjheaa
