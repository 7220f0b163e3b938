/- frame: FrameKnown, as trees. -/
import Derived.Test.YtbpcljkapkjheaaD02v
namespace Go.Proofs.Ytbpcljkapkjheaa
open Ab
set_option linter.unusedVariables false
theorem known_call (E : Nat → Nat → Seg) : (callT Try.prog E (W E S3 noL) TK1 0 6 [] ⟨hp 0 [], 0, [], []⟩).take 0 (csQ 7 (.a (.i (.c (.n (.n (.a (.i (.leaf [] 1))))))))) =
  (.all (ByteArray) fun (y0 : ByteArray) => (.imp (isLong y0) (.need (decide (y0 = y0) && true && true) (.need (bigT y0) (.all (PUnit) fun (y1 : PUnit) => (.imp (True) (.leaf (.ret, mkT 1 [(0, .bool true)], [])))))))) := by kernel_rfl
theorem k1_t (E : Nat → Nat → Seg) (t : ByteArray) : (execT (W E S3 noL) TK2 0 400 6 pK1 (codeOf 6 pK1) (mkT 146 [(1, .str t)]) ⟨hp 0 [], 0, [], []⟩ leafQ).take 0 (.c (.n (.n (.c (.n (.n (.n (.c (.n (.n (.x (csQ 21 (.leaf [] 1)) (.c (.x (csQ 18 (.leaf [] 1)) (.c (.c (.x (csQ 14 (.leaf [] 1)) (.c (.x (csQ 11 (.leaf [] 1)) (.c (.c (.x (csQ 7 (.leaf [] 1)) (.c (.n (.c (.x (.c (.c (.c (.leaf [] 1)))) (.c (.x (.leaf [] 1) (.c (.c (.c (.a (.i (.leaf [] 1))))))))))))))))))))))))))))))))) =
  (.need (decide (t = t) && true && true) (.need (smallT t) (.need (decide ((if longB t = true then noTx else frameT t) = if longB t = true then noTx else frameT t) && true && true) (.need (decide (ByteArray.size (if longB t = true then noTx else frameT t) ≤ 1000000000000) && true) (.need (decide (ByteArray.size t + 1 ≤ 9223372036854775807)) (.need (decide (t ++ xT = t ++ xT) && true && true) (.need (smallT (t ++ xT)) (.br (!decide ((if longB t = true then (4 : Int) else 0) = 0))
  (.leaf (.ret, mkT 146 [(0, .bool false)], []))
  (.br (!decide (nxE (if longB t = true then noTx else frameT t) 0 = 0))
    (.leaf (.ret, mkT 146 [(0, .bool false)], []))
    (.br (!decide ((↑(ByteArray.size (if nxE (if longB t = true then noTx else frameT t) 0 = 0 then cutB (if longB t = true then noTx else frameT t) 4 (4 + szN (if longB t = true then noTx else frameT t) 0) else noTx)) : Int) = 1048576))
      (.leaf (.ret, mkT 146 [(0, .bool false)], []))
      (.br (!decide ((if nxE (if longB t = true then noTx else frameT t) 0 = 0 then 0 + szN (if longB t = true then noTx else frameT t) 0 + 5 else 0) = 1048581))
        (.leaf (.ret, mkT 146 [(0, .bool false)], []))
        (.br (decide ((↑(ByteArray.size (if longB t = true then noTx else frameT t)) : Int) < 4))
          (.leaf (.ret, mkT 146 [(0, .bool false)], []))
          (.need (decide (4 ≤ (↑(ByteArray.size (if longB t = true then noTx else frameT t)) : Int))) (.br (!((ByteArray.toList (ByteArray.extract (if longB t = true then noTx else frameT t) (orNat none 0) (orNat (some 4) (ByteArray.size (if longB t = true then noTx else frameT t))))) == (ByteArray.toList hT)))
            (.leaf (.ret, mkT 146 [(0, .bool false)], []))
            (.br (!decide ((if longB (t ++ xT) = true then (4 : Int) else 0) = 4))
              (.leaf (.ret, mkT 146 [(0, .bool false)], []))
              (.all (PUnit) fun (y7 : PUnit) => (.imp (True) (.leaf (.ret, mkT 146 [(0, .bool true)], []))))))))))))))))))) := by kernel_rfl
end Go.Proofs.Ytbpcljkapkjheaa
