/- acc: the examples, and laws, as trees. -/
import Derived.Test.YtebpekgijakonaaD05b
namespace Go.Proofs.Ytebpekgijakonaa
open Ab

theorem works_tree (E : Nat → Nat → Seg) : ((callB Try.prog E noS (W E noS noL) 14 []).full ⟨[], 0, [], []⟩ leafV).take 0 (cs 86 (.leaf [] 1)) =
  (.leaf (.ret, mkT 1 [(0, .bool true)], [])) := by kernel_rfl

theorem lists_tree (n : Nat) (xs : List Int) : ((callB Try.prog (tabI xs) S14 (W (tabI xs) S14 (L4 xs)) 4 [.slice (.ro 0 0 0 0) n none]).full ⟨[], 0, [], []⟩ leafV).take 0 (.n (.c (.n (.n (.c (.n (.n (.x (cs 4 (.leaf [] 1)) (.c (.c (.leaf [] 1))))))))))) =
  (.need (decide (0 ≤ if 200 < (↑n : Int) then 200 else (↑n : Int)) && decide ((if 200 < (↑n : Int) then 200 else (↑n : Int)) ≤ (↑n : Int))) (.need (true && (true && (decide (Int.toNat (if 200 < (↑n : Int) then 200 else (↑n : Int)) = Int.toNat (if 200 < (↑n : Int) then 200 else (↑n : Int))) && true) && true && true)) (.need (decide (Int.toNat (if 200 < (↑n : Int) then 200 else (↑n : Int)) ≤ List.length xs) && decide (Int.toNat (if 200 < (↑n : Int) then 200 else (↑n : Int)) ≤ 1000)) (.need (true && (true && (decide (Int.toNat (if 200 < (↑n : Int) then 200 else (↑n : Int)) = Int.toNat (if 200 < (↑n : Int) then 200 else (↑n : Int))) && true) && true && true)) (.need (decide (Int.toNat (if 200 < (↑n : Int) then 200 else (↑n : Int)) ≤ List.length xs) && decide (Int.toNat (if 200 < (↑n : Int) then 200 else (↑n : Int)) ≤ 1000)) (.br (decide ((upto xs (orNat (some (if 200 < (↑n : Int) then 200 else (↑n : Int))) n - orNat none 0)).1 = (upto xs (orNat (some (if 200 < (↑n : Int) then 200 else (↑n : Int))) n - orNat none 0)).1) && (decide ((upto xs (orNat (some (if 200 < (↑n : Int) then 200 else (↑n : Int))) n - orNat none 0)).2 = (upto xs (orNat (some (if 200 < (↑n : Int) then 200 else (↑n : Int))) n - orNat none 0)).2) && (decide ((upto xs (orNat (some (if 200 < (↑n : Int) then 200 else (↑n : Int))) n - orNat none 0)).3 = (upto xs (orNat (some (if 200 < (↑n : Int) then 200 else (↑n : Int))) n - orNat none 0)).3) && (decide ((upto xs (orNat (some (if 200 < (↑n : Int) then 200 else (↑n : Int))) n - orNat none 0)).4 = (upto xs (orNat (some (if 200 < (↑n : Int) then 200 else (↑n : Int))) n - orNat none 0)).4) && (decide ((upto xs (orNat (some (if 200 < (↑n : Int) then 200 else (↑n : Int))) n - orNat none 0)).5 = (upto xs (orNat (some (if 200 < (↑n : Int) then 200 else (↑n : Int))) n - orNat none 0)).5) && true)))))
  (.leaf (.ret, mkT 1 [(0, .bool true)], []))
  (.leaf (.ret, mkT 1 [(0, .bool false)], [])))))))) := by kernel_rfl

theorem lists_nil (xs : List Int) : ((callB Try.prog (tabI xs) S14 (W (tabI xs) S14 noL) 4 [.nils]).full ⟨[], 0, [], []⟩ leafV).take 0 (cs 8 (.leaf [] 1)) =
  (.leaf (.ret, mkT 1 [(0, .bool true)], [])) := by kernel_rfl

end Go.Proofs.Ytebpekgijakonaa
