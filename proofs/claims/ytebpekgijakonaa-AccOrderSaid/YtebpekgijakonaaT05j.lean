/- acc: AccOrder of no values, as trees. -/
import Derived.Test.YtebpekgijakonaaD05i
namespace Go.Proofs.Ytebpekgijakonaa
open Ab

theorem order_nil_n (xs ch : List Int) : ((callB Try.prog (tabO xs ch) S8 (W (tabO xs ch) S8 noL) 5 [.nils, .nils]).full ⟨hp 0 [], 0, [], []⟩ leafV).take 0 (cs 8 (.leaf [] 1)) =
  (.leaf (.ret, mkT 1 [(0, .bool true)], [])) := by kernel_rfl

theorem order_none_n (xs ch : List Int) : ((callB Try.prog (tabO xs ch) S8 (W (tabO xs ch) S8 noL) 5 [.slice (.ro 0 0 0 0) 0 none, .nils]).full ⟨hp 0 [], 0, [], []⟩ leafV).take 0 (cs 8 (.leaf [] 1)) =
  (.leaf (.ret, mkT 1 [(0, .bool true)], [])) := by kernel_rfl

theorem order_nil_c (n2 : Nat) (xs ch : List Int) : ((callB Try.prog (tabO xs ch) S8 (W (tabO xs ch) S8 noL) 5 [.nils, (.slice (.ro 1 0 0 0) n2 none)]).full ⟨hp 0 [], 0, [], []⟩ leafV).take 0 (cs 8 (.leaf [] 1)) =
  (.leaf (.ret, mkT 1 [(0, .bool true)], [])) := by kernel_rfl

theorem order_none_c (n2 : Nat) (xs ch : List Int) : ((callB Try.prog (tabO xs ch) S8 (W (tabO xs ch) S8 noL) 5 [.slice (.ro 0 0 0 0) 0 none, (.slice (.ro 1 0 0 0) n2 none)]).full ⟨hp 0 [], 0, [], []⟩ leafV).take 0 (cs 8 (.leaf [] 1)) =
  (.leaf (.ret, mkT 1 [(0, .bool true)], [])) := by kernel_rfl

end Go.Proofs.Ytebpekgijakonaa
