/- acc: rows of aggregates; two lists to be read. -/
import Derived.Test.YtebpekgijakonaaD05e
namespace Go.Proofs.Ytebpekgijakonaa
open Ab

def rowB (ps : List Ac) : Blk := .segs [⟨ps.length, 5, [.int .i64 (ps.map (·.n)), .int .i64 (ps.map (·.h)), .int .u64 (ps.map (·.l)), .int .i64 (ps.map (·.a)), .int .i64 (ps.map (·.b))]⟩]

def tabO (xs ch : List Int) : Nat → Nat → Seg := fun t _ => match t with
  | 0 => ⟨xs.length, 1, [.int .i64 xs]⟩
  | _ => ⟨ch.length, 1, [.int .u8 ch]⟩
end Go.Proofs.Ytebpekgijakonaa
