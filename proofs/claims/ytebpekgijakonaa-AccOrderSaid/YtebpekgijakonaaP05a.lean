/- acc: the two loops that gather a list's aggregate, told. -/
import Derived.Test.YtebpekgijakonaaT05a
import Derived.Test.YtebpekgijakonaaE28
namespace Go.Proofs.Ytebpekgijakonaa
open Ab

def in64 (v : Int) : Prop := -9223372036854775808 ≤ v ∧ v < 9223372036854775808

theorem wr_in {v : Int} (h : in64 v) : wr .i64 v = v := by
  obtain ⟨h1, h2⟩ := h
  show (v + 9223372036854775808) % 18446744073709551616 - 9223372036854775808 = v
  omega

theorem merge_ne {x y : Ac} (hx : x.n ≠ 0) (hy : y.n ≠ 0) : merge x y = ⟨wr .i64 (x.n + y.n), wr .i64 (wr .i64 (x.h + y.h) + wr .i64 ((x.l + y.l + 0) / 18446744073709551616)), (x.l + y.l + 0) % 18446744073709551616, if y.a < x.a then y.a else x.a, if x.b < y.b then y.b else x.b⟩ := by
  rw [merge, if_neg hx, if_neg hy]

theorem upto_succ {xs : List Int} {i : Nat} (h : i < xs.length) : upto xs (i + 1) = merge (upto xs i) (one xs[i]) := by
  rw [upto, List.take_add_one, List.getElem?_eq_getElem h, List.foldl_append]; rfl

/-- a sum's lower half -/
def Ac.ok (x : Ac) : Prop := 0 ≤ x.l ∧ x.l < 18446744073709551616

theorem wru_ok (v : Int) : 0 ≤ wr .u64 v ∧ wr .u64 v < 18446744073709551616 := by
  simp only [wr]; omega

theorem one_ok (v : Int) : (one v).ok := wru_ok v

theorem merge_ok {x y : Ac} (hx : x.ok) (hy : y.ok) : (merge x y).ok := by
  unfold merge
  split
  · exact hy
  · split
    · exact hx
    · exact ⟨Int.emod_nonneg _ (by decide), Int.emod_lt_of_pos _ (by decide)⟩

theorem foldl_ok : ∀ (l : List Int) (x : Ac), x.ok → (l.foldl (fun a v => merge a (one v)) x).ok
  | [], _, h => h
  | v :: l, x, h => foldl_ok l _ (merge_ok h (one_ok v))

theorem upto_ok (xs : List Int) (i : Nat) : (upto xs i).ok := foldl_ok _ _ ⟨by decide, by decide⟩

theorem tab_plain (xs : List Int) : Plain (tabI xs) := by
  intro tid par j v hv
  obtain ⟨_, c, hc, rfl⟩ := cellOf_seg hv
  have e : j % 1 = 0 := Nat.mod_one j
  simp only [tabI, e, List.getElem?_cons_zero, Option.some.injEq] at hc
  subst hc; rfl

section
variable {xs : List Int} {ra : Nat → Nat → Nat × Nat} {base : Nat} 

theorem toNat_nat (i : Nat) : (0 + Int.toNat (i : Int)) = i := by simp
theorem getD_nat {i : Nat} (h : i < xs.length) : xs.getD (0 + Int.toNat (i : Int)) 0 = xs[i] := by
  rw [toNat_nat, List.getD_eq_getElem?_getD, List.getElem?_eq_getElem h]; rfl

theorem lists_loop {m : Nat} (hm : m ≤ xs.length) (hb : m ≤ 1000) :
    Takes Try.prog (tabI xs) ra base 1 (.loop (codeOf 4 [false, false, true, false, true, true, true])) (mkT 30 [(0, .slice (.ro 0 0 0 0) m none), (3, .ptr (.own 0 0 0 0)), (4, .int .i64 0)]) (hp 0 [zero.blk])
      fun x => x = (.exit 0, mkT 30 [(0, .slice (.ro 0 0 0 0) m none), (3, .ptr (.own 0 0 0 0))], hp 0 [(upto xs m).blk]) := by
  refine takes_loop (fun j ts h => ∃ i : Nat, i ≤ m ∧ j = m - i + 1 ∧ ts = mkT 30 [(0, .slice (.ro 0 0 0 0) m none), (3, .ptr (.own 0 0 0 0)), (4, .int .i64 i)] ∧ h = hp 0 [(upto xs i).blk])
    (fun ts h => by rintro ⟨i, _, h, _⟩; omega) (fun j ts h => ?_) (j := m + 1) ⟨0, Nat.zero_le _, rfl, rfl, rfl⟩
  rintro ⟨i, hi, hj, rfl, rfl⟩
  refine takes_of_tree (tab_plain xs) (W_ok sumNone_ok noL_ok) (f := 4) (.inr (by kernel_rfl)) (hp_below _) (lists_round m i (upto xs i).n (upto xs i).h (upto xs i).l (upto xs i).a (upto xs i).b xs) ?_
  simp only [Tree.holds, decide_eq_true_eq, decide_eq_false_iff_not, Bool.and_eq_true, Bool.and_true]
  refine ⟨fun h1 => ?_, fun h1 => ?_⟩
  · have hlt : i < xs.length := by omega
    have hw : wr .i64 ((i : Int) + 1) = ((i + 1 : Nat) : Int) := by rw [wr_in ⟨by omega, by omega⟩]; omega
    refine ⟨by omega, by rw [toNat_nat]; exact hlt, fun h2 => ?_, fun h2 => ⟨⟨(upto_ok xs i).1, (wru_ok _).1⟩, ?_⟩⟩
    · refine ⟨i + 1, by omega, by omega, by rw [hw], ?_⟩
      rw [upto_succ hlt, merge, if_pos h2.symm, getD_nat hlt]; rfl
    · refine ⟨i + 1, by omega, by omega, by rw [hw], ?_⟩
      rw [upto_succ hlt, merge_ne (fun e => h2 e.symm) (by simp [one]), getD_nat hlt]; rfl
  · have : i = m := by omega
    subst this
    rfl
end

end Go.Proofs.Ytebpekgijakonaa
