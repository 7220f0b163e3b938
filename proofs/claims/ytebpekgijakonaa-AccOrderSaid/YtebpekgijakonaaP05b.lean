/- acc: the document's loop, and both told. -/
import Derived.Test.YtebpekgijakonaaP05a
import Derived.Test.YtebpekgijakonaaE28
namespace Go.Proofs.Ytebpekgijakonaa
open Ab

theorem halves {l l' : Int} (h0 : 0 ≤ l) (h1 : l < 18446744073709551616) (h2 : 0 ≤ l') (h3 : l' < 18446744073709551616) :
    wr .u64 (Int.tdiv (wr .u64 (wr .u64 (wr .u64 (Int.tdiv l 4294967296) + wr .u64 (Int.tdiv l' 4294967296)) + wr .u64 (Int.tdiv (wr .u64 (Int.tmod l 4294967296 + Int.tmod l' 4294967296)) 4294967296))) 4294967296) = (l + l' + 0) / 18446744073709551616 ∧
    wr .u64 (wr .u64 (Int.tmod (wr .u64 (wr .u64 (wr .u64 (Int.tdiv l 4294967296) + wr .u64 (Int.tdiv l' 4294967296)) + wr .u64 (Int.tdiv (wr .u64 (Int.tmod l 4294967296 + Int.tmod l' 4294967296)) 4294967296))) 4294967296 * 4294967296) + Int.tmod (wr .u64 (Int.tmod l 4294967296 + Int.tmod l' 4294967296)) 4294967296) = (l + l' + 0) % 18446744073709551616 := by
  simp only [wr]
  have e1 : l.tdiv 4294967296 = l / 4294967296 := Int.tdiv_eq_ediv_of_nonneg h0
  have e2 : l'.tdiv 4294967296 = l' / 4294967296 := Int.tdiv_eq_ediv_of_nonneg h2
  have e3 : l.tmod 4294967296 = l % 4294967296 := Int.tmod_eq_emod_of_nonneg h0
  have e4 : l'.tmod 4294967296 = l' % 4294967296 := Int.tmod_eq_emod_of_nonneg h2
  rw [e1, e2, e3, e4]
  have e5 : (l % 4294967296 + l' % 4294967296) % 18446744073709551616 = l % 4294967296 + l' % 4294967296 := by omega
  rw [e5, Int.tdiv_eq_ediv_of_nonneg (by omega : 0 ≤ l % 4294967296 + l' % 4294967296), Int.tmod_eq_emod_of_nonneg (by omega : 0 ≤ l % 4294967296 + l' % 4294967296)]
  have e6 : ((l / 4294967296 % 18446744073709551616 + l' / 4294967296 % 18446744073709551616) % 18446744073709551616 + (l % 4294967296 + l' % 4294967296) / 4294967296 % 18446744073709551616) % 18446744073709551616 = l / 4294967296 + l' / 4294967296 + (l % 4294967296 + l' % 4294967296) / 4294967296 := by omega
  rw [e6, Int.tdiv_eq_ediv_of_nonneg (by omega), Int.tmod_eq_emod_of_nonneg (by omega)]
  constructor <;> omega

theorem hi_neg {v : Int} (h : in64 v) (hv : v < 0) : v.fdiv 9223372036854775808 = -1 := by
  obtain ⟨h1, h2⟩ := h
  rw [Int.fdiv_eq_ediv_of_nonneg _ (by omega)]; omega
theorem hi_pos {v : Int} (h : in64 v) (hv : ¬ v < 0) : v.fdiv 9223372036854775808 = 0 := by
  obtain ⟨h1, h2⟩ := h
  rw [Int.fdiv_eq_ediv_of_nonneg _ (by omega)]; omega

theorem merge_rest {x : Ac} {v c : Int} (hx : x.ok) (hn : x.n ≠ 0) (hc : v.fdiv 9223372036854775808 = c) :
    Ac.blk ⟨wr .i64 (x.n + 1), wr .i64 (wr .i64 (x.h + c) + wr .i64 (wr .u64 (Int.tdiv (wr .u64 (wr .u64 (wr .u64 (Int.tdiv x.l 4294967296) + wr .u64 (Int.tdiv (wr .u64 v) 4294967296)) + wr .u64 (Int.tdiv (wr .u64 (Int.tmod x.l 4294967296 + Int.tmod (wr .u64 v) 4294967296)) 4294967296))) 4294967296))),
      wr .u64 (wr .u64 (Int.tmod (wr .u64 (wr .u64 (wr .u64 (Int.tdiv x.l 4294967296) + wr .u64 (Int.tdiv (wr .u64 v) 4294967296)) + wr .u64 (Int.tdiv (wr .u64 (Int.tmod x.l 4294967296 + Int.tmod (wr .u64 v) 4294967296)) 4294967296))) 4294967296 * 4294967296) + Int.tmod (wr .u64 (Int.tmod x.l 4294967296 + Int.tmod (wr .u64 v) 4294967296)) 4294967296),
      if v < x.a then v else x.a, if x.b < v then v else x.b⟩ = (merge x (one v)).blk := by
  obtain ⟨k1, k2⟩ := halves hx.1 hx.2 (wru_ok v).1 (wru_ok v).2
  rw [k1, k2, merge_ne hn (by simp [one])]
  simp only [one, hc]

section
variable {xs : List Int} {ra : Nat → Nat → Nat × Nat} {base : Nat} 

theorem of_loop (hxs : ∀ v ∈ xs, in64 v) {m : Nat} (hm : m ≤ xs.length) (hb : m ≤ 1000) :
    Takes Try.prog (tabI xs) ra base 2 (.loop (codeOf 15 [false, false, true, false, true, true])) (mkT 19 [(0, .slice (.ro 0 0 0 0) m none), (2, .ptr (.own 1 0 0 0)), (3, .ptr (.own 0 0 0 0)), (4, .int .i64 0)]) (hp 0 [zero.blk, zero.blk])
      fun x => x = (.exit 0, mkT 19 [(2, .ptr (.own 1 0 0 0)), (3, .ptr (.own 0 0 0 0))], hp 0 [(upto xs m).blk, zero.blk]) := by
  refine takes_loop (fun j ts h => ∃ i : Nat, i ≤ m ∧ j = m - i + 1 ∧ ts = mkT 19 [(0, .slice (.ro 0 0 0 0) m none), (2, .ptr (.own 1 0 0 0)), (3, .ptr (.own 0 0 0 0)), (4, .int .i64 i)] ∧ h = hp 0 [(upto xs i).blk, zero.blk])
    (fun ts h => by rintro ⟨i, _, h, _⟩; omega) (fun j ts h => ?_) (j := m + 1) ⟨0, Nat.zero_le _, rfl, rfl, rfl⟩
  rintro ⟨i, hi, hj, rfl, rfl⟩
  refine takes_of_tree (tab_plain xs) (W_ok sumNone_ok noL_ok) (f := 15) (.inr (by kernel_rfl)) (hp_below _) (of_round m i (upto xs i).n (upto xs i).h (upto xs i).l (upto xs i).a (upto xs i).b xs) ?_
  simp only [Tree.holds, decide_eq_true_eq, decide_eq_false_iff_not, Bool.and_eq_true, Bool.and_true]
  refine ⟨fun h1 => ?_, fun h1 => ?_⟩
  · have hlt : i < xs.length := by omega
    have hw : wr .i64 ((i : Int) + 1) = ((i + 1 : Nat) : Int) := by rw [wr_in ⟨by omega, by omega⟩]; omega
    have hv : in64 xs[i] := hxs _ (List.getElem_mem _)
    have step : ∀ B, B = (merge (upto xs i) (one xs[i])).blk → Round (fun ts h => ∃ i : Nat, i ≤ m ∧ j = m - i + 1 ∧ ts = mkT 19 [(0, .slice (.ro 0 0 0 0) m none), (2, .ptr (.own 1 0 0 0)), (3, .ptr (.own 0 0 0 0)), (4, .int .i64 i)] ∧ h = hp 0 [(upto xs i).blk, zero.blk])
        (fun x => x = (.exit 0, mkT 19 [(2, .ptr (.own 1 0 0 0)), (3, .ptr (.own 0 0 0 0))], hp 0 [(upto xs m).blk, zero.blk])) (.normal, mkT 19 [(0, .slice (.ro 0 0 0 0) m none), (2, .ptr (.own 1 0 0 0)), (3, .ptr (.own 0 0 0 0)), (4, .int .i64 (wr .i64 ((i : Int) + 1)))], hp 0 [B, zero.blk]) := by
      rintro B rfl
      exact ⟨i + 1, by omega, by omega, by rw [hw], by rw [upto_succ hlt]⟩
    refine ⟨by omega, by rw [toNat_nat]; exact hlt, fun h3 => ⟨fun h2 => ?_, fun h2 => ?_⟩, fun h3 => ⟨fun h2 => ?_, fun h2 => ?_⟩⟩
    · refine step _ ?_
      rw [getD_nat hlt] at h3 ⊢
      rw [merge, if_pos h2, one, hi_neg hv h3]; rfl
    · refine step _ ?_
      rw [getD_nat hlt] at h3 ⊢
      exact merge_rest (upto_ok xs i) h2 (hi_neg hv h3)
    · refine step _ ?_
      rw [getD_nat hlt] at h3 ⊢
      rw [merge, if_pos h2, one, hi_pos hv h3]; rfl
    · refine step _ ?_
      rw [getD_nat hlt] at h3 ⊢
      exact merge_rest (upto_ok xs i) h2 (hi_pos hv h3)
  · have : i = m := by omega
    subst this
    rfl
end

end Go.Proofs.Ytebpekgijakonaa
