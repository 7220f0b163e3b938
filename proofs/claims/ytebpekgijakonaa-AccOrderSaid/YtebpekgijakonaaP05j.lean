/- acc: AccOrder's first loop: all values, one by one. -/
import Derived.Test.YtebpekgijakonaaP05i
import Derived.Test.YtebpekgijakonaaT05i
namespace Go.Proofs.Ytebpekgijakonaa
open Ab

theorem and_low (v : Int) : wr .i64 ((Int.toNat (v % 18446744073709551616) &&& 4294967295 : Nat) : Int) = v % 4294967296 := by
  have h0 := Int.emod_nonneg v (show (18446744073709551616 : Int) ≠ 0 by decide)
  have e : (Int.toNat (v % 18446744073709551616)) &&& 4294967295 = Int.toNat (v % 18446744073709551616) % 4294967296 := Nat.and_two_pow_sub_one_eq_mod _ 32
  rw [e, wr_in ⟨by omega, by omega⟩]
  omega

theorem sH_snoc : ∀ (l : List Int) (v : Int), sH (l ++ [v]) = sH l + v / 4294967296
  | [], v => by simp [sH]
  | w :: l, v => by simp only [List.cons_append, sH, sH_snoc l v]; omega
theorem sL_snoc : ∀ (l : List Int) (v : Int), sL (l ++ [v]) = sL l + v % 4294967296
  | [], v => by simp [sL]
  | w :: l, v => by simp only [List.cons_append, sL, sL_snoc l v]; omega

theorem sH_bound : ∀ l : List Int, (∀ v ∈ l, in64 v) → -(l.length * 2147483648 : Int) ≤ sH l ∧ sH l ≤ l.length * 2147483648
  | [], _ => by simp [sH]
  | v :: l, h => by
    have h1 := sH_bound l fun w hw => h w (by simp [hw])
    obtain ⟨h2, h3⟩ := h v (by simp)
    simp only [sH, List.length_cons]; omega
theorem sL_bound : ∀ l : List Int, 0 ≤ sL l ∧ sL l ≤ l.length * 4294967296
  | [] => by simp [sL]
  | v :: l => by
    have h1 := sL_bound l
    simp only [sL, List.length_cons]; omega

theorem tot_snoc {l : List Int} (h : l ≠ []) (v : Int) : tot (l ++ [v]) = (tot l).add (single v) := by
  cases l with
  | nil => exact absurd rfl h
  | cons w l => simp [tot, List.foldl_append]

/-- the first ones: what they are together -/
theorem tot_facts : ∀ (n : Nat) (l : List Int), l.length = n + 1 → (∀ v ∈ l, in64 v) → Total (l.map single) (tot l) ∧ (tot l).ok ∧ (tot l).n = (n + 1 : Nat) ∧ (tot l).s = sH l * 4294967296 + sL l
  | 0, l, hl, h => by
    obtain ⟨v, rfl⟩ := List.length_eq_one_iff.1 hl
    refine ⟨total_single _, single_ok (h v (by simp)), rfl, ?_⟩
    show v = (v / 4294967296 + 0) * 4294967296 + (v % 4294967296 + 0)
    omega
  | n + 1, l, hl, h => by
    have hne : l ≠ [] := fun e => by subst e; simp at hl
    obtain ⟨l', v, rfl⟩ : ∃ l' v, l = l' ++ [v] := ⟨l.dropLast, l.getLast hne, (List.dropLast_concat_getLast hne).symm⟩
    have hl' : l'.length = n + 1 := by simpa using hl
    have hne' : l' ≠ [] := fun e => by subst e; simp at hl'
    obtain ⟨h1, h2, h3, h4⟩ := tot_facts n l' hl' fun w hw => h w (by simp [hw])
    rw [tot_snoc hne', List.map_append]
    refine ⟨h1.snoc, add_ok h2 (single_ok (h v (by simp))), ?_, ?_⟩
    · show (tot l').n + 1 = _; rw [h3]; omega
    · show (tot l').s + v = _
      rw [h4, sH_snoc, sL_snoc]; omega

section
variable {xs ch : List Int} {ra : Nat → Nat → Nat × Nat} {base : Nat} {m : Nat} {C : AVal}

theorem take_snoc {i : Nat} (h : i < xs.length) : xs.take (i + 1) = xs.take i ++ [xs[i]] := by
  rw [List.take_add_one, List.getElem?_eq_getElem h]; rfl

def tsG (m : Nat) (C P : AVal) (hi lo i : Int) : List (Nat × AVal) := [(0, .slice (.ro 0 0 0 0) m none), (1, C), (5, P), (6, .ptr (.own 0 0 0 0)), (7, .int .i64 hi), (8, .int .i64 lo), (9, .int .i64 i)]

theorem okL_one (v : Int) : okL { n := 1, h := Int.fdiv v 9223372036854775808, l := wr .u64 v, a := v, b := v } = true := by
  have := wru_ok v
  simp only [okL, this, decide_true, Bool.and_self]

def pG : List Bool := [false, false, true, false, true, true, true, true, true, true]

theorem gather0 (hC : ChO C ch) (hm : 1 ≤ m) (hm' : m ≤ xs.length) (hxs : ∀ v ∈ xs, in64 v) : TkO xs ch ra base pG (tsG m C .nils 0 0 0) [zero.blk]
    fun y => y = (.normal, mkT 160 (tsG m C (.slice (.own 1 0 0 5) 1 none) (sH (xs.take 1)) (sL (xs.take 1)) ((1 : Nat) : Int)), hp 0 [(tot (xs.take 1)).ac.blk, rowB (singles (xs.take 1))]) := by
  have hlt : 0 < xs.length := by omega
  have hv : in64 xs[0] := hxs _ (List.getElem_mem _)
  have hg : xs.getD (0 + Int.toNat 0) 0 = xs[0] := getD_nat (i := 0) hlt
  have e1 : xs.take 1 = [xs[0]] := by rw [take_snoc hlt]; rfl
  have hmz : merge zero { n := 1, h := Int.fdiv xs[0] 9223372036854775808, l := wr .u64 xs[0], a := xs[0], b := xs[0] } = (single xs[0]).ac := by
    rw [← one_single hv]; rfl
  have hone : Int.fdiv xs[0] 9223372036854775808 = (single xs[0]).ac.h := congrArg Ac.h (one_single hv)
  have hz : okL zero = true := rfl
  rw [e1]
  generalize xs[0] = v at *
  have e2 : wr .i64 (0 + Int.fdiv v 4294967296) = sH [v] := by
    obtain ⟨h1, h2⟩ := hv
    rw [Int.fdiv_eq_ediv_of_nonneg _ (by omega), wr_in ⟨by omega, by omega⟩]; simp [sH]
  have e3 : wr .i64 (0 + v % 4294967296) = sL [v] := by
    rw [wr_in ⟨by omega, by omega⟩]; simp [sL]
  have hfin : ∀ C : AVal, ((.normal, mkT 160 (tsG m C (.slice (.own 1 0 0 5) 1 none) (wr .i64 (0 + Int.fdiv v 4294967296)) (wr .i64 (0 + v % 4294967296)) (wr .i64 (0 + 1))), hp 0 [(single v).ac.blk, .segs [⟨1, 5, [.int .i64 [1], .int .i64 [Int.fdiv v 9223372036854775808], .int .u64 [wr .u64 v], .int .i64 [v], .int .i64 [v]]⟩]]) : State) =
      (.normal, mkT 160 (tsG m C (.slice (.own 1 0 0 5) 1 none) (sH [v]) (sL [v]) ((1 : Nat) : Int)), hp 0 [(tot [v]).ac.blk, rowB (singles [v])]) := by
    intro C
    rw [e2, e3, hone]; rfl
  rcases hC with rfl | rfl
  · refine takes_of_tree (tabO_plain xs ch) wO (f := 5) (.inr (by kernel_rfl)) (hp_below _) (ga0_n m 0 0 0 zero xs ch) ?_
    simp only [Tree.holds, decide_eq_true_eq, decide_eq_false_iff_not, Bool.and_eq_true, hg, and_low, okL_one, hmz, hz]
    refine ⟨fun _ => ⟨⟨by omega, by omega⟩, by simpa using hlt, ⟨by omega, by omega⟩, by simpa using hlt, ⟨trivial, trivial⟩, ⟨by omega, by omega⟩, by simpa using hlt, ⟨by omega, by omega⟩, by simpa using hlt, hfin _⟩, fun h => absurd h (by omega)⟩
  · refine takes_of_tree (tabO_plain xs ch) wO (f := 5) (.inr (by kernel_rfl)) (hp_below _) (ga0_c m ch.length 0 0 0 zero xs ch) ?_
    simp only [Tree.holds, decide_eq_true_eq, decide_eq_false_iff_not, Bool.and_eq_true, hg, and_low, okL_one, hmz, hz]
    refine ⟨fun _ => ⟨⟨by omega, by omega⟩, by simpa using hlt, ⟨by omega, by omega⟩, by simpa using hlt, ⟨trivial, trivial⟩, ⟨by omega, by omega⟩, by simpa using hlt, ⟨by omega, by omega⟩, by simpa using hlt, hfin _⟩, fun h => absurd h (by omega)⟩

theorem app_map {f : Ac → Int} {ps : List Ac} {z : Ac} : (ps.map f).take ps.length ++ [f z] = (ps ++ [z]).map f := by
  rw [List.map_append, List.take_of_length_le (by simp)]; rfl

/-- one more, or the end -/
theorem gather1 (hC : ChO C ch) (hm' : m ≤ xs.length) (hb : m ≤ 100) (hxs : ∀ v ∈ xs, in64 v) {i : Nat} (h1 : 1 ≤ i) (hi : i ≤ m) : TkO xs ch ra base pG (tsG m C (.slice (.own 1 0 0 5) i none) (sH (xs.take i)) (sL (xs.take i)) i) [(tot (xs.take i)).ac.blk, rowB (singles (xs.take i))]
    fun y => (i < m ∧ y = (.normal, mkT 160 (tsG m C (.slice (.own 1 0 0 5) (i + 1) none) (sH (xs.take (i + 1))) (sL (xs.take (i + 1))) ((i + 1 : Nat) : Int)), hp 0 [(tot (xs.take (i + 1))).ac.blk, rowB (singles (xs.take (i + 1)))])) ∨
      (i = m ∧ y = (.exit 0, mkT 160 ((gatherD xs C).outs m), hp 0 ((gatherD xs C).blks' m))) := by
  have qa : m ≤ 100 → i ≤ m → (i + 1) * 40 ≤ 35184372088832 := fun _ _ => by omega
  have qb : (0 : Int) ≤ i := by omega
  have qc : 0 + i ≤ i := by omega
  have hln : (singles (xs.take i)).length = i := by rw [singles, List.length_map, List.length_take]; omega
  have htl : (xs.take i).length = i := by rw [List.length_take]; omega
  obtain ⟨q, hq⟩ : ∃ q, i = q + 1 := ⟨i - 1, by omega⟩
  obtain ⟨t1, t2, t3, _⟩ := tot_facts q (xs.take i) (by omega) fun w hw => hxs w (List.mem_of_mem_take hw)
  have hH := sH_bound (xs.take i) fun w hw => hxs w (List.mem_of_mem_take hw)
  have hL := sL_bound (xs.take i)
  rw [htl] at hH hL
  have hok : okL (tot (xs.take i)).ac = true := ac_okL
  rcases Nat.lt_or_ge i m with hlt | hge
  · have hlx : i < xs.length := Nat.lt_of_lt_of_le hlt hm'
    have qd : (i : Int) < (m : Int) := Int.ofNat_lt.2 hlt
    have hv : in64 xs[i] := hxs _ (List.getElem_mem _)
    have hg : xs.getD i 0 = xs[i] := by have := getD_nat hlx; rwa [toNat_nat] at this
    have hone : ({ n := 1, h := Int.fdiv xs[i] 9223372036854775808, l := wr .u64 xs[i], a := xs[i], b := xs[i] } : Ac) = (single xs[i]).ac := one_single hv
    have hmz : merge (tot (xs.take i)).ac (single xs[i]).ac = (tot (xs.take (i + 1))).ac := by
      rw [merge_ac t2 (single_ok hv) (by rw [t3]; show _ + 1 ≤ _; omega), take_snoc hlx, tot_snoc (fun e => by rw [e] at htl; simp at htl; omega)]
    have hsn : singles (xs.take (i + 1)) = singles (xs.take i) ++ [(single xs[i]).ac] := by rw [take_snoc hlx, singles, List.map_append]; rfl
    have e2 : wr .i64 (sH (xs.take i) + Int.fdiv xs[i] 4294967296) = sH (xs.take (i + 1)) := by
      obtain ⟨g1, g2⟩ := hv
      rw [take_snoc hlx, sH_snoc, Int.fdiv_eq_ediv_of_nonneg _ (by omega), wr_in ⟨by omega, by omega⟩]
    have e3 : wr .i64 (sL (xs.take i) + xs[i] % 4294967296) = sL (xs.take (i + 1)) := by
      rw [take_snoc hlx, sL_snoc, wr_in ⟨by omega, by omega⟩]
    have hln2 : (singles (xs.take (i + 1))).length = i + 1 := by rw [singles, List.length_map, List.length_take, Nat.min_eq_left hlx]
    have e4 : wr .i64 ((i : Int) + 1) = ((i + 1 : Nat) : Int) := by rw [wr_in ⟨by omega, by omega⟩]; omega
    have hh : Int.fdiv xs[i] 9223372036854775808 = (single xs[i]).ac.h := congrArg Ac.h hone
    have hm1 : ({ n := 1, h := Int.fdiv xs[i] 9223372036854775808, l := wr .u64 xs[i], a := xs[i], b := xs[i] } : Ac) = (single xs[i]).ac := hone
    have c0 : ∀ f : Ac → Int, ((singles (xs.take i)).map f).take i ++ [f (single xs[i]).ac] = (singles (xs.take (i + 1))).map f := fun f => by
      have := app_map (f := f) (ps := singles (xs.take i)) (z := (single xs[i]).ac)
      rw [hln] at this; rw [hsn]; exact this
    have c1 : ((singles (xs.take i)).map (fun x => Ac.n x)).take i ++ [1] = (singles (xs.take (i + 1))).map (fun x => Ac.n x) := c0 _
    have c2 : ((singles (xs.take i)).map (fun x => Ac.h x)).take i ++ [Int.fdiv xs[i] 9223372036854775808] = (singles (xs.take (i + 1))).map (fun x => Ac.h x) := by rw [hh]; exact c0 _
    have c3 : ((singles (xs.take i)).map (fun x => Ac.l x)).take i ++ [wr .u64 xs[i]] = (singles (xs.take (i + 1))).map (fun x => Ac.l x) := c0 _
    have c4 : ((singles (xs.take i)).map (fun x => Ac.a x)).take i ++ [xs[i]] = (singles (xs.take (i + 1))).map (fun x => Ac.a x) := c0 _
    have c5 : ((singles (xs.take i)).map (fun x => Ac.b x)).take i ++ [xs[i]] = (singles (xs.take (i + 1))).map (fun x => Ac.b x) := c0 _
    have hr1 : rowB (singles (xs.take (i + 1))) = .segs [⟨i + 1, 5, [.int .i64 ((singles (xs.take (i + 1))).map (fun x => Ac.n x)), .int .i64 ((singles (xs.take (i + 1))).map (fun x => Ac.h x)), .int .u64 ((singles (xs.take (i + 1))).map (fun x => Ac.l x)), .int .i64 ((singles (xs.take (i + 1))).map (fun x => Ac.a x)), .int .i64 ((singles (xs.take (i + 1))).map (fun x => Ac.b x))]⟩] := by rw [rowB, hln2]
    generalize (singles (xs.take (i + 1))).map (fun x => Ac.n x) = d1 at c1 hr1
    generalize (singles (xs.take (i + 1))).map (fun x => Ac.h x) = d2 at c2 hr1
    generalize (singles (xs.take (i + 1))).map (fun x => Ac.l x) = d3 at c3 hr1
    generalize (singles (xs.take (i + 1))).map (fun x => Ac.a x) = d4 at c4 hr1
    generalize (singles (xs.take (i + 1))).map (fun x => Ac.b x) = d5 at c5 hr1
    rw [← hm1] at hmz
    generalize tot (xs.take (i + 1)) = T' at hmz
    generalize sH (xs.take (i + 1)) = H' at e2
    generalize sL (xs.take (i + 1)) = L' at e3
    refine Takes.mono (Q := fun y => y = (.normal, mkT 160 (tsG m C (.slice (.own 1 0 0 5) (i + 1) none) H' L' ((i + 1 : Nat) : Int)), hp 0 [T'.ac.blk, rowB (singles (xs.take (i + 1)))])) (fun y hy => .inl ⟨hlt, hy⟩) ?_
    rw [hr1]
    have hsl : ∀ C : AVal, tsG m C (.slice (.own 1 0 0 5) i none) (sH (xs.take i)) (sL (xs.take i)) i = tsG m C (.slice (.own 1 0 0 5) (singles (xs.take i)).length none) (sH (xs.take i)) (sL (xs.take i)) i := fun C => by rw [hln]
    rw [hsl]
    rcases hC with rfl | rfl
    · refine takes_of_tree (tabO_plain xs ch) wO (f := 5) (.inr (by kernel_rfl)) (hp_below _) (ga1_n m i (sH (xs.take i)) (sL (xs.take i)) (tot (xs.take i)).ac (singles (xs.take i)) xs ch) ?_
      simp only [Tree.holds, decide_eq_true_eq, decide_eq_false_iff_not, Bool.and_eq_true, hg, and_low, okL_one, hok, toNat_nat, List.drop_zero, hmz, e2, e3, e4, hln, List.take_succ_cons, List.take_zero, c1, c2, c3, c4, c5]
      exact ⟨fun _ => ⟨⟨qb, qd⟩, hlx, qa hb hi, qc, ⟨qb, qd⟩, hlx, ⟨trivial, trivial⟩, ⟨qb, qd⟩, hlx, ⟨qb, qd⟩, hlx, rfl⟩, fun h => absurd qd h⟩
    · refine takes_of_tree (tabO_plain xs ch) wO (f := 5) (.inr (by kernel_rfl)) (hp_below _) (ga1_c m ch.length i (sH (xs.take i)) (sL (xs.take i)) (tot (xs.take i)).ac (singles (xs.take i)) xs ch) ?_
      simp only [Tree.holds, decide_eq_true_eq, decide_eq_false_iff_not, Bool.and_eq_true, hg, and_low, okL_one, hok, toNat_nat, List.drop_zero, hmz, e2, e3, e4, hln, List.take_succ_cons, List.take_zero, c1, c2, c3, c4, c5]
      exact ⟨fun _ => ⟨⟨qb, qd⟩, hlx, qa hb hi, qc, ⟨qb, qd⟩, hlx, ⟨trivial, trivial⟩, ⟨qb, qd⟩, hlx, ⟨qb, qd⟩, hlx, rfl⟩, fun h => absurd qd h⟩
  · have him : i = m := by omega
    subst him
    refine Takes.mono (Q := fun y => y = (.exit 0, mkT 160 ((gatherD xs C).outs i), hp 0 ((gatherD xs C).blks' i))) (fun y hy => .inr ⟨rfl, hy⟩) ?_
    have hsl : ∀ C : AVal, tsG i C (.slice (.own 1 0 0 5) i none) (sH (xs.take i)) (sL (xs.take i)) i = tsG i C (.slice (.own 1 0 0 5) (singles (xs.take i)).length none) (sH (xs.take i)) (sL (xs.take i)) i := fun C => by rw [hln]
    have hso : ∀ C : AVal, (gatherD xs C).outs i = [(0, .slice (.ro 0 0 0 0) i none), (1, C), (5, .slice (.own 1 0 0 5) (singles (xs.take i)).length none), (6, .ptr (.own 0 0 0 0)), (7, .int .i64 (sH (xs.take i))), (8, .int .i64 (sL (xs.take i)))] := fun C => by rw [hln]; rfl
    rw [hsl, hso]
    rcases hC with rfl | rfl
    · refine takes_of_tree (tabO_plain xs ch) wO (f := 5) (.inr (by kernel_rfl)) (hp_below _) (ga1_n i i (sH (xs.take i)) (sL (xs.take i)) (tot (xs.take i)).ac (singles (xs.take i)) xs ch) ?_
      simp only [Tree.holds, decide_eq_true_eq, decide_eq_false_iff_not, Bool.and_eq_true]
      exact ⟨fun h => absurd h (by omega), fun _ => rfl⟩
    · refine takes_of_tree (tabO_plain xs ch) wO (f := 5) (.inr (by kernel_rfl)) (hp_below _) (ga1_c i ch.length i (sH (xs.take i)) (sL (xs.take i)) (tot (xs.take i)).ac (singles (xs.take i)) xs ch) ?_
      simp only [Tree.holds, decide_eq_true_eq, decide_eq_false_iff_not, Bool.and_eq_true]
      exact ⟨fun h => absurd h (by omega), fun _ => rfl⟩
end

end Go.Proofs.Ytebpekgijakonaa
