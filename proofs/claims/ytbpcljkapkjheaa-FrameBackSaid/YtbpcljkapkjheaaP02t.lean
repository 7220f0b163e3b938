/- frame: FrameBack: its pieces; the whole. -/
import Derived.Test.YtbpcljkapkjheaaP02s
import Derived.Test.YtbpcljkapkjheaaP02f
import Derived.Test.YtbpcljkapkjheaaT02c
set_option linter.unusedSimpArgs false
set_option linter.unusedVariables false
namespace Go.Proofs.Ytbpcljkapkjheaa
open Ab

theorem okL_iff {L : List ByteArray} : okL L = true ↔ L.length ≤ 1000 ∧ ∀ t ∈ L, t.size ≤ 1000 := by
  simp only [okL, Bool.and_eq_true, decide_eq_true_eq, List.all_eq_true]
theorem catB_len : ∀ {M : List ByteArray}, (∀ t ∈ M, t.size ≤ 1000) → (catB M).length ≤ M.length * 1005
  | [], _ => by simp [catB]
  | t :: M, h => by
    have h1 := catB_len (M := M) fun u hu => h u (List.mem_cons_of_mem _ hu)
    have h2 := h t (List.mem_cons_self ..)
    rw [catB, List.length_append, bs_len, frame_size, List.length_cons]
    omega
theorem cntR_le : ∀ (M : List ByteArray) (m : Nat), cntR M m ≤ M.length
  | [], _ => Nat.zero_le _
  | t :: M, m => by
    rw [cntR, List.length_cons]
    split
    · have := cntR_le M (m - (t.size + 5)); omega
    · omega
theorem emp_of {r : ByteArray} (h : r.size = 0) : r = noTx := by
  have : r.data = #[] := Array.eq_empty_of_size_eq_zero h
  cases r; simp only at this; subst this; rfl

def At3 (x : B3) (j : Nat) (ts : Tmps) (h : Log) : Prop := ∃ i : Nat, i ≤ x.L.length ∧ j = x.L.length - i + 1 ∧ ts = mkT 193 (x.at (catT (x.L.take i)) (i : Nat)) ∧ h = hp 0 x.bs
theorem at_3 {x : B3} {j i : Nat} {g : ByteArray} (h1 : i ≤ x.L.length) (h2 : j = x.L.length - i + 1) (hg : g = catT (x.L.take i)) : At3 x j (mkT 193 (x.at g (i : Nat))) (hp 0 x.bs) := by
  subst hg; exact ⟨i, h1, h2, rfl, rfl⟩
theorem post_3 {x : B4} {g : ByteArray} (h : g = catT x.x.L) : PostL 193 x (.exit 4, mkT 193 [(2, .str x.x.s), (15, .int .i64 x.x.a), (23, .str g)], hp 0 []) b3D.alts := ⟨g, h, rfl⟩
theorem small_lt {t : ByteArray} (h : t.size ≤ 1000) : longB t = false := decide_eq_false (by omega)

section
variable {E : Nat → Nat → Seg} {ra : Nat → Nat → Nat × Nat} {base : Nat}

theorem b3_takes (hE : Plain E) (x : B4) (hx : b3D.pre x = true) : Takes Try.prog E ra base 0 (.loop (codeOf 5 (false :: pB3))) (mkT 193 (b3D.ins x)) (hp 0 (b3D.blks x)) fun y => PostL 193 x y b3D.alts := by
  have hS := S5_ok (ra := ra) (base := base) hE
  obtain ⟨⟨s, a, f, L⟩, g⟩ := x
  simp only [b3D, Bool.and_eq_true, decide_eq_true_eq] at hx
  obtain ⟨hL, hg, hf⟩ := hx
  obtain rfl := emp_of hg
  obtain ⟨l1, l2⟩ := okL_iff.1 hL
  cases f with
  | false =>
    obtain rfl : L = [] := List.isEmpty_iff.1 (by simpa using hf)
    refine takes_loop (fun j ts h => j = 1 ∧ ts = mkT 193 (B3.at ⟨s, a, false, []⟩ noTx 0) ∧ h = hp 0 []) (fun ts h => by rintro ⟨h, _⟩; omega) (fun j ts h' => ?_) (j := 1) ⟨rfl, rfl, rfl⟩
    rintro ⟨_, rfl, rfl⟩
    refine takes_of_tree hE (W_ok hS noL_ok) (f := 5) (.inr (by kernel_rfl)) (hp_below _) (b3_n E a s noTx) ?_
    exact post_3 (x := ⟨⟨s, a, false, []⟩, noTx⟩) rfl
  | true =>
    refine takes_loop (At3 ⟨s, a, true, L⟩) (fun ts h => by rintro ⟨i, _, h, _⟩; omega) (fun j ts h' => ?_) (j := L.length + 1) (at_3 (x := ⟨s, a, true, L⟩) (i := 0) (Nat.zero_le _) (by simp) rfl)
    rintro ⟨i, k1, k2, rfl, rfl⟩
    simp only at k1 k2
    refine takes_of_tree hE (W_ok hS noL_ok) (f := 5) (.inr (by kernel_rfl)) (hp_below _) (b3_g E a i s (catT (L.take i)) L) ?_
    simp only [Tree.holds]
    refine ⟨fun hl => ?_, fun hl => ?_⟩
    · have g1 := of_decide_eq_true hl
      have hi : i < L.length := by omega
      have hi2 : i ≤ 2000 := by omega
      have e4 : 0 + Int.toNat (i : Int) = i := by omega
      rw [e4]
      have hr : catT (L.take (i + 1)) = catT (L.take i) ++ frameT (L.getD i noTx) := by rw [take_snoc hi, catT_snoc]
      have ht : (L.getD i noTx).size ≤ 1000 := by
        rw [List.getD_eq_getElem?_getD, List.getElem?_eq_getElem hi]
        exact l2 _ (List.getElem_mem hi)
      have hz : (catT (L.take i)).size ≤ 1005000 := by
        have := catB_len (M := L.take i) fun t h => l2 t (List.mem_of_mem_take h)
        rw [List.length_take] at this
        rw [catT_size]
        have h2 : min i L.length * 1005 ≤ 1000 * 1005 := Nat.mul_le_mul_right _ (by omega)
        exact Nat.le_trans this h2
      obtain ⟨t, et⟩ : ∃ t, L.getD i noTx = t := ⟨_, rfl⟩
      rw [et] at hr ht
      rw [et]
      have f1 : (if longB t = true then noTx else frameT t) = frameT t := if_neg (by rw [small_lt ht]; decide)
      have f2 : (if longB t = true then (4 : Int) else 0) = 0 := if_neg (by rw [small_lt ht]; decide)
      rw [f1, f2]
      have c1 : decide (0 ≤ (i : Int)) = true := decide_eq_true (by omega)
      have c3 : decide (i < L.length) = true := decide_eq_true hi
      have c7 : smallT t = true := decide_eq_true (by omega)
      have c8 : decide ((catT (L.take i)).size + (frameT t).size ≤ 9223372036854775807) = true := decide_eq_true (by rw [frame_size]; omega)
      simp only [hl, c1, c3, c7, c8, wr_succ hi2, decide_true, Bool.and_self, Bool.and_true, true_and, Bool.not_true, Bool.false_eq_true, false_implies, forall_const]
      exact at_3 (x := ⟨s, a, true, L⟩) (i := i + 1) (j := j) (g := catT (L.take i) ++ frameT t) hi (by simp only; omega) hr.symm
    · have g1 := of_decide_eq_false hl
      rw [List.take_of_length_le (by omega)]
      exact post_3 (x := ⟨⟨s, a, true, L⟩, noTx⟩) rfl
theorem TB3_ok (hE : Plain E) : ToldsOK Try.prog E ra base 0 TB3 := sumT_ok noT_ok rfl (toldR_ok (c := .loop (codeOf 5 (false :: pB3))) (by kernel_rfl) (b3_takes hE))

theorem yes_5 {x : B5} : PostL 193 x (.ret, mkT 193 [(6, .bool true)], hp 0 []) b5D.alts := ⟨(), trivial, rfl⟩
theorem yes_6 {x : ByteArray} : PostL 193 x (.ret, mkT 193 [(6, .bool true)], hp 0 []) b6D.alts := ⟨(), trivial, rfl⟩

theorem r5_takes (hE : Plain E) (s : ByteArray) (hx : b6D.pre s = true) : Takes Try.prog E ra base 0 (codeOf 5 pR5) (mkT 193 (b6D.ins s)) (hp 0 (b6D.blks s)) fun y => PostL 193 s y b6D.alts := by
  have hS := S5_ok (ra := ra) (base := base) hE
  refine takes_of_treeQ hE (W_ok hS noL_ok) (TB3_ok hE) (f := 5) (.inr (by kernel_rfl)) (hp_below _) (r5_s E s) ?_
  obtain ⟨k, e1, e2, e3, e4⟩ := back_of (s := cut5 s)
  have hc := cut5_le s
  have hl := all_le (cut5 s)
  have u := nums_u (t := s) rfl
  have c1 : decide (0 ≤ if 500 < (s.size : Int) then 500 else (s.size : Int)) = true := decide_eq_true u.1
  have c2 : decide ((if 500 < (s.size : Int) then 500 else (s.size : Int)) ≤ (s.size : Int)) = true := decide_eq_true u.2
  have c3 : lowT (cut5 s) = true := decide_eq_true (by omega)
  have c4 : okL (allT (cut5 s)).L = true := okL_iff.2 ⟨by omega, fun t ht => by have := e4 t ht; omega⟩
  have hx : ByteArray.extract (cut5 s) (orNat none 0) (orNat (some (k : Int)) (cut5 s).size) = catT (allT (cut5 s)).L := by
    rw [e3]; simp only [orNat]; rw [Int.toNat_natCast]
  have c5 : decide (0 ≤ (k : Int)) = true := decide_eq_true (by omega)
  have c6 : decide ((k : Int) ≤ ((cut5 s).size : Int)) = true := decide_eq_true (by omega)
  rw [e1, hx]
  simp only [TreeQ.holds, c1, c2, c3, c4, c5, c6, decide_true, Bool.and_self, Bool.and_true, Bool.true_and, true_and, true_implies, Bool.true_eq_false, false_implies, and_true]
  refine ⟨fun hn => ⟨hn, fun y hy => ?_⟩, fun hn => ⟨by rw [hn]; rfl, fun y hy => ?_⟩⟩
  · have hy : y = catT (allT (cut5 s)).L := by rw [none_nil hn]; exact hy
    rw [hy, beq_tx]; exact yes_6
  · have hy : y = catT (allT (cut5 s)).L := hy
    rw [hy, beq_tx]; exact yes_6
theorem TB2_ok (hE : Plain E) : ToldsOK Try.prog E ra base 0 TB2 :=
  sumT_ok (sumT_ok noT_ok rfl (toldR_ok (c := codeOf 5 pR5) (by kernel_rfl) (r5_takes hE))) rfl (toldR_ok (c := .loop (codeOf 5 (false :: pB2))) (by kernel_rfl) (b2_takes hE))

structure Ok5 (x : B5) : Prop where
  r : x.r = catT x.own
  pl : x.pl = plc 0 x.own
  n : x.own.length ≤ 20
  s : ∀ t ∈ x.own, t.size ≤ 500
  f : x.f = !x.own.isEmpty
  q0 : 0 ≤ x.q
  q1 : x.q < 65536
theorem okB_iff {x : B5} : okB x = true ↔ Ok5 x := by
  simp only [okB, Bool.and_eq_true, decide_eq_true_eq, List.all_eq_true]
  exact ⟨fun ⟨a, b, c, d, e, f, g⟩ => ⟨a, b, c, d, e, f, g⟩, fun ⟨a, b, c, d, e, f, g⟩ => ⟨a, b, c, d, e, f, g⟩⟩
theorem cat_size {M : List ByteArray} (n : M.length ≤ 20) (s : ∀ t ∈ M, t.size ≤ 500) : (catT M).size ≤ 20000 + 100 := by
  have := catB_len (M := M) fun t h => Nat.le_trans (s t h) (by omega)
  have h2 : M.length * 1005 ≤ 20 * 1005 := Nat.mul_le_mul_right _ n
  rw [catT_size]; exact Nat.le_trans this h2
theorem wr_3 {n : Nat} (h : n ≤ 20100) : wr .i64 ((n : Int) + 1) = (n : Int) + 1 := wr_in ⟨by omega, by omega⟩
theorem ne_1 {n : Nat} : ¬ (n : Int) + 1 = 0 := by omega
theorem cut_num {q : Int} {n : Nat} (h : 0 ≤ q) : ∃ m : Nat, Int.tmod q ((n : Int) + 1) = m ∧ m ≤ n := by
  have := tmod_in h (show (0 : Int) < (n : Int) + 1 by omega)
  exact ⟨(Int.tmod q ((n : Int) + 1)).toNat, by omega, by omega⟩

theorem r3_takes (hE : Plain E) (x : B5) (hx : b5D.pre x = true) : Takes Try.prog E ra base 0 (codeOf 5 pR3) (mkT 193 (b5D.ins x)) (hp 0 (b5D.blks x)) fun y => PostL 193 x y b5D.alts := by
  have hS := S5_ok (ra := ra) (base := base) hE
  have o := okB_iff.1 hx
  obtain ⟨q, s, r, f, M, pl⟩ := x
  obtain ⟨o1, o2, o3, o4, o5, o6, o7⟩ := o
  simp only at o1 o2 o3 o4 o5 o6 o7
  subst o1; subst o2
  have hz := cat_size o3 o4
  obtain ⟨m, hm, hm2⟩ := cut_num (n := (catT M).size) o6
  have hall := all_of_cut (M := M) (fun t ht => Nat.le_trans (o4 t ht) (by omega)) hm2
  have hu : ByteArray.extract (catT M) (orNat none 0) (orNat (some (m : Int)) (catT M).size) = (catT M).extract 0 m := by
    simp only [orNat]; rw [Int.toNat_natCast]
  have hus : ((catT M).extract 0 m).size ≤ 20100 := by rw [ByteArray.size_extract]; omega
  obtain ⟨u, eu⟩ : ∃ u, (catT M).extract 0 m = u := ⟨_, rfl⟩
  rw [eu] at hall hu hus
  have hn : noneA u = (M.take (cntR M m)).isEmpty := by rw [noneA, hall]
  have hA : (allT u).a = ((endR M m : Nat) : Int) := by rw [hall]
  have hEe : (allT u).e = if endR M m = m then 0 else 20 := by rw [hall]
  have hL : (allT u).L = M.take (cntR M m) := by rw [hall]
  have hcl := cntR_le M m
  have c0 : decide ((plc 0 M).length ≤ 1000) = true := decide_eq_true (by rw [plc_len]; omega)
  have c1 : decide (0 ≤ (m : Int)) = true := decide_eq_true (by omega)
  have c2 : decide ((m : Int) ≤ ((catT M).size : Int)) = true := decide_eq_true (by omega)
  have c3 : lowT u = true := decide_eq_true (by omega)
  have c4 : decide (0 ≤ ((cntR M m : Nat) : Int)) = true := decide_eq_true (by omega)
  have c5 : decide (((cntR M m : Nat) : Int) ≤ (M.length : Int)) = true := decide_eq_true (by omega)
  have c6 : decide (decide ((if endR M m = m then (0 : Int) else 20) = 0) = decide (((endR M m : Nat) : Int) = (m : Int))) = true := by
    by_cases h : endR M m = m
    · rw [if_pos h, h]; simp
    · rw [if_neg h, decide_eq_false (p := ((endR M m : Nat) : Int) = (m : Int)) (by omega)]; rfl
  have c7 : ¬ (if endR M m = m then (0 : Int) else 20) = 0 → (if endR M m = m then (0 : Int) else 20) = 20 := fun h => by
    by_cases h' : endR M m = m
    · rw [if_pos h'] at h; exact absurd rfl h
    · rw [if_neg h']
  have hw : ∀ y : Wh, whP (plc 0 M) m y → y = ⟨((cntR M m : Nat) : Int), ((endR M m : Nat) : Int)⟩ := by
    rintro ⟨k, e⟩ ⟨h1, h2⟩
    simp only at h1 h2
    rw [cnt_eq M 0 m (by omega)] at h1
    rw [end_eq M 0 m (by omega)] at h2
    rw [h1, h2]
    have e0 : ((m : Int) - 0).toNat = m := by omega
    rw [e0, Int.zero_add]
  have q1 : wr .i64 q = q := wr_16 ⟨o6, o7⟩
  have q2 := wr_3 hz
  have c8 : decide (((catT M).size : Int) + 1 ≠ 0) = true := decide_eq_true ne_1
  cases f with
  | false =>
    obtain rfl : M = [] := List.isEmpty_iff.1 (by cases h : M.isEmpty with
      | true => rfl
      | false => rw [h] at o5; cases o5)
    refine takes_of_treeQ hE (W_ok hS noL_ok) (TB2_ok hE) (f := 5) (.inr (by kernel_rfl)) (hp_below _) (r3_n E q s (catT [])) ?_
    rw [q1, q2, hm, hu]
    simp only [TreeQ.holds, c1, c2, c8, decide_true, Bool.and_self, Bool.and_true, Bool.true_and, true_and, true_implies, Bool.true_eq_false, false_implies, and_true]
    intro y hy
    have hy := hw y hy
    subst hy
    have hn : noneA u = true := hn
    rw [hA, hEe]
    simp only [hn, c3, c4, c6, decide_true, Bool.and_self, Bool.and_true, Bool.true_and, true_and, true_implies, Bool.true_eq_false, Bool.false_eq_true, false_implies, and_true, Bool.not_true, Bool.not_eq_true', Bool.not_eq_false', decide_eq_true_eq, decide_eq_false_iff_not]
    refine ⟨show ((0 : Nat) : Int) ≤ 0 from Int.le_refl _, fun h => ⟨fun h2 => absurd (c7 h) h2, fun _ _ => yes_5⟩, fun _ _ => yes_5⟩
  | true =>
    have hM : 0 < M.length := by
      cases M with
      | nil => cases o5
      | cons => simp
    refine takes_of_treeQ hE (W_ok hS noL_ok) (TB2_ok hE) (f := 5) (.inr (by kernel_rfl)) (hp_below _) (r3_g E q s (catT M) M (plc 0 M)) ?_
    rw [q1, q2, hm, hu]
    simp only [TreeQ.holds, c0, c1, c2, c8, decide_true, Bool.and_self, Bool.and_true, Bool.true_and, true_and, true_implies, Bool.true_eq_false, false_implies, and_true]
    intro y hy
    have hy := hw y hy
    subst hy
    rw [hA, hEe, hL]
    simp only [c3, c4, c5, c6, Int.toNat_natCast, decide_true, Bool.and_self, Bool.and_true, Bool.true_and, true_and, true_implies, Bool.true_eq_false, Bool.false_eq_true, false_implies, and_true, Bool.not_true, Bool.not_false, Bool.not_eq_true', Bool.not_eq_false', decide_eq_true_eq, decide_eq_false_iff_not]
    have fin : ∀ {P : Prop}, (¬ (if endR M m = m then (0 : Int) else 20) = 0 → (¬ (if endR M m = m then (0 : Int) else 20) = 20 → P) ∧ ((if endR M m = m then (0 : Int) else 20) = 20 → PUnit → PostL 193 (⟨q, s, catT M, true, M, plc 0 M⟩ : B5) (.ret, mkT 193 [(6, .bool true)], hp 0 []) b5D.alts)) ∧ ((if endR M m = m then (0 : Int) else 20) = 0 → PUnit → PostL 193 (⟨q, s, catT M, true, M, plc 0 M⟩ : B5) (.ret, mkT 193 [(6, .bool true)], hp 0 []) b5D.alts) :=
      fun {P} => ⟨fun h => ⟨fun h2 => absurd (c7 h) h2, fun _ _ => yes_5⟩, fun _ _ => yes_5⟩
    refine ⟨fun h => ?_, fun h => ?_⟩
    · have h2 : M.take (cntR M m) = [] := List.isEmpty_iff.1 (hn.symm.trans h)
      have hc : cntR M m = 0 := by
        have := congrArg List.length h2
        rw [List.length_take] at this
        simp only [List.length_nil] at this
        omega
      have d1 : Tq.ok (Tq.ng M (cntR M m) none) = true := by
        simp only [Tq.ok, Bool.and_eq_true, decide_eq_true_eq]; exact ⟨by omega, by omega⟩
      have d2 : Tq.says (Tq.ng M (cntR M m) none) = true := decide_eq_true hc
      refine ⟨h, d1, fun hh => ?_, fun _ => fin⟩
      rw [d2] at hh; cases hh
    · have hne : 0 < (M.take (cntR M m)).length := by
        have h2 : (M.take (cntR M m)).isEmpty = false := hn.symm.trans h
        cases hq : M.take (cntR M m) with
        | nil => rw [hq] at h2; cases h2
        | cons => simp
      have hlt : (M.take (cntR M m)).length ≤ 20 := by rw [List.length_take]; omega
      have d1 : Tq.ok (Tq.gg (M.take (cntR M m)) M (cntR M m) none) = true := by
        simp only [Tq.ok, Bool.and_eq_true, decide_eq_true_eq]; exact ⟨hne, by omega, by omega, by omega⟩
      have d2 : Tq.says (Tq.gg (M.take (cntR M m)) M (cntR M m) none) = true := alike_self _
      refine ⟨h, d1, fun hh => ?_, fun _ => fin⟩
      rw [d2] at hh; cases hh
theorem TB1_ok (hE : Plain E) : ToldsOK Try.prog E ra base 0 TB1 := sumT_ok noT_ok rfl (toldR_ok (c := codeOf 5 pR3) (by kernel_rfl) (r3_takes hE))
end
end Go.Proofs.Ytbpcljkapkjheaa
