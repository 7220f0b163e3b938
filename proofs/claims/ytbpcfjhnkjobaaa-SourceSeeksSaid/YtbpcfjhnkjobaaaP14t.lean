/- source: SourceSeeks as a whole. -/
import Derived.Test.YtbpcfjhnkjobaaaP14s
set_option linter.unusedSimpArgs false
namespace Go.Proofs.Ytbpcfjhnkjobaaa
open Ab

section
variable {ra : Nat → Nat → Nat × Nat} {base : Nat} {T : Tb}

/-- what the rest of the law knows -/
structure Known (p q : Int) (full : Bool) (y : Sr) : Prop where
  new : New y
  both : okBoth full y = true
  p : 0 ≤ p ∧ p < 65536
  q : 0 ≤ q ∧ q < 65536

theorem etaL {I : Items} {L : Int} {s : Sr} (h : s.it = I) (h' : s.late = L) : (⟨I, L, s.f, s.pl, s.over⟩ : Sr) = s := by subst h; subst h'; rfl

theorem tail_S {p q late : Int} {it : Items} (h : Known p q true ⟨it, late, 0, 0, false⟩) :
    Takes Try.prog (tabT T) ra base 0 (codeOf 5 pR) (mkT 161 (tlD.ins ⟨p, q, true, ⟨it, late, 0, 0, false⟩⟩)) (hp 0 (tlD.blks ⟨p, q, true, ⟨it, late, 0, 0, false⟩⟩)) fun w => PostL 161 (⟨p, q, true, ⟨it, late, 0, 0, false⟩⟩ : Tl) w tlD.alts := by
  have hE := tabT_plain T
  have hS := S3_ok (ra := ra) (base := base) T
  have hT := TS_ok (ra := ra) (base := base) T
  obtain ⟨hN, hB, hp, hq⟩ := h
  obtain ⟨Y, hY⟩ : ∃ Y : Sr, (⟨it, late, 0, 0, false⟩ : Sr) = Y := ⟨_, rfl⟩
  rw [hY] at hN hB
  have hI : Y.it = it := by rw [← hY]
  have hL : Y.late = late := by rw [← hY]
  have hA := hN.all_le.2
  have st : ∀ k, start (nth k Y) = Y := fun k => by rw [start_nth hN.ok, hN.st0]
  have it_ : ∀ k, (nth k Y).it = it := fun k => (nth_ok hN.ok k).2.1.trans hI
  have la_ : ∀ k, (nth k Y).late = late := fun k => (nth_ok hN.ok k).2.2.trans hL
  have et : ∀ k, (⟨it, late, (nth k Y).f, (nth k Y).pl, (nth k Y).over⟩ : Sr) = nth k Y := fun k => etaL (it_ k) (la_ k)
  have bo : ∀ k, okBoth true (nth k Y) = true := both_nth hB
  have sq : ∀ i j, okSq ⟨true, nth i Y, nth j Y⟩ = true := fun i j => okSq_iff.2 ⟨bo i, bo j, by rw [it_ i, it_ j]⟩
  have sc : ∀ k, okSrc ⟨.full, nth k Y⟩ = true := fun k => ok_full (bo k)
  have sp : ∀ k, okP ⟨.full, nth k Y⟩ = true := fun k => by rw [okP, sc]; rfl
  have w1 : wr .i64 ((allN Y : Int) + 1) = ((allN Y + 1 : Nat) : Int) := till (by omega)
  obtain ⟨m, hm, em⟩ : ∃ m : Nat, m ≤ allN Y ∧ Int.tmod (wr .i64 p) ((allN Y + 1 : Nat) : Int) = m := by
    have e1 : wr .i64 p = p := wr_in ⟨by omega, by omega⟩
    rw [e1, Int.tmod_eq_emod_of_nonneg hp.1]
    have h1 := Int.emod_nonneg p (b := ((allN Y + 1 : Nat) : Int)) (by omega)
    have h2 := Int.emod_lt_of_pos p (b := ((allN Y + 1 : Nat) : Int)) (by omega)
    exact ⟨(p % ((allN Y + 1 : Nat) : Int)).toNat, by omega, by omega⟩
  have un : ∀ {k : Nat} {f pl : Int} {over : Bool} {I : Items} {L : Int}, (⟨I, L, f, pl, over⟩ : Sr) = nth k Y → f = (nth k Y).f ∧ pl = (nth k Y).pl ∧ over = (nth k Y).over := fun h => ⟨congrArg Sr.f h, congrArg Sr.pl h, congrArg Sr.over h⟩
  have e0 : ∀ k, seekE (nth k Y) (m : Int) = 0 := fun k => (hN.seek_in (st k) hm).1
  have k0 : ∀ k, seek (nth k Y) (m : Int) = nth m Y := fun k => (hN.seek_in (st k) hm).2
  have e1 : ∀ k, seekE (nth k Y) 0 = 0 := fun k => (hN.seek_in (k := 0) (st k) (Nat.zero_le _)).1
  have k1 : ∀ k, seek (nth k Y) 0 = nth 0 Y := fun k => (hN.seek_in (k := 0) (st k) (Nat.zero_le _)).2
  have e2 : ∀ k, seekE (nth k Y) ((allN Y + 1 : Nat) : Int) = 2 := fun k => (hN.seek_out (st k)).1
  have k2 : ∀ k, seek (nth k Y) ((allN Y + 1 : Nat) : Int) = nth k Y := fun k => (hN.seek_out (st k)).2
  have e3 : ∀ k, seekE (nth k Y) (-1) = 2 := fun k => (seek_neg _).1
  have k3 : ∀ k, seek (nth k Y) (-1) = nth k Y := fun k => (seek_neg _).2
  have o4 : ok4 ⟨0, 0, ⟨true, nth m Y, nth m Y⟩, (allN Y : Int), (m : Int)⟩ = true := by
    simp only [ok4, Bool.and_eq_true, decide_eq_true_eq, sameS_iff]
    refine ⟨sq m m, ?_, trivial, ?_, by omega, by omega⟩
    · rw [st]; rfl
    · rw [st]; rfl
  have pA := hN.pl_nth (allN Y) (Nat.le_refl _)
  have pm := hN.pl_nth m hm
  have d0 : decide (¬ ((allN Y + 1 : Nat) : Int) = 0) = true := decide_eq_true (by omega)
  have d1 : (decide (0 ≤ q) && (decide (q < 65536) && (decide ((0 : Int) ≤ (allN Y : Nat)) && decide (((allN Y : Nat) : Int) ≤ 1001)))) = true := by
    simp only [Bool.and_eq_true, decide_eq_true_eq]; omega
  have d2 : (decide ((0 : Int) ≤ (m : Nat)) && decide (((m : Nat) : Int) ≤ 1001)) = true := by
    simp only [Bool.and_eq_true, decide_eq_true_eq]; omega
  have hg : List.getD [p, q] 0 0 = p := rfl
  refine takes_of_treeQ hE (wE hE hS) hT (.inr (by kernel_rfl)) (hp_below _) (s_tailS T p q late it) ?_
  have hY0 : (⟨it, late, 0, 0, false⟩ : Sr) = nth 0 Y := hY
  simp only [hY0]
  simp only [TreeQ.holds, decide_true, Bool.and_self, Bool.and_true, Bool.true_and, true_and, sq]
  rintro ⟨al, f, pl, over⟩ ⟨h1, h2⟩
  replace h1 : al = (allN Y : Int) := h1
  replace h2 : (⟨Y.it, Y.late, f, pl, over⟩ : Sr) = nth (allN Y) Y := h2
  subst h1
  obtain ⟨rfl, rfl, rfl⟩ := un h2
  clear h2
  simp only [hg, w1, em, et]
  simp only [sq, sc, sp, d0, d1, pA, decide_true, Bool.and_self, Bool.and_true, Bool.true_and, true_and, Bool.not_true, Bool.false_eq_true, false_implies, forall_const]
  rintro ⟨f, pl, over⟩ h3
  replace h3 : (⟨Y.it, Y.late, f, pl, over⟩ : Sr) = nth (Int.tmod q ((allN Y : Int) + 2)).toNat Y := h3
  obtain ⟨rfl, rfl, rfl⟩ := un h3
  clear h3
  have et0 : (⟨it, late, (nth 0 Y).f, (nth 0 Y).pl, false⟩ : Sr) = nth 0 Y := by rw [← et 0, show (nth 0 Y).over = false from hN.over]
  simp only [et, e0, k0, e1, k1]
  simp only [la_, et, et0]
  simp only [sq, sc, sp, d0, d1, d2, pm, decide_true, Bool.and_self, Bool.and_true, Bool.true_and, true_and, Bool.not_true, Bool.false_eq_true, false_implies, forall_const]
  rintro ⟨f, pl, over⟩ h4
  replace h4 : (⟨Y.it, Y.late, f, pl, over⟩ : Sr) = nth m Y := h4
  obtain ⟨rfl, rfl, rfl⟩ := un h4
  clear h4
  simp only [et]
  simp only [o4, true_and]
  rintro ⟨f, pl, over⟩ h5
  replace h5 : (⟨(nth m Y).it, (nth m Y).late, f, pl, over⟩ : Sr) = fin (start (nth m Y)) := h5
  rw [st] at h5
  obtain ⟨rfl, rfl, rfl⟩ := un h5
  clear h5
  simp only [la_, et, e2, k2, e3, k3]
  simp only [sq, sc, sp, pA, decide_true, Bool.and_self, Bool.and_true, Bool.true_and, true_and, Bool.not_true, Bool.false_eq_true, false_implies, forall_const]
  exact ⟨⟨(), trivial, rfl⟩, fun h => by cases h⟩
theorem tail_N {p q late : Int} (h : Known p q false ⟨.none, late, 0, 0, false⟩) :
    Takes Try.prog (tabT T) ra base 0 (codeOf 5 pR) (mkT 161 (tlD.ins ⟨p, q, false, ⟨.none, late, 0, 0, false⟩⟩)) (hp 0 (tlD.blks ⟨p, q, false, ⟨.none, late, 0, 0, false⟩⟩)) fun w => PostL 161 (⟨p, q, false, ⟨.none, late, 0, 0, false⟩⟩ : Tl) w tlD.alts := by
  have hE := tabT_plain T
  have hS := S3_ok (ra := ra) (base := base) T
  have hT := TS_ok (ra := ra) (base := base) T
  obtain ⟨hN, hB, hp, hq⟩ := h
  obtain ⟨Y, hY⟩ : ∃ Y : Sr, (⟨.none, late, 0, 0, false⟩ : Sr) = Y := ⟨_, rfl⟩
  rw [hY] at hN hB
  have hI : Y.it = .none := by rw [← hY]
  have hL : Y.late = late := by rw [← hY]
  have hA := hN.all_le.2
  have st : ∀ k, start (nth k Y) = Y := fun k => by rw [start_nth hN.ok, hN.st0]
  have it_ : ∀ k, (nth k Y).it = .none := fun k => (nth_ok hN.ok k).2.1.trans hI
  have la_ : ∀ k, (nth k Y).late = late := fun k => (nth_ok hN.ok k).2.2.trans hL
  have et : ∀ k, (⟨.none, late, (nth k Y).f, (nth k Y).pl, (nth k Y).over⟩ : Sr) = nth k Y := fun k => etaL (it_ k) (la_ k)
  have bo : ∀ k, okBoth false (nth k Y) = true := both_nth hB
  have sq : ∀ i j, okSq ⟨false, nth i Y, nth j Y⟩ = true := fun i j => okSq_iff.2 ⟨bo i, bo j, by rw [it_ i, it_ j]⟩
  have sc : ∀ k, okSrc ⟨.nil, nth k Y⟩ = true := fun k => ok_nil (bo k)
  have sp : ∀ k, okP ⟨.nil, nth k Y⟩ = true := fun k => by rw [okP, sc]; rfl
  have w1 : wr .i64 ((allN Y : Int) + 1) = ((allN Y + 1 : Nat) : Int) := till (by omega)
  obtain ⟨m, hm, em⟩ : ∃ m : Nat, m ≤ allN Y ∧ Int.tmod (wr .i64 p) ((allN Y + 1 : Nat) : Int) = m := by
    have e1 : wr .i64 p = p := wr_in ⟨by omega, by omega⟩
    rw [e1, Int.tmod_eq_emod_of_nonneg hp.1]
    have h1 := Int.emod_nonneg p (b := ((allN Y + 1 : Nat) : Int)) (by omega)
    have h2 := Int.emod_lt_of_pos p (b := ((allN Y + 1 : Nat) : Int)) (by omega)
    exact ⟨(p % ((allN Y + 1 : Nat) : Int)).toNat, by omega, by omega⟩
  have un : ∀ {k : Nat} {f pl : Int} {over : Bool} {I : Items} {L : Int}, (⟨I, L, f, pl, over⟩ : Sr) = nth k Y → f = (nth k Y).f ∧ pl = (nth k Y).pl ∧ over = (nth k Y).over := fun h => ⟨congrArg Sr.f h, congrArg Sr.pl h, congrArg Sr.over h⟩
  have e0 : ∀ k, seekE (nth k Y) (m : Int) = 0 := fun k => (hN.seek_in (st k) hm).1
  have k0 : ∀ k, seek (nth k Y) (m : Int) = nth m Y := fun k => (hN.seek_in (st k) hm).2
  have e1 : ∀ k, seekE (nth k Y) 0 = 0 := fun k => (hN.seek_in (k := 0) (st k) (Nat.zero_le _)).1
  have k1 : ∀ k, seek (nth k Y) 0 = nth 0 Y := fun k => (hN.seek_in (k := 0) (st k) (Nat.zero_le _)).2
  have e2 : ∀ k, seekE (nth k Y) ((allN Y + 1 : Nat) : Int) = 2 := fun k => (hN.seek_out (st k)).1
  have k2 : ∀ k, seek (nth k Y) ((allN Y + 1 : Nat) : Int) = nth k Y := fun k => (hN.seek_out (st k)).2
  have e3 : ∀ k, seekE (nth k Y) (-1) = 2 := fun k => (seek_neg _).1
  have k3 : ∀ k, seek (nth k Y) (-1) = nth k Y := fun k => (seek_neg _).2
  have o4 : ok4 ⟨0, 0, ⟨false, nth m Y, nth m Y⟩, (allN Y : Int), (m : Int)⟩ = true := by
    simp only [ok4, Bool.and_eq_true, decide_eq_true_eq, sameS_iff]
    refine ⟨sq m m, ?_, trivial, ?_, by omega, by omega⟩
    · rw [st]; rfl
    · rw [st]; rfl
  have pA := hN.pl_nth (allN Y) (Nat.le_refl _)
  have pm := hN.pl_nth m hm
  have d0 : decide (¬ ((allN Y + 1 : Nat) : Int) = 0) = true := decide_eq_true (by omega)
  have d1 : (decide (0 ≤ q) && (decide (q < 65536) && (decide ((0 : Int) ≤ (allN Y : Nat)) && decide (((allN Y : Nat) : Int) ≤ 1001)))) = true := by
    simp only [Bool.and_eq_true, decide_eq_true_eq]; omega
  have d2 : (decide ((0 : Int) ≤ (m : Nat)) && decide (((m : Nat) : Int) ≤ 1001)) = true := by
    simp only [Bool.and_eq_true, decide_eq_true_eq]; omega
  have hg : List.getD [p, q] 0 0 = p := rfl
  refine takes_of_treeQ hE (wE hE hS) hT (.inr (by kernel_rfl)) (hp_below _) (s_tailN T p q late) ?_
  have hY0 : (⟨.none, late, 0, 0, false⟩ : Sr) = nth 0 Y := hY
  simp only [hY0]
  simp only [TreeQ.holds, decide_true, Bool.and_self, Bool.and_true, Bool.true_and, true_and, sq]
  rintro ⟨al, f, pl, over⟩ ⟨h1, h2⟩
  replace h1 : al = (allN Y : Int) := h1
  replace h2 : (⟨Y.it, Y.late, f, pl, over⟩ : Sr) = nth (allN Y) Y := h2
  subst h1
  obtain ⟨rfl, rfl, rfl⟩ := un h2
  clear h2
  simp only [hg, w1, em, et]
  simp only [sq, sc, sp, d0, d1, pA, decide_true, Bool.and_self, Bool.and_true, Bool.true_and, true_and, Bool.not_true, Bool.false_eq_true, false_implies, forall_const]
  rintro ⟨f, pl, over⟩ h3
  replace h3 : (⟨Y.it, Y.late, f, pl, over⟩ : Sr) = nth (Int.tmod q ((allN Y : Int) + 2)).toNat Y := h3
  obtain ⟨rfl, rfl, rfl⟩ := un h3
  clear h3
  have et0 : (⟨.none, late, (nth 0 Y).f, (nth 0 Y).pl, false⟩ : Sr) = nth 0 Y := by rw [← et 0, show (nth 0 Y).over = false from hN.over]
  simp only [et, e0, k0, e1, k1]
  simp only [la_, et, et0]
  simp only [sq, sc, sp, d0, d1, d2, pm, decide_true, Bool.and_self, Bool.and_true, Bool.true_and, true_and, Bool.not_true, Bool.false_eq_true, false_implies, forall_const]
  rintro ⟨f, pl, over⟩ h4
  replace h4 : (⟨Y.it, Y.late, f, pl, over⟩ : Sr) = nth m Y := h4
  obtain ⟨rfl, rfl, rfl⟩ := un h4
  clear h4
  simp only [et]
  simp only [o4, true_and]
  rintro ⟨f, pl, over⟩ h5
  replace h5 : (⟨(nth m Y).it, (nth m Y).late, f, pl, over⟩ : Sr) = fin (start (nth m Y)) := h5
  rw [st] at h5
  obtain ⟨rfl, rfl, rfl⟩ := un h5
  clear h5
  simp only [la_, et, e2, k2, e3, k3]
  simp only [sq, sc, sp, pA, decide_true, Bool.and_self, Bool.and_true, Bool.true_and, true_and, Bool.not_true, Bool.false_eq_true, false_implies, forall_const]
  exact ⟨⟨(), trivial, rfl⟩, fun h => by cases h⟩

theorem tl_takes (x : Tl) (hx : tlD.pre x = true) : Takes Try.prog (tabT T) ra base 0 (codeOf 5 pR) (mkT 161 (tlD.ins x)) (hp 0 (tlD.blks x)) fun w => PostL 161 x w tlD.alts := by
  obtain ⟨p, q, full, ⟨it, late, f, pl, over⟩⟩ := x
  simp only [tlD, okTl, Bool.and_eq_true, decide_eq_true_eq, Bool.not_eq_true'] at hx
  obtain ⟨h1, rfl, rfl, rfl, h5, h6, h7, h8⟩ := hx
  have hok := (okBoth_iff.1 h1).1
  cases full with
  | true => exact tail_S ⟨⟨hok, rfl, rfl, rfl⟩, h1, ⟨h5, h6⟩, ⟨h7, h8⟩⟩
  | false =>
    obtain rfl : it = .none := nil_it h1
    exact tail_N ⟨⟨hok, rfl, rfl, rfl⟩, h1, ⟨h5, h6⟩, ⟨h7, h8⟩⟩

theorem TR_ok (T : Tb) : ToldsOK Try.prog (tabT T) ra base 0 TR := sumT_ok noT_ok rfl (toldR_ok (c := codeOf 5 pR) (by kernel_rfl) tl_takes)

theorem seeks_gives {V : AVal} (hV : okV 0 T.w.length V = true) {l p q : Int} (hl : 0 ≤ l ∧ l < 256) (hp' : 0 ≤ p ∧ p < 65536) (hq : 0 ≤ q ∧ q < 65536) :
    Gives Try.prog (tabT T) ra base 0 5 [V, .int .u8 l, .agg [.int .u16 p, .int .u16 q]] (hp 0 []) fun v _ => v = .bool true := by
  have hE := tabT_plain T
  have hS := S3_ok (ra := ra) (base := base) T
  have hT := TR_ok (ra := ra) (base := base) T
  have e0 : Int.tmod l 51 = l % 51 := Int.tmod_eq_emod_of_nonneg hl.1
  have hx : 0 ≤ Int.tmod l 51 ∧ Int.tmod l 51 < 256 := by rw [e0]; omega
  have ex : wr .i64 (Int.tmod l 51) = Int.tmod l 51 := wr_in ⟨by omega, by omega⟩
  have c1 := bad_nil hx
  have okt : ∀ {full : Bool} {it : Items} {late : Int}, okBoth full ⟨it, late, 0, 0, false⟩ = true → okTl ⟨p, q, full, ⟨it, late, 0, 0, false⟩⟩ = true := fun h => by
    simp only [okTl, Bool.and_eq_true, decide_eq_true_eq]
    exact ⟨h, trivial, trivial, rfl, hp'.1, hp'.2, hq.1, hq.2⟩
  have ok0 := okt (both_nil c1)
  rcases okV_cases hV with ⟨rfl, h0⟩ | rfl
  · have hd : noDr T .nils = true := noDr_iff.2 h0
    refine gives_of_treeQ hE (wE hE hS) hT (hp_below _) (s_callN T l p q) ?_
    rw [ex]
    simp only [TreeQ.holds, decide_true, Bool.and_self, Bool.and_true, Bool.true_and, true_and, hd, hV, c1, ok0, Bool.not_true, Bool.not_false, Bool.false_eq_true, false_implies, forall_const, and_true, reduceCtorEq, Bool.true_eq_false]
    exact ⟨_, rfl, rfl⟩
  · cases hd : noDr T (.slice (.ro 0 0 0 0) T.w.length none) with
    | true =>
      refine gives_of_treeQ hE (wE hE hS) hT (hp_below _) (s_callS T T.w.length l p q) ?_
      rw [ex]
      simp only [TreeQ.holds, decide_true, Bool.and_self, Bool.and_true, Bool.true_and, true_and, hd, hV, c1, ok0, Bool.not_true, Bool.not_false, Bool.false_eq_true, false_implies, forall_const, and_true, reduceCtorEq, Bool.true_eq_false]
      exact ⟨_, rfl, rfl⟩
    | false =>
      refine gives_of_treeQ hE (wE hE hS) hT (hp_below _) (s_callS T T.w.length l p q) ?_
      have hD : (⟨dIms T (many T), dTms T (many T), firstI T.it.ky (many T), dRts T (many T), firstI T.it.vl (many T), firstI T.it.sd (many T), firstB T.it.er (many T), firstB T.it.lt (many T)⟩ : Items) = draft T (many T) := rfl
      have hC : (⟨(dIms T (many T)).take (topN T), (dTms T (many T)).take (topN T), (firstI T.it.ky (many T)).take (topN T), (dRts T (many T)).take (topN T), (firstI T.it.vl (many T)).take (topN T), (firstI T.it.sd (many T)).take (topN T), (firstB T.it.er (many T)).take (topN T), (firstB T.it.lt (many T)).take (topN T)⟩ : Items) = cut T := rfl
      have b1 := bad_cut T hx
      have n1 := nw_cut hd (Int.tmod l 51)
      have k0 := okt (both_cut T hx)
      have q1 : decide (0 ≤ ((topN T : Nat) : Int)) = true := decide_eq_true (by omega)
      have q2 : decide (((topN T : Nat) : Int) ≤ ((many T : Nat) : Int)) = true := decide_eq_true (by have := (top_le T).1; omega)
      rw [ex, top_int T, Int.toNat_natCast]
      simp only [hD, hC]
      simp only [TreeQ.holds, decide_true, Bool.and_self, Bool.and_true, Bool.true_and, true_and, hd, hV, b1, n1, k0, q1, q2, Bool.not_true, Bool.not_false, Bool.false_eq_true, false_implies, forall_const, and_true, reduceCtorEq, Bool.true_eq_false, dIms_len]
      exact ⟨decide_eq_true (cut_len T).symm, _, rfl, rfl⟩
end
end Go.Proofs.Ytbpcfjhnkjobaaa
