/- source: SourceKeeps as a whole. -/
import Derived.Test.YtbpcfjhnkjobaaaP14l
import Derived.Test.YtbpcfjhnkjobaaaP14j
set_option linter.unusedSimpArgs false
namespace Go.Proofs.Ytbpcfjhnkjobaaa
open Ab

section
variable {ra : Nat → Nat → Nat × Nat} {base : Nat} {T : Tb}

theorem TKE_ok (T : Tb) : ToldsOK Try.prog (tabT T) ra base 0 TKE := sumT_ok noT_ok rfl (toldR_ok (c := codeOf 4 pB) (by kernel_rfl) kb_takes)

theorem kp_takes (x : Kp) (hx : kpD.pre x = true) : Takes Try.prog (tabT T) ra base 0 (.loop (codeOf 4 (false :: pK))) (mkT 235 (kpD.ins x)) (hp 0 (kpD.blks x)) fun z => PostL 235 x z kpD.alts := by
  obtain ⟨⟨full, it, m, y⟩, l⟩ := x
  simp only [kpD, okOne, Bool.and_eq_true, decide_eq_true_eq, Bool.not_eq_true'] at hx
  obtain ⟨⟨h1, h2, h3⟩, h4, h5, h6, h7⟩ := hx
  obtain ⟨hy, gy⟩ := okBoth_iff.1 h1
  have h2 := sameI_iff.1 h2
  cases full with
  | true =>
    have hle : m ≤ it.im.length := by
      rw [h2] at h3
      simp only [Items.take, List.length_take] at h3; omega
    have h0 : KpI it m l y := ⟨hy, h2, h3, hle, h4, h7⟩
    have e0 : kpD.ins ⟨⟨true, it, m, y⟩, l⟩ = Kp.at ⟨⟨true, it, m, y⟩, l⟩ y.f y.pl := by rw [h5, h6]; rfl
    rw [e0]
    refine takes_loop (fun j ts h => ∃ y' : Sr, KpI it m l y' ∧ (y'.pl : Int) + j = m + 2 ∧ ts = mkT 235 (Kp.at ⟨⟨true, it, m, y'⟩, l⟩ y'.f y'.pl) ∧ h = hp 0 (One.blks ⟨true, it, m, y'⟩)) (fun ts h => ?_) (fun j ts h' => ?_) (j := m + 2) ⟨y, h0, by rw [h6]; omega, rfl, rfl⟩
    · rintro ⟨y', g1, g2, _⟩
      have := (okSr_iff.1 g1.ok).2.2.2.2.2.2.2.2 g1.over
      have := g1.len
      omega
    · rintro ⟨y', g1, g2, rfl, rfl⟩
      refine (kp_step (TKE_ok T) g1).mono ?_
      rintro z (⟨y'', q1, q2, rfl⟩ | rfl)
      · exact ⟨y'', q1, by omega, rfl, rfl⟩
      · exact ⟨(), trivial, rfl⟩
  | false =>
    have hyi := empty_of hy (gy rfl)
    obtain ⟨it', late, f, pl, over⟩ := y
    simp only at hyi h4 h5 h6 h7
    subst hyi; subst h4; subst h5; subst h6; subst h7
    have hE := tabT_plain T
    have hS := S3_ok (ra := ra) (base := base) T
    refine takes_loop (fun j ts h => j = 1 ∧ ts = mkT 235 (kpD.ins ⟨⟨false, it, m, ⟨.none, Int.tmod l 51, 0, 0, false⟩⟩, l⟩) ∧ h = hp 0 (One.blks ⟨false, .none, 0, ⟨.none, Int.tmod l 51, 0, 0, false⟩⟩)) (fun ts h => by rintro ⟨h, _⟩; omega) (fun j ts h' => ?_) (j := 1) ⟨rfl, rfl, rfl⟩
    rintro ⟨_, rfl, rfl⟩
    refine takes_of_tree hE (wE hE hS) (f := 4) (.inr (by kernel_rfl)) (hp_below _) (kp_roundN T l 0) ?_
    have o1 : okSrc ⟨.nil, ⟨.none, Int.tmod l 51, 0, 0, false⟩⟩ = true := by rw [okSrc, hy]; rfl
    have n1 := next_ok hy
    rw [(next_E rfl (Int.tmod l 51) 0).2.2] at n1 ⊢
    have o2 : okSrc ⟨.nil, ⟨.none, Int.tmod l 51, far, 1, true⟩⟩ = true := by rw [okSrc, n1.1]; rfl
    have df : decide (far < 0) = false := rfl
    simp only [Tree.holds, decide_true, Bool.and_self, Bool.and_true, Bool.true_and, true_and, o1, o2, df, Bool.false_eq_true, false_implies, forall_const]
    exact ⟨(), trivial, rfl⟩

theorem TK_ok (T : Tb) : ToldsOK Try.prog (tabT T) ra base 0 TK := sumT_ok noT_ok rfl (toldR_ok (c := .loop (codeOf 4 (false :: pK))) (by kernel_rfl) kp_takes)

theorem keeps_gives {V : AVal} (hV : okV 0 T.w.length V = true) {l : Int} (hl : 0 ≤ l ∧ l < 256) :
    Gives Try.prog (tabT T) ra base 0 4 [V, .int .u8 l] (hp 0 []) fun v _ => v = .bool true := by
  have hE := tabT_plain T
  have hS := S3_ok (ra := ra) (base := base) T
  have hT := TK_ok (ra := ra) (base := base) T
  have e0 : Int.tmod l 51 = l % 51 := Int.tmod_eq_emod_of_nonneg hl.1
  have hx : 0 ≤ Int.tmod l 51 ∧ Int.tmod l 51 < 256 := by rw [e0]; omega
  have ex : wr .i64 (Int.tmod l 51) = Int.tmod l 51 := wr_in ⟨by omega, by omega⟩
  have c1 := bad_nil hx
  have ok0 : okOne ⟨false, .none, 0, ⟨.none, Int.tmod l 51, 0, 0, false⟩⟩ = true := by
    simp only [okOne, Bool.and_eq_true]
    exact ⟨both_nil c1, rfl, rfl⟩
  rcases okV_cases hV with ⟨rfl, h0⟩ | rfl
  · have hd : noDr T .nils = true := noDr_iff.2 h0
    refine gives_of_treeQ hE (wE hE hS) hT (hp_below _) (kp_callN T l) ?_
    rw [ex]
    simp only [TreeQ.holds, decide_true, Bool.and_self, Bool.and_true, Bool.true_and, true_and, hd, hV, c1, ok0, Bool.not_true, Bool.not_false, Bool.false_eq_true, false_implies, forall_const, and_true, reduceCtorEq, Bool.true_eq_false]
    exact ⟨_, rfl, rfl⟩
  · cases hd : noDr T (.slice (.ro 0 0 0 0) T.w.length none) with
    | true =>
      refine gives_of_treeQ hE (wE hE hS) hT (hp_below _) (kp_callS T T.w.length l) ?_
      rw [ex]
      simp only [TreeQ.holds, decide_true, Bool.and_self, Bool.and_true, Bool.true_and, true_and, hd, hV, c1, ok0, Bool.not_true, Bool.not_false, Bool.false_eq_true, false_implies, forall_const, and_true, reduceCtorEq, Bool.true_eq_false]
      exact ⟨_, rfl, rfl⟩
    | false =>
      refine gives_of_treeQ hE (wE hE hS) hT (hp_below _) (kp_callS T T.w.length l) ?_
      have hD : (⟨dIms T (many T), dTms T (many T), firstI T.it.ky (many T), dRts T (many T), firstI T.it.vl (many T), firstI T.it.sd (many T), firstB T.it.er (many T), firstB T.it.lt (many T)⟩ : Items) = draft T (many T) := rfl
      have hC : (⟨(dIms T (many T)).take (topN T), (dTms T (many T)).take (topN T), (firstI T.it.ky (many T)).take (topN T), (dRts T (many T)).take (topN T), (firstI T.it.vl (many T)).take (topN T), (firstI T.it.sd (many T)).take (topN T), (firstB T.it.er (many T)).take (topN T), (firstB T.it.lt (many T)).take (topN T)⟩ : Items) = cut T := rfl
      have b1 := bad_cut T hx
      have n1 := nw_cut hd (Int.tmod l 51)
      have k0 : okOne ⟨true, draft T (many T), topN T, ⟨cut T, Int.tmod l 51, 0, 0, false⟩⟩ = true := by
        simp only [okOne, Bool.and_eq_true, decide_eq_true_eq]
        exact ⟨both_cut T hx, sameI_iff.2 rfl, cut_len T⟩
      have q1 : decide (0 ≤ ((topN T : Nat) : Int)) = true := decide_eq_true (by omega)
      have q2 : decide (((topN T : Nat) : Int) ≤ ((many T : Nat) : Int)) = true := decide_eq_true (by have := (top_le T).1; omega)
      have q3 : decide (topN T = ((dIms T (many T)).take (topN T)).length) = true := decide_eq_true (cut_len T).symm
      rw [ex, top_int T, Int.toNat_natCast]
      simp only [hD, hC]
      simp only [TreeQ.holds, decide_true, Bool.and_self, Bool.and_true, Bool.true_and, true_and, hd, hV, b1, n1, k0, q1, q2, q3, Bool.not_true, Bool.not_false, Bool.false_eq_true, false_implies, forall_const, and_true, reduceCtorEq, Bool.true_eq_false, dIms_len]
      exact ⟨_, rfl, rfl⟩
end
end Go.Proofs.Ytbpcfjhnkjobaaa
