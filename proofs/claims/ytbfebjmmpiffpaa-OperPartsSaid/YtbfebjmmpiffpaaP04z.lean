/- oper: OperParts: the rest of the law. -/
import Derived.Test.YtbfebjmmpiffpaaP04y
import Derived.Test.YtbfebjmmpiffpaaT04r11
import Derived.Test.YtbfebjmmpiffpaaT04r10
import Derived.Test.YtbfebjmmpiffpaaT04r01
import Derived.Test.YtbfebjmmpiffpaaT04r00
set_option linter.unusedSimpArgs false
set_option linter.unusedVariables false
namespace Go.Proofs.Ytbfebjmmpiffpaa
open Ab

/-- what is known of all operators' and of the parts' records -/
structure Fx (a b : Go.Proofs.Ytbfebjmmpiffpaa.Os) (r : Rc) (A W : List Rc) : Prop where
  parts : partsL b (Rs.of A) = W
  le : (W.length : Int) ≤ mostI (toO a ++ toO b)
  pos : 1 ≤ mostI (toO a ++ toO b)
  one : (r.err || r.late) = true → W = [r]
  like : (toL (Rs.of W)).all (likeB r) = true
  lenA : A.length ≤ 729
  lenW : W.length ≤ 1000000
  nil : A = [] → W = []
theorem fx_of {a b : Go.Proofs.Ytbfebjmmpiffpaa.Os} (ha : a.kk.length ≤ 6) (hb : b.kk.length ≤ 6) (r : Rc) : Fx a b r (fold (toO a) [r]) (appW a b r) := by
  have e : appW a b r = fold (toO a ++ toO b) [r] := rfl
  refine ⟨(appW_parts a b r).symm, ?_, (most_pos _).1, fun h => ?_, ?_, fold_len6 ha r, ?_, fun h => ?_⟩
  · rw [e]
    have := fold_most (toO a ++ toO b) [r]
    simpa using this
  · rw [e]; exact fold_pass h _
  · rw [toL_of, List.all_eq_true, e]
    refine like_fold _ fun x hx => ?_
    rw [List.mem_singleton] at hx; subst hx; exact like_self _
  · rw [e]
    exact fold_room (by rw [List.length_append, toO_len, toO_len]; omega)
  · rw [appW_parts, h]; rfl

section
variable {ra : Nat → Nat → Nat × Nat} {base : Nat} {T : Tb}

theorem ok0_some {r : Rc} {af : Bool} {a : Go.Proofs.Ytbfebjmmpiffpaa.Os} {bf : Bool} {b : Go.Proofs.Ytbfebjmmpiffpaa.Os} (hb : okO1 bf b = true) {A : List Rc} (hA : A ≠ []) (h729 : A.length ≤ 729) (wf : Bool) (w : Rs) (wc sc : Option Nat) : ok0 ⟨r, af, a, bf, b, wf, w, wc, true, ⟨A.map Rc.key, A.map Rc.time, A.map Rc.val, A.map Rc.side, A.map Rc.err, A.map Rc.late⟩, sc⟩ = true := by
  obtain ⟨b1, b2, b3⟩ := okO1_iff.1 hb
  have hl : 0 < A.length := List.length_pos_iff.2 hA
  simp only [ok0, Bool.and_eq_true, Bool.or_eq_true, decide_eq_true_eq]
  refine ⟨okL_iff'.2 ⟨lens_of A, ?_, .inl ⟨rfl, ?_⟩⟩, ?_, b1, b2, ?_⟩
  · show (A.map Rc.key).length ≤ 1000000; rw [List.length_map]; omega
  · show 0 < (A.map Rc.key).length; rw [List.length_map]; exact hl
  · show (A.map Rc.key).length ≤ 729; rw [List.length_map]; exact h729
  · rcases b3 with ⟨h, _⟩ | ⟨_, h⟩
    · exact .inl h
    · exact .inr h
theorem ok0_none {r : Rc} {af : Bool} {a : Go.Proofs.Ytbfebjmmpiffpaa.Os} {bf : Bool} {b : Go.Proofs.Ytbfebjmmpiffpaa.Os} (hb : okO1 bf b = true) (wf : Bool) (w : Rs) (wc sc : Option Nat) : ok0 ⟨r, af, a, bf, b, wf, w, wc, false, Rs.none, sc⟩ = true := by
  obtain ⟨b1, b2, b3⟩ := okO1_iff.1 hb
  simp only [ok0, Bool.and_eq_true, Bool.or_eq_true, decide_eq_true_eq]
  refine ⟨rfl, by show 0 ≤ 729; decide, b1, b2, ?_⟩
  rcases b3 with ⟨h, _⟩ | ⟨_, h⟩
  · exact .inl h
  · exact .inr h
theorem ok2_of {r : Rc} {a b o : Go.Proofs.Ytbfebjmmpiffpaa.Os} (ha : a.kk.length ≤ 6) (hb : b.kk.length ≤ 6) (h : gSome a b o) (wf : Bool) (w p : Rs) (wc : Option Nat) : ok2 ⟨r, wf, w, wc, wf, p, true, o⟩ = true := by
  simp only [ok2, Bool.and_eq_true, Bool.or_eq_true, decide_eq_true_eq]
  refine ⟨trivial, h.1, ?_, .inl trivial⟩
  have := congrArg List.length h.2
  rw [List.length_append, toO_len, toO_len, toO_len] at this
  omega
theorem ok4_of {r : Rc} {W : List Rc} (hW : W ≠ []) (h : W.length ≤ 1000000) (hl : (toL (Rs.of W)).all (likeB r) = true) (wc : Option Nat) (m : Int) : ok4p ⟨r, true, Rs.of W, wc, true, Rs.of W, m⟩ = true := by
  have h0 : 0 < W.length := List.length_pos_iff.2 hW
  simp only [ok4p, Bool.and_eq_true, decide_eq_true_eq]
  refine ⟨trivial, by simp [sameR], okL_iff'.2 ⟨lens_of W, by rw [ks_len]; exact h, .inl ⟨rfl, by rw [ks_len]; exact h0⟩⟩, hl⟩


/-- the end, where none came out -/
theorem fin0 {Tt Ff : Prop} {e l : Bool} (he : e = false) (hl : l = false) (ht : Tt) {y : Int} (hy : 0 ≤ y) :
    (decide (0 ≤ y) = true → ((!e) = true → ((!l) = true → Tt) ∧ ((!l) = false → Ff)) ∧ ((!e) = false → Ff)) ∧ (decide (0 ≤ y) = false → Ff) := by
  subst he; subst hl
  exact ⟨fun _ => ⟨fun _ => ⟨fun _ => ht, fun h => by cases h⟩, fun h => by cases h⟩, fun h => absurd (decide_eq_true hy) (by rw [h]; decide)⟩
/-- the end, where some did -/
theorem fin1 {Tt Ff : Prop} {F1 : Bool → Prop} {e l : Bool} {n : Nat} {y : Int} (hy : (n : Int) ≤ y) (h1 : (e || l) = true → n = 1) (ht : Tt) (hF : F1 true) :
    (decide ((n : Int) ≤ y) = true → ((!e) = true → ((!l) = true → Tt) ∧ ((!l) = false → F1 (decide ((n : Int) = 1)))) ∧ ((!e) = false → F1 (decide ((n : Int) = 1)))) ∧ (decide ((n : Int) ≤ y) = false → Ff) := by
  have d : (e || l) = true → F1 (decide ((n : Int) = 1)) := fun h => by rw [decide_eq_true (by have := h1 h; omega)]; exact hF
  refine ⟨fun _ => ⟨fun _ => ⟨fun _ => ht, fun h => d ?_⟩, fun h => d ?_⟩, fun h => absurd (decide_eq_true hy) (by rw [h]; decide)⟩
  · cases l
    · cases h
    · rw [Bool.or_true]
  · cases e
    · cases h
    · rfl
theorem el_of {a b : Go.Proofs.Ytbfebjmmpiffpaa.Os} {ky t v s : Int} {e l : Bool} {A W : List Rc} (F : Fx a b ⟨ky, t, v, s, e, l⟩ A W) (h : W = []) : e = false ∧ l = false := by
  have h1 : (e || l) = true → W = [⟨ky, t, v, s, e, l⟩] := F.one
  cases e <;> cases l
  · exact ⟨rfl, rfl⟩
  · rw [h1 rfl] at h; cases h
  · rw [h1 rfl] at h; cases h
  · rw [h1 rfl] at h; cases h
theorem parts_none (b : Go.Proofs.Ytbfebjmmpiffpaa.Os) : partsL b Rs.none = [] := rfl

theorem pr_11t {ky t v s : Int} {e l : Bool} {a : Go.Proofs.Ytbfebjmmpiffpaa.Os} {b : Go.Proofs.Ytbfebjmmpiffpaa.Os} (ha : okO1 true a = true) (hb : okO1 true b = true) :
    Takes Try.prog (tabT T) ra base 0 (codeOf 5 gR) (mkT 161 (prD.ins ⟨⟨ky, t, v, s, e, l⟩, true, a, true, b⟩)) (hp 0 (prD.blks ⟨⟨ky, t, v, s, e, l⟩, true, a, true, b⟩)) fun w => PostL 161 (⟨⟨ky, t, v, s, e, l⟩, true, a, true, b⟩ : Pr) w prD.alts := by
  have hE := tabT_plain T
  have hS := S5_ok (ra := ra) (base := base) T
  have hT := TQ_ok (ra := ra) (base := base) T
  obtain ⟨a1, a2, a3⟩ := okO1_iff.1 ha
  obtain ⟨b1, b2, b3⟩ := okO1_iff.1 hb
  have F := fx_of a2 b2 ⟨ky, t, v, s, e, l⟩
  have hres : Ap.res ⟨true, a, none, ⟨ky, t, v, s, e, l⟩⟩ = fold (toO a) [⟨ky, t, v, s, e, l⟩] := rfl
  have hok : okAp ⟨true, a, none, ⟨ky, t, v, s, e, l⟩⟩ = true := okAp_iff.2 ⟨a1, by show a.kk.length ≤ 12; omega, fun h => by cases h⟩
  obtain ⟨n1, n2⟩ := none_iff hres
  have eO : ∀ o : Go.Proofs.Ytbfebjmmpiffpaa.Os, (⟨o.kk, o.aa, o.bb, o.gg⟩ : Go.Proofs.Ytbfebjmmpiffpaa.Os) = o := fun _ => rfl
  have hNW : noneW a b ⟨ky, t, v, s, e, l⟩ = (appW a b ⟨ky, t, v, s, e, l⟩ = []) := rfl
  have hWW : ∀ y, someW a b ⟨ky, t, v, s, e, l⟩ y = (y.y = Rs.of (appW a b ⟨ky, t, v, s, e, l⟩) ∧ appW a b ⟨ky, t, v, s, e, l⟩ ≠ []) := fun _ => rfl
  generalize fold (toO a) [⟨ky, t, v, s, e, l⟩] = A at *
  generalize appW a b ⟨ky, t, v, s, e, l⟩ = W at *
  refine takes_of_treeQ hE (wE hE hS) hT (.inr (by kernel_rfl)) (hp_below _) (pr_11 T ky t v s e l a b) ?_
  have kn := ok0_none (r := ⟨ky, t, v, s, e, l⟩) (af := true) (a := a) hb
  have ht : PostL 161 (⟨⟨ky, t, v, s, e, l⟩, true, a, true, b⟩ : Pr) (AExit.ret, mkT 161 [(6, AVal.bool true)], []) prD.alts := ⟨(), trivial, rfl⟩
  simp only [eO, List.getD_cons_zero]
  simp only [TreeQ.holds, List.length_map, decide_true, Bool.and_self, Bool.and_true, Bool.true_and, true_and, and_true, ha, hb, hok, hres, kn, cap_self, hNW, hWW, eO, forall_const]
  refine ⟨fun hN => ?_, fun y1 hSW => ?_⟩
  · obtain ⟨he, hl⟩ := el_of F hN
    refine ⟨fun hn => ⟨hn, fun _ => ⟨fun g => absurd g.1 (by decide), fun o ho => ⟨ok2_of a2 b2 ho _ _ _ _, fun y hy => fin0 he hl ht (by rw [show y = mostI (toO o) from hy, ho.2]; have := F.pos; omega)⟩⟩, fun y hy => absurd (parts_none _) hy.2⟩, fun hn => ⟨by rw [hn]; rfl, ok0_some hb (n2 hn) F.lenA _ _ _ _, fun _ => ⟨fun g => absurd g.1 (by decide), fun o ho => ⟨ok2_of a2 b2 ho _ _ _ _, fun y hy => fin0 he hl ht (by rw [show y = mostI (toO o) from hy, ho.2]; have := F.pos; omega)⟩⟩, fun y hy => absurd (F.parts.trans hN) hy.2⟩⟩
  · obtain ⟨y, c⟩ := y1
    obtain ⟨rfl, hne⟩ := hSW
    refine ⟨fun hn => absurd (F.nil (n1 hn)) hne, fun hn => ⟨by rw [hn]; rfl, ok0_some hb (n2 hn) F.lenA _ _ _ _, fun h0 => absurd (F.parts.symm.trans h0) hne, fun y4 h4 => ?_⟩⟩
    obtain rfl : y4 = Rs.of W := h4.1.trans (by rw [show partsL b ⟨A.map Rc.key, A.map Rc.time, A.map Rc.val, A.map Rc.side, A.map Rc.err, A.map Rc.late⟩ = W from F.parts])
    have hw1 : (e || l) = true → (Rs.of W).ks.length = 1 := fun h => by rw [ks_len, F.one h]; rfl
    have hw2 : ((Rs.of W).ks.length : Int) ≤ mostI (toO a ++ toO b) := by rw [ks_len]; exact F.le
    simp only [decide_true, Bool.not_true, Bool.false_eq_true, false_implies, true_and, forall_const]
    refine ⟨fun g => absurd g.1 (by decide), fun o ho => ⟨ok2_of a2 b2 ho _ _ _ _, fun y hy => ⟨ok4_of hne F.lenW F.like _ _, ?_⟩⟩⟩
    refine fin1 (F1 := fun c => PostL 161 (⟨⟨ky, t, v, s, e, l⟩, true, a, true, b⟩ : Pr) (AExit.ret, mkT 161 [(6, AVal.bool c)], []) prD.alts) ?_ ?_ ht ht
    · rw [show y = mostI (toO o) from hy, ho.2]; exact hw2
    · exact hw1
theorem pr_10t {ky t v s : Int} {e l : Bool} {a : Go.Proofs.Ytbfebjmmpiffpaa.Os} (ha : okO1 true a = true) :
    Takes Try.prog (tabT T) ra base 0 (codeOf 5 gR) (mkT 161 (prD.ins ⟨⟨ky, t, v, s, e, l⟩, true, a, false, Os.none⟩)) (hp 0 (prD.blks ⟨⟨ky, t, v, s, e, l⟩, true, a, false, Os.none⟩)) fun w => PostL 161 (⟨⟨ky, t, v, s, e, l⟩, true, a, false, Os.none⟩ : Pr) w prD.alts := by
  have hE := tabT_plain T
  have hS := S5_ok (ra := ra) (base := base) T
  have hT := TQ_ok (ra := ra) (base := base) T
  have hb : okO1 false Os.none = true := rfl
  obtain ⟨a1, a2, a3⟩ := okO1_iff.1 ha
  obtain ⟨b1, b2, b3⟩ := okO1_iff.1 hb
  have F := fx_of a2 b2 ⟨ky, t, v, s, e, l⟩
  have hres : Ap.res ⟨true, a, none, ⟨ky, t, v, s, e, l⟩⟩ = fold (toO a) [⟨ky, t, v, s, e, l⟩] := rfl
  have hok : okAp ⟨true, a, none, ⟨ky, t, v, s, e, l⟩⟩ = true := okAp_iff.2 ⟨a1, by show a.kk.length ≤ 12; omega, fun h => by cases h⟩
  obtain ⟨n1, n2⟩ := none_iff hres
  have eO : ∀ o : Go.Proofs.Ytbfebjmmpiffpaa.Os, (⟨o.kk, o.aa, o.bb, o.gg⟩ : Go.Proofs.Ytbfebjmmpiffpaa.Os) = o := fun _ => rfl
  have hNW : noneW a Os.none ⟨ky, t, v, s, e, l⟩ = (appW a Os.none ⟨ky, t, v, s, e, l⟩ = []) := rfl
  have hWW : ∀ y, someW a Os.none ⟨ky, t, v, s, e, l⟩ y = (y.y = Rs.of (appW a Os.none ⟨ky, t, v, s, e, l⟩) ∧ appW a Os.none ⟨ky, t, v, s, e, l⟩ ≠ []) := fun _ => rfl
  generalize fold (toO a) [⟨ky, t, v, s, e, l⟩] = A at *
  generalize appW a Os.none ⟨ky, t, v, s, e, l⟩ = W at *
  refine takes_of_treeQ hE (wE hE hS) hT (.inr (by kernel_rfl)) (hp_below _) (pr_10 T ky t v s e l a) ?_
  have kn := ok0_none (r := ⟨ky, t, v, s, e, l⟩) (af := true) (a := a) hb
  have ht : PostL 161 (⟨⟨ky, t, v, s, e, l⟩, true, a, false, Os.none⟩ : Pr) (AExit.ret, mkT 161 [(6, AVal.bool true)], []) prD.alts := ⟨(), trivial, rfl⟩
  simp only [eO, List.getD_cons_zero]
  simp only [TreeQ.holds, List.length_map, decide_true, Bool.and_self, Bool.and_true, Bool.true_and, true_and, and_true, ha, hb, hok, hres, kn, cap_self, hNW, hWW, eO, forall_const]
  refine ⟨fun hN => ?_, fun y1 hSW => ?_⟩
  · obtain ⟨he, hl⟩ := el_of F hN
    refine ⟨fun hn => ⟨hn, fun _ => ⟨fun g => absurd g.1 (by decide), fun o ho => ⟨ok2_of a2 b2 ho _ _ _ _, fun y hy => fin0 he hl ht (by rw [show y = mostI (toO o) from hy, ho.2]; have := F.pos; omega)⟩⟩, fun y hy => absurd (parts_none _) hy.2⟩, fun hn => ⟨by rw [hn]; rfl, ok0_some hb (n2 hn) F.lenA _ _ _ _, fun _ => ⟨fun g => absurd g.1 (by decide), fun o ho => ⟨ok2_of a2 b2 ho _ _ _ _, fun y hy => fin0 he hl ht (by rw [show y = mostI (toO o) from hy, ho.2]; have := F.pos; omega)⟩⟩, fun y hy => absurd (F.parts.trans hN) hy.2⟩⟩
  · obtain ⟨y, c⟩ := y1
    obtain ⟨rfl, hne⟩ := hSW
    refine ⟨fun hn => absurd (F.nil (n1 hn)) hne, fun hn => ⟨by rw [hn]; rfl, ok0_some hb (n2 hn) F.lenA _ _ _ _, fun h0 => absurd (F.parts.symm.trans h0) hne, fun y4 h4 => ?_⟩⟩
    obtain rfl : y4 = Rs.of W := h4.1.trans (by rw [show partsL Os.none ⟨A.map Rc.key, A.map Rc.time, A.map Rc.val, A.map Rc.side, A.map Rc.err, A.map Rc.late⟩ = W from F.parts])
    have hw1 : (e || l) = true → (Rs.of W).ks.length = 1 := fun h => by rw [ks_len, F.one h]; rfl
    have hw2 : ((Rs.of W).ks.length : Int) ≤ mostI (toO a ++ toO Os.none) := by rw [ks_len]; exact F.le
    simp only [decide_true, Bool.not_true, Bool.false_eq_true, false_implies, true_and, forall_const]
    refine ⟨fun g => absurd g.1 (by decide), fun o ho => ⟨ok2_of a2 b2 ho _ _ _ _, fun y hy => ⟨ok4_of hne F.lenW F.like _ _, ?_⟩⟩⟩
    refine fin1 (F1 := fun c => PostL 161 (⟨⟨ky, t, v, s, e, l⟩, true, a, false, Os.none⟩ : Pr) (AExit.ret, mkT 161 [(6, AVal.bool c)], []) prD.alts) ?_ ?_ ht ht
    · rw [show y = mostI (toO o) from hy, ho.2]; exact hw2
    · exact hw1
theorem pr_01t {ky t v s : Int} {e l : Bool} {b : Go.Proofs.Ytbfebjmmpiffpaa.Os} (hb : okO1 true b = true) :
    Takes Try.prog (tabT T) ra base 0 (codeOf 5 gR) (mkT 161 (prD.ins ⟨⟨ky, t, v, s, e, l⟩, false, Os.none, true, b⟩)) (hp 0 (prD.blks ⟨⟨ky, t, v, s, e, l⟩, false, Os.none, true, b⟩)) fun w => PostL 161 (⟨⟨ky, t, v, s, e, l⟩, false, Os.none, true, b⟩ : Pr) w prD.alts := by
  have hE := tabT_plain T
  have hS := S5_ok (ra := ra) (base := base) T
  have hT := TQ_ok (ra := ra) (base := base) T
  have ha : okO1 false Os.none = true := rfl
  obtain ⟨a1, a2, a3⟩ := okO1_iff.1 ha
  obtain ⟨b1, b2, b3⟩ := okO1_iff.1 hb
  have F := fx_of a2 b2 ⟨ky, t, v, s, e, l⟩
  have hres : Ap.res ⟨false, Os.none, none, ⟨ky, t, v, s, e, l⟩⟩ = fold (toO Os.none) [⟨ky, t, v, s, e, l⟩] := rfl
  have eO : ∀ o : Go.Proofs.Ytbfebjmmpiffpaa.Os, (⟨o.kk, o.aa, o.bb, o.gg⟩ : Go.Proofs.Ytbfebjmmpiffpaa.Os) = o := fun _ => rfl
  have hNW : noneW Os.none b ⟨ky, t, v, s, e, l⟩ = (appW Os.none b ⟨ky, t, v, s, e, l⟩ = []) := rfl
  have hWW : ∀ y, someW Os.none b ⟨ky, t, v, s, e, l⟩ y = (y.y = Rs.of (appW Os.none b ⟨ky, t, v, s, e, l⟩) ∧ appW Os.none b ⟨ky, t, v, s, e, l⟩ ≠ []) := fun _ => rfl
  have hA : fold (toO Os.none) [⟨ky, t, v, s, e, l⟩] ≠ [] := by show [_] ≠ []; simp
  generalize fold (toO Os.none) [⟨ky, t, v, s, e, l⟩] = A at *
  generalize appW Os.none b ⟨ky, t, v, s, e, l⟩ = W at *
  refine takes_of_treeQ hE (wE hE hS) hT (.inr (by kernel_rfl)) (hp_below _) (pr_01 T ky t v s e l b) ?_
  have kn := ok0_none (r := ⟨ky, t, v, s, e, l⟩) (af := false) (a := Os.none) hb
  have ht : PostL 161 (⟨⟨ky, t, v, s, e, l⟩, false, Os.none, true, b⟩ : Pr) (AExit.ret, mkT 161 [(6, AVal.bool true)], []) prD.alts := ⟨(), trivial, rfl⟩
  simp only [eO, List.getD_cons_zero]
  simp only [TreeQ.holds, List.length_map, decide_true, Bool.and_self, Bool.and_true, Bool.true_and, true_and, and_true, ha, hb, hres, kn, cap_self, hNW, hWW, eO, forall_const]
  refine ⟨fun hN => ?_, fun y1 hSW => ?_⟩
  · obtain ⟨he, hl⟩ := el_of F hN
    refine ⟨ok0_some hb hA F.lenA _ _ _ _, fun _ => ⟨fun g => absurd g.2 (by decide), fun o ho => ⟨ok2_of a2 b2 ho _ _ _ _, fun y hy => fin0 he hl ht (by rw [show y = mostI (toO o) from hy, ho.2]; have := F.pos; omega)⟩⟩, fun y hy => absurd (F.parts.trans hN) hy.2⟩
  · obtain ⟨y, c⟩ := y1
    obtain ⟨rfl, hne⟩ := hSW
    refine ⟨ok0_some hb hA F.lenA _ _ _ _, fun h0 => absurd (F.parts.symm.trans h0) hne, fun y4 h4 => ?_⟩
    obtain rfl : y4 = Rs.of W := h4.1.trans (by rw [show partsL b ⟨A.map Rc.key, A.map Rc.time, A.map Rc.val, A.map Rc.side, A.map Rc.err, A.map Rc.late⟩ = W from F.parts])
    have hw1 : (e || l) = true → (Rs.of W).ks.length = 1 := fun h => by rw [ks_len, F.one h]; rfl
    have hw2 : ((Rs.of W).ks.length : Int) ≤ mostI (toO Os.none ++ toO b) := by rw [ks_len]; exact F.le
    simp only [decide_true, Bool.not_true, Bool.false_eq_true, false_implies, true_and, forall_const]
    refine ⟨fun g => absurd g.2 (by decide), fun o ho => ⟨ok2_of a2 b2 ho _ _ _ _, fun y hy => ⟨ok4_of hne F.lenW F.like _ _, ?_⟩⟩⟩
    refine fin1 (F1 := fun c => PostL 161 (⟨⟨ky, t, v, s, e, l⟩, false, Os.none, true, b⟩ : Pr) (AExit.ret, mkT 161 [(6, AVal.bool c)], []) prD.alts) ?_ ?_ ht ht
    · rw [show y = mostI (toO o) from hy, ho.2]; exact hw2
    · exact hw1
theorem pr_00t {ky t v s : Int} {e l : Bool} :
    Takes Try.prog (tabT T) ra base 0 (codeOf 5 gR) (mkT 161 (prD.ins ⟨⟨ky, t, v, s, e, l⟩, false, Os.none, false, Os.none⟩)) (hp 0 (prD.blks ⟨⟨ky, t, v, s, e, l⟩, false, Os.none, false, Os.none⟩)) fun w => PostL 161 (⟨⟨ky, t, v, s, e, l⟩, false, Os.none, false, Os.none⟩ : Pr) w prD.alts := by
  have hE := tabT_plain T
  have hS := S5_ok (ra := ra) (base := base) T
  have hT := TQ_ok (ra := ra) (base := base) T
  have ha : okO1 false Os.none = true := rfl
  have hb : okO1 false Os.none = true := rfl
  obtain ⟨a1, a2, a3⟩ := okO1_iff.1 ha
  obtain ⟨b1, b2, b3⟩ := okO1_iff.1 hb
  have F := fx_of a2 b2 ⟨ky, t, v, s, e, l⟩
  have hres : Ap.res ⟨false, Os.none, none, ⟨ky, t, v, s, e, l⟩⟩ = fold (toO Os.none) [⟨ky, t, v, s, e, l⟩] := rfl
  have eO : ∀ o : Go.Proofs.Ytbfebjmmpiffpaa.Os, (⟨o.kk, o.aa, o.bb, o.gg⟩ : Go.Proofs.Ytbfebjmmpiffpaa.Os) = o := fun _ => rfl
  have hNW : noneW Os.none Os.none ⟨ky, t, v, s, e, l⟩ = (appW Os.none Os.none ⟨ky, t, v, s, e, l⟩ = []) := rfl
  have hWW : ∀ y, someW Os.none Os.none ⟨ky, t, v, s, e, l⟩ y = (y.y = Rs.of (appW Os.none Os.none ⟨ky, t, v, s, e, l⟩) ∧ appW Os.none Os.none ⟨ky, t, v, s, e, l⟩ ≠ []) := fun _ => rfl
  have hA : fold (toO Os.none) [⟨ky, t, v, s, e, l⟩] ≠ [] := by show [_] ≠ []; simp
  generalize fold (toO Os.none) [⟨ky, t, v, s, e, l⟩] = A at *
  generalize appW Os.none Os.none ⟨ky, t, v, s, e, l⟩ = W at *
  refine takes_of_treeQ hE (wE hE hS) hT (.inr (by kernel_rfl)) (hp_below _) (pr_00 T ky t v s e l) ?_
  have kn := ok0_none (r := ⟨ky, t, v, s, e, l⟩) (af := false) (a := Os.none) hb
  have ht : PostL 161 (⟨⟨ky, t, v, s, e, l⟩, false, Os.none, false, Os.none⟩ : Pr) (AExit.ret, mkT 161 [(6, AVal.bool true)], []) prD.alts := ⟨(), trivial, rfl⟩
  simp only [eO, List.getD_cons_zero]
  simp only [TreeQ.holds, List.length_map, decide_true, Bool.and_self, Bool.and_true, Bool.true_and, true_and, and_true, ha, hb, hres, kn, cap_self, hNW, hWW, eO, forall_const]
  refine ⟨fun hN => ?_, fun y1 hSW => ?_⟩
  · obtain ⟨he, hl⟩ := el_of F hN
    refine ⟨fun _ => ⟨fun g y hy => fin0 he hl ht (by rw [show y = 1 from hy]; decide), fun o ho => ⟨ok2_of a2 b2 ho _ _ _ _, fun y hy => fin0 he hl ht (by rw [show y = mostI (toO o) from hy, ho.2]; have := F.pos; omega)⟩⟩, fun y hy => absurd (F.parts.trans hN) hy.2⟩
  · obtain ⟨y, c⟩ := y1
    obtain ⟨rfl, hne⟩ := hSW
    refine ⟨fun h0 => absurd (F.parts.symm.trans h0) hne, fun y4 h4 => ?_⟩
    obtain rfl : y4 = Rs.of W := h4.1.trans (by rw [show partsL Os.none ⟨A.map Rc.key, A.map Rc.time, A.map Rc.val, A.map Rc.side, A.map Rc.err, A.map Rc.late⟩ = W from F.parts])
    have hw1 : (e || l) = true → (Rs.of W).ks.length = 1 := fun h => by rw [ks_len, F.one h]; rfl
    have hw2 : ((Rs.of W).ks.length : Int) ≤ mostI (toO Os.none ++ toO Os.none) := by rw [ks_len]; exact F.le
    simp only [decide_true, Bool.not_true, Bool.false_eq_true, false_implies, true_and, forall_const]
    refine ⟨fun g y hy => ⟨ok4_of hne F.lenW F.like _ _, by
      refine fin1 (F1 := fun c => PostL 161 (⟨⟨ky, t, v, s, e, l⟩, false, Os.none, false, Os.none⟩ : Pr) (AExit.ret, mkT 161 [(6, AVal.bool c)], []) prD.alts) ?_ ?_ ht ht
      · rw [show y = 1 from hy]; exact hw2
      · exact hw1⟩, fun o ho => ⟨ok2_of a2 b2 ho _ _ _ _, fun y hy => ⟨ok4_of hne F.lenW F.like _ _, ?_⟩⟩⟩
    refine fin1 (F1 := fun c => PostL 161 (⟨⟨ky, t, v, s, e, l⟩, false, Os.none, false, Os.none⟩ : Pr) (AExit.ret, mkT 161 [(6, AVal.bool c)], []) prD.alts) ?_ ?_ ht ht
    · rw [show y = mostI (toO o) from hy, ho.2]; exact hw2
    · exact hw1

theorem pr_takes (x : Pr) (hx : prD.pre x = true) : Takes Try.prog (tabT T) ra base 0 (codeOf 5 gR) (mkT 161 (prD.ins x)) (hp 0 (prD.blks x)) fun w => PostL 161 x w prD.alts := by
  obtain ⟨⟨ky, t, v, s, e, l⟩, af, a, bf, b⟩ := x
  simp only [prD, Bool.and_eq_true] at hx
  obtain ⟨ha, hb⟩ := hx
  cases af <;> cases bf
  · obtain rfl := nil_lenO (okO1_iff.1 ha).1 (by rcases (okO1_iff.1 ha).2.2 with ⟨h, _⟩ | ⟨_, h⟩; (cases h); exact h)
    obtain rfl := nil_lenO (okO1_iff.1 hb).1 (by rcases (okO1_iff.1 hb).2.2 with ⟨h, _⟩ | ⟨_, h⟩; (cases h); exact h)
    exact pr_00t
  · obtain rfl := nil_lenO (okO1_iff.1 ha).1 (by rcases (okO1_iff.1 ha).2.2 with ⟨h, _⟩ | ⟨_, h⟩; (cases h); exact h)
    exact pr_01t hb
  · obtain rfl := nil_lenO (okO1_iff.1 hb).1 (by rcases (okO1_iff.1 hb).2.2 with ⟨h, _⟩ | ⟨_, h⟩; (cases h); exact h)
    exact pr_10t ha
  · exact pr_11t ha hb

theorem TPr_ok (T : Tb) : ToldsOK Try.prog (tabT T) ra base 0 TPr := sumT_ok noT_ok rfl (toldR_ok (c := codeOf 5 gR) (by kernel_rfl) pr_takes)

theorem okO1_ops {t : Nat} {n : Nat} (hn : n = (tabOf T t).w.length) (h : ozB T ⟨t, true, n⟩ = false) : okO1 true ⟨(opsL (tabOf T t)).map Op4.k, (opsL (tabOf T t)).map Op4.a, (opsL (tabOf T t)).map Op4.b, (opsL (tabOf T t)).map Op4.g⟩ = true := by
  have h0 : ¬ (tabOf T t).w.length = 0 := of_decide_eq_false h
  have hl : (opsL (tabOf T t)).length = min (tabOf T t).w.length 6 := by rw [opsL_first, firstO_len]
  refine okO1_iff.2 ⟨lensO_of _, ?_, .inl ⟨rfl, ?_⟩⟩
  · show ((opsL (tabOf T t)).map Op4.k).length ≤ 6; rw [List.length_map]; omega
  · show 0 < ((opsL (tabOf T t)).map Op4.k).length; rw [List.length_map]; omega

theorem parts_gives {V U : AVal} (hV : okV 0 T V = true) (hU : okV 1 T U = true) {ky t v s : Int} {e l : Bool} :
    Gives Try.prog (tabT T) ra base 0 5 [V, U, Rc.v ⟨ky, t, v, s, e, l⟩] (hp 0 []) fun v _ => v = .bool true := by
  have hE := tabT_plain T
  have hS := S5_ok (ra := ra) (base := base) T
  have hT := TPr_ok (ra := ra) (base := base) T
  have o1 : okOz T ⟨0, true, (tabOf T 0).w.length⟩ = true := decide_eq_true rfl
  have o2 : okOz T ⟨1, true, (tabOf T 1).w.length⟩ = true := decide_eq_true rfl
  rcases okV_cases hV with rfl | rfl <;> rcases okV_cases hU with rfl | rfl
  · refine gives_of_treeQ hE (wE hE hS) hT (hp_below _) (parts_NN T ky t v s e l) ?_
    simp only [TreeQ.holds, List.length_map, decide_true, Bool.and_self, Bool.and_true, Bool.true_and, true_and, and_true, forall_const]
    exact ⟨_, rfl, rfl⟩
  · refine gives_of_treeQ hE (wE hE hS) hT (hp_below _) (parts_NS T (tabOf T 1).w.length ky t v s e l) ?_
    simp only [TreeQ.holds, List.length_map, decide_true, Bool.and_self, Bool.and_true, Bool.true_and, true_and, and_true, o2, forall_const]
    refine ⟨fun h => ⟨h, _, rfl, rfl⟩, fun h => ⟨by rw [h]; rfl, okO1_ops rfl h, _, rfl, rfl⟩⟩
  · refine gives_of_treeQ hE (wE hE hS) hT (hp_below _) (parts_SN T (tabOf T 0).w.length ky t v s e l) ?_
    simp only [TreeQ.holds, List.length_map, decide_true, Bool.and_self, Bool.and_true, Bool.true_and, true_and, and_true, o1, forall_const]
    refine ⟨fun h => ⟨h, _, rfl, rfl⟩, fun h => ⟨by rw [h]; rfl, okO1_ops rfl h, _, rfl, rfl⟩⟩
  · refine gives_of_treeQ hE (wE hE hS) hT (hp_below _) (parts_SS T (tabOf T 0).w.length (tabOf T 1).w.length ky t v s e l) ?_
    simp only [TreeQ.holds, List.length_map, decide_true, Bool.and_self, Bool.and_true, Bool.true_and, true_and, and_true, o1, o2, forall_const]
    refine ⟨fun h => ⟨h, fun h' => ⟨h', _, rfl, rfl⟩, fun h' => ⟨by rw [h']; rfl, okO1_ops rfl h', _, rfl, rfl⟩⟩, fun h => ⟨by rw [h]; rfl, fun h' => ⟨h', okO1_ops rfl h, _, rfl, rfl⟩, fun h' => ⟨by rw [h']; rfl, by rw [okO1_ops rfl h, okO1_ops rfl h']; rfl, _, rfl, rfl⟩⟩⟩
end
end Go.Proofs.Ytbfebjmmpiffpaa
