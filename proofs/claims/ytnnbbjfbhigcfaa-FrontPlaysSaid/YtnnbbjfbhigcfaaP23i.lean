/- front: FrontPlays: the whole. -/
import Derived.Test.YtnnbbjfbhigcfaaP23h
set_option linter.unusedSimpArgs false
namespace Go.Proofs.Ytnnbbjfbhigcfaa
open Ab

section
variable {T : Tb} {ra : Nat → Nat → Nat × Nat} {base : Nat}

theorem zlen (n : Nat) : (zerosI n).length = n := List.length_replicate
theorem py_new {N : Int} {V : AVal} (hV : okV T V = true) (h : newOk N = true) :
    pyOk T (.two ⟨V, ⟨[0, 0, 0, 0, 0, 0, 0, 0, 0, 0, 0, 0, 0, 0, 0, 0], N, 0⟩, ⟨zerosI N.toNat, 0⟩⟩) = true := by
  obtain ⟨h1, h2⟩ := newOk_iff.1 h
  refine plOk_of hV (okFr_of rfl h1 h2) ?_
  show Rr.mk (zerosI N.toNat) 0 = Rr.mk ((List.replicate 16 (0 : Int)).take N.toNat) 0
  rw [List.take_replicate, Nat.min_eq_left (by omega)]; rfl

theorem py_make {s : Sl} {t : Int} {V : AVal} (hV : okV T V = true) (hs : okS20 T s = true) (h : makeOk T ⟨s, t⟩ = true) :
    pyOk T (.two ⟨V, ⟨s.l T ++ List.replicate (16 - slN s) 0, slN s, t⟩, ⟨s.l T, t⟩⟩) = true := by
  cases s with
  | nil => simp [makeOk, slN] at h
  | ro p m =>
    obtain ⟨h1, h2, h3, h4⟩ := makeOk_iff.1 h
    simp only [okS20, Bool.and_eq_true, decide_eq_true_eq] at hs
    refine plOk_of hV (okFr_of ?_ ?_ ?_) ?_
    · show ((T.hs p).take m ++ List.replicate (16 - m) (0 : Int)).length = 16
      rw [List.length_append, List.length_take, List.length_replicate]; omega
    · show (1 : Int) ≤ (m : Int)
      omega
    · show (m : Int) ≤ 16
      omega
    · show Rr.mk ((T.hs p).take m) t = Rr.mk (((T.hs p).take m ++ List.replicate (16 - m) (0 : Int)).take (m : Int).toNat) t
      rw [Int.toNat_natCast, List.take_append_of_le_length (by rw [List.length_take]; omega), List.take_take, Nat.min_self]

theorem w8 (hT : T.Ok) : ExecOK Try.prog (tabF T) ra base (W (tabF T) (S8 T) noL) := wS (S8_ok hT)

theorem plays_gives (hT : T.Ok) {V V1 : AVal} (hV : okV T V = true) {N : Int} {K : Nat} (h1 : V1 = .nils ∨ V1 = .slice (.ro 1 K 0 0) (T.hs K).length none) :
    Gives Try.prog (tabF T) ra base 0 5 [.int .i64 N, V1, V] (hp 0 []) fun v _ => v = .bool true := by
  have hE := tabF_plain T
  have hn : pyOk T (.non V) = true := hV
  have a1 := fun h => py_new (T := T) (N := N) hV h
  have a2 := fun h => py_new (T := T) (N := Int.tmod N 9) hV h
  have fin : (∃ v, mkT 1 [(0, AVal.bool true)] = [v] ∧ v = .bool true) ↔ True := iff_true_intro ⟨_, rfl, rfl⟩
  rcases h1 with rfl | rfl
  · rcases okV_cases hV with rfl | rfl
    · refine (gives_of_tree hE (w8 hT) (S8_ok hT) (hp_below _) (front_plays0n T N) ?_).2
      cases b1 : newOk N <;> cases b2 : newOk (Int.tmod N 9) <;> simp only [b1, b2, true_implies] at a1 a2 <;>
        simp only [Tree.holds, b1, b2, a1, a2, hn, fin, decide_true, Bool.and_self, Bool.and_true, Bool.true_and, true_and, and_true, reduceCtorEq, false_implies, true_implies, Bool.not_true, Bool.not_false, zlen]
    · refine (gives_of_tree hE (w8 hT) (S8_ok hT) (hp_below _) (front_playsn T _ N) ?_).2
      cases b1 : newOk N <;> cases b2 : newOk (Int.tmod N 9) <;> simp only [b1, b2, true_implies] at a1 a2 <;>
        simp only [Tree.holds, b1, b2, a1, a2, hn, fin, decide_true, Bool.and_self, Bool.and_true, Bool.true_and, true_and, and_true, reduceCtorEq, false_implies, true_implies, Bool.not_true, Bool.not_false, zlen]
  · obtain ⟨M, hM⟩ : ∃ M, M = (if 20 < (((T.hs K).length : Nat) : Int) then (20 : Int) else (((T.hs K).length : Nat) : Int)) := ⟨_, rfl⟩
    have hMb : 0 ≤ M ∧ M ≤ (((T.hs K).length : Nat) : Int) ∧ M ≤ 20 := by rw [hM]; split <;> omega
    have hb : (decide (0 ≤ M) && decide (M ≤ (((T.hs K).length : Nat) : Int))) = true := by rw [Bool.and_eq_true, decide_eq_true_eq, decide_eq_true_eq]; exact ⟨hMb.1, hMb.2.1⟩
    have hs : okS20 T (.ro K M.toNat) = true := by
      simp only [okS20, Bool.and_eq_true, decide_eq_true_eq]; omega
    obtain ⟨S, hS⟩ : ∃ S, S = Sl.ro K M.toNat := ⟨_, rfl⟩
    have hl : (Sl.l T S).length = slN S := by
      rw [hS]; show ((T.hs K).take M.toNat).length = M.toNat
      rw [List.length_take]; omega
    rw [← hS] at hs
    have a3 := fun h => py_make (T := T) (s := S) (t := N) hV hs h
    have a4 := fun h => py_make (T := T) (s := S) (t := Int.tmod N 9) hV hs h
    rcases okV_cases hV with rfl | rfl
    · refine (gives_of_tree hE (w8 hT) (S8_ok hT) (hp_below _) (front_plays0r T K _ N) ?_).2
      rw [← hM, ← hS]
      cases b1 : newOk N <;> cases b2 : newOk (Int.tmod N 9) <;> cases b3 : makeOk T ⟨S, N⟩ <;> cases b4 : makeOk T ⟨S, Int.tmod N 9⟩ <;> simp only [b1, b2, b3, b4, true_implies] at a1 a2 a3 a4 <;>
        simp only [Tree.holds, b1, b2, b3, b4, a1, a2, a3, a4, hn, hb, hs, hl, fin, decide_true, Bool.and_self, Bool.and_true, Bool.true_and, true_and, and_true, reduceCtorEq, false_implies, true_implies, Bool.not_true, Bool.not_false, zlen]
    · refine (gives_of_tree hE (w8 hT) (S8_ok hT) (hp_below _) (front_playsr T _ K _ N) ?_).2
      rw [← hM, ← hS]
      cases b1 : newOk N <;> cases b2 : newOk (Int.tmod N 9) <;> cases b3 : makeOk T ⟨S, N⟩ <;> cases b4 : makeOk T ⟨S, Int.tmod N 9⟩ <;> simp only [b1, b2, b3, b4, true_implies] at a1 a2 a3 a4 <;>
        simp only [Tree.holds, b1, b2, b3, b4, a1, a2, a3, a4, hn, hb, hs, hl, fin, decide_true, Bool.and_self, Bool.and_true, Bool.true_and, true_and, and_true, reduceCtorEq, false_implies, true_implies, Bool.not_true, Bool.not_false, zlen]
end

end Go.Proofs.Ytnnbbjfbhigcfaa
