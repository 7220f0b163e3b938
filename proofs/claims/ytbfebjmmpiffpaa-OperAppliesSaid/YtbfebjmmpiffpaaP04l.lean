/- oper: OperApplies as a whole. -/
import Derived.Test.YtbfebjmmpiffpaaP04k
set_option linter.unusedSimpArgs false
set_option linter.unusedVariables false
namespace Go.Proofs.Ytbfebjmmpiffpaa
open Ab

section
variable {ra : Nat → Nat → Nat × Nat} {base : Nat} {T : Tb}

def okV (t : Nat) (T : Tb) : AVal → Bool
  | .nils => true
  | .slice (.ro t' 0 0 0) n none => Nat.beq t' t && decide (n = (tabOf T t).w.length)
  | _ => false
theorem okV_cases {t : Nat} {V : AVal} (h : okV t T V = true) : V = .nils ∨ V = .slice (.ro t 0 0 0) (tabOf T t).w.length none := by
  unfold okV at h
  split at h
  · exact .inl rfl
  · rename_i t' n
    rw [Bool.and_eq_true] at h
    rw [Nat.eq_of_beq_eq_true h.1, of_decide_eq_true h.2]
    exact .inr rfl
  · cases h

theorem ops_len (D : Ds) : (opsL D).length ≤ 6 := by rw [opsL_first, firstO_len]; omega
theorem okAp_ops (D : Ds) (c : Option Nat) (r : Rc) : okAp ⟨true, Os.of (opsL D), c, r⟩ = true := okAp_iff.2 ⟨lensO_of _, by rw [kk_len]; have := ops_len D; omega, fun h => by cases h⟩
theorem okAp_one (x : Op4) (c : Option Nat) (r : Rc) : okAp ⟨true, ⟨[x.k], [x.a], [x.b], [x.g]⟩, c, r⟩ = true := okAp_iff.2 ⟨lensO_of [x], by show 1 ≤ 12; decide, fun h => by cases h⟩
theorem res_room {full : Bool} {o : Os} (h : o.kk.length ≤ 12) (c : Option Nat) (r : Rc) : (Ap.res ⟨full, o, c, r⟩).length ≤ 1000000 := fold_room (by rw [toO_len]; exact h)

theorem applies_gives {V : AVal} (hV : okV 0 T V = true) {k a b g ky t v s : Int} {e l : Bool} (hr : rcB ⟨ky, t, v, s, e, l⟩ = true) :
    Gives Try.prog (tabT T) ra base 0 4 [V, Op4.v ⟨k, a, b, g⟩, Rc.v ⟨ky, t, v, s, e, l⟩] (hp 0 []) fun v _ => v = .bool true := by
  have hE := tabT_plain T
  have hS := S4_ok (ra := ra) (base := base) T
  have m1 : ∀ l : List Rc, lensR ⟨l.map Rc.key, l.map Rc.time, l.map Rc.val, l.map Rc.side, l.map Rc.err, l.map Rc.late⟩ = true := lens_of
  have n1 := fun c r => okAp_one ⟨k, a, b, g⟩ c r
  have l1 : ∀ full o c r, o.kk.length ≤ 12 → decide ((Ap.res ⟨full, o, c, r⟩).length ≤ 1000000) = true := fun full o c r h => decide_eq_true (res_room h c r)
  have q1 := fun c r => l1 true ⟨[k], [a], [b], [g]⟩ c r (by show 1 ≤ 12; decide)
  have q2 := fun c r => l1 true (Os.of (opsL (tabOf T 0))) c r (by rw [kk_len]; have := ops_len (tabOf T 0); omega)
  have n2 := fun c r => okAp_ops (tabOf T 0) c r
  have eO : (⟨(opsL (tabOf T 0)).map Op4.k, (opsL (tabOf T 0)).map Op4.a, (opsL (tabOf T 0)).map Op4.b, (opsL (tabOf T 0)).map Op4.g⟩ : Go.Proofs.Ytbfebjmmpiffpaa.Os) = Os.of (opsL (tabOf T 0)) := rfl
  rcases okV_cases hV with rfl | rfl
  · refine gives_of_treeQ hE (wE hE hS) noT_ok (hp_below _) (applies_N T k a b g ky t v s e l) ?_
    simp only [TreeQ.holds, List.length_map, decide_true, Bool.and_self, Bool.and_true, Bool.true_and, true_and, and_true, hr, cap_self, m1, n1, q1]
    cases hn : Ap.none ⟨true, ⟨[k], [a], [b], [g]⟩, some 1, ⟨ky, t, v, s, e, l⟩⟩ <;> simp only [hn, Bool.not_true, Bool.not_false, Bool.true_eq_false, Bool.false_eq_true, false_implies, forall_const, true_and, and_true, Bool.and_true, Bool.and_false, exists_eq_left']
    all_goals exact ⟨_, rfl, rfl⟩
  · have hok : okOz T ⟨0, true, (tabOf T 0).w.length⟩ = true := decide_eq_true rfl
    refine gives_of_treeQ hE (wE hE hS) noT_ok (hp_below _) (applies_S T (tabOf T 0).w.length k a b g ky t v s e l) ?_
    simp only [eO]
    simp only [TreeQ.holds, List.length_map, decide_true, Bool.and_self, Bool.and_true, Bool.true_and, true_and, and_true, hr, hok, cap_self, m1, q1, q2, n2]
    cases hz : ozB T ⟨0, true, (tabOf T 0).w.length⟩ <;> cases hn : Ap.none ⟨true, ⟨[k], [a], [b], [g]⟩, some 1, ⟨ky, t, v, s, e, l⟩⟩ <;> cases hm : Ap.none ⟨true, Os.of (opsL (tabOf T 0)), none, ⟨ky, t, v, s, e, l⟩⟩ <;>
      simp only [hz, hn, hm, Bool.not_true, Bool.not_false, Bool.true_eq_false, Bool.false_eq_true, false_implies, forall_const, true_and, and_true, Bool.and_true, Bool.and_false]
    all_goals exact ⟨_, rfl, rfl⟩
end
end Go.Proofs.Ytbfebjmmpiffpaa
