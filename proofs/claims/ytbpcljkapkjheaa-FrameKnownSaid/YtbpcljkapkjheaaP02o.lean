/- frame: both Alls keep one contract. -/
import Derived.Test.YtbpcljkapkjheaaT02o
set_option linter.unusedSimpArgs false
set_option linter.unusedVariables false
namespace Go.Proofs.Ytbpcljkapkjheaa
open Ab

theorem nx_zero {s : ByteArray} {a : Int} (h : nxE s a = 0) : 0 ≤ a ∧ a + szN s a + 5 ≤ (s.size : Nat) ∧ szN s a ≤ 1048576 ∧ byteI s a = 165 ∧ byteI s (a + 4 + szN s a) = 90 := by
  unfold nxE at h
  repeat' split at h
  all_goals (try (exfalso; revert h; decide))
  rename_i h1 h2 h3 h4 h5 h6 h7
  exact ⟨h1.1, by omega, by omega, Classical.not_not.1 h3, Classical.not_not.1 h7⟩

/-- between the rounds: what is read, and what is to come, is all -/
structure Inv (s : ByteArray) (j : Nat) (a : Int) (L : List ByteArray) : Prop where
  a0 : 0 ≤ a
  a1 : a ≤ (s.size : Nat)
  lt : (s.size : Int) - a < (j : Nat)
  eq : allF j s a L = allT s
  le : (L.length : Int) * 5 ≤ a
theorem inv_0 (s : ByteArray) : Inv s (s.size + 1) 0 [] := ⟨by omega, by omega, by omega, rfl, by simp⟩
theorem Inv.next {s : ByteArray} {j : Nat} {a : Int} {L : List ByteArray} (h : Inv s (j + 1) a L) (he : nxE s a = 0) : Inv s j (a + szN s a + 5) (L ++ [bodyS s a]) := by
  obtain ⟨z0, z1, z2, _, _⟩ := nx_zero he
  have hz := (szN_in s a).1
  obtain ⟨a0, a1, lt, eq, le⟩ := h
  refine ⟨by omega, z1, by omega, ?_, ?_⟩
  · rw [← eq]; show _ = if nxE s a = 0 then _ else _; rw [if_pos he]
  · rw [List.length_append]; simp only [List.length_cons, List.length_nil]; omega
theorem Inv.end {s : ByteArray} {j : Nat} {a : Int} {L : List ByteArray} (h : Inv s (j + 1) a L) (he : ¬ nxE s a = 0) : allT s = ⟨L, a, if nxE s a = 9 then 0 else nxE s a⟩ := by
  rw [← h.eq]; show (if nxE s a = 0 then _ else _) = _; rw [if_neg he]

def insA (s : ByteArray) (V : AVal) (a : Int) : List (Nat × AVal) := [(0, .str s), (2, V), (3, .int .i64 a), (4, .int .i64 0)]
def insR (s : ByteArray) (V : AVal) (a : Int) : List (Nat × AVal) := [(0, .str s), (5, V), (6, .int .i64 a)]
def AtL (n : Nat) (ins : AVal → Int → List (Nat × AVal)) (s : ByteArray) (j : Nat) (ts : Tmps) (h : Log) : Prop :=
  ∃ a L, Inv s j a L ∧ ((L = [] ∧ ts = mkT n (ins .nils a) ∧ h = hp 0 []) ∨ (0 < L.length ∧ ts = mkT n (ins (liV L 0) a) ∧ h = hp 0 [txB L]))
def EndL (n : Nat) (ex : AExit) (s : ByteArray) (y : State) : Prop :=
  (noneA s = true ∧ y = (ex, mkT n [(2, .nils), (3, .int .i64 (allT s).a), (4, .int .i64 (allT s).e)], hp 0 [])) ∨
  (noneA s = false ∧ y = (ex, mkT n [(2, liV (allT s).L 0), (3, .int .i64 (allT s).a), (4, .int .i64 (allT s).e)], hp 0 [txB (allT s).L]))
theorem end_n {n : Nat} {ex : AExit} {s : ByteArray} {a e : Int} (h : allT s = ⟨[], a, e⟩) : EndL n ex s (ex, mkT n [(2, .nils), (3, .int .i64 a), (4, .int .i64 e)], hp 0 []) := by
  refine .inl ⟨by rw [noneA, h]; rfl, by rw [h]⟩
theorem end_g {n : Nat} {ex : AExit} {s : ByteArray} {a e : Int} {L : List ByteArray} (h : allT s = ⟨L, a, e⟩) (hL : 0 < L.length) : EndL n ex s (ex, mkT n [(2, liV L 0), (3, .int .i64 a), (4, .int .i64 e)], hp 0 [txB L]) := by
  refine .inr ⟨?_, by rw [h]⟩
  rw [noneA, h]
  cases L with
  | nil => cases hL
  | cons => rfl
theorem at_g {n : Nat} {ins : AVal → Int → List (Nat × AVal)} {s : ByteArray} {j : Nat} {a : Int} {L : List ByteArray} (h : Inv s j a L) (hL : 0 < L.length) : AtL n ins s j (mkT n (ins (liV L 0) a)) (hp 0 [txB L]) := ⟨a, L, h, .inr ⟨hL, rfl, rfl⟩⟩
theorem at_n {n : Nat} {ins : AVal → Int → List (Nat × AVal)} {s : ByteArray} {j : Nat} {a : Int} (h : Inv s j a []) : AtL n ins s j (mkT n (ins .nils a)) (hp 0 []) := ⟨a, [], h, .inl ⟨rfl, rfl, rfl⟩⟩

section
variable {E : Nat → Nat → Seg} {ra : Nat → Nat → Nat × Nat} {base : Nat}

theorem err_9 {x : Int} (h : x = 9) : (if x = 9 then (0 : Int) else x) = 0 := if_pos h
theorem err_x {x : Int} (h : ¬ x = 9) : (if x = 9 then (0 : Int) else x) = x := if_neg h
theorem txt_1 {s : ByteArray} {a : Int} (h : nxE s a = 0) : (if nxE s a = 0 then cutB s (a + 4) (a + 4 + szN s a) else noTx) = bodyS s a := if_pos h
theorem nxt_1 {s : ByteArray} {a : Int} (h : nxE s a = 0) : (if nxE s a = 0 then a + szN s a + 5 else a) = a + szN s a + 5 := if_pos h
theorem row_1 (t : ByteArray) : List.take 1 (List.drop 0 [t]) = [] ++ [t] := rfl
theorem row_g (L : List ByteArray) (t : ByteArray) : List.take L.length (List.drop 0 L) ++ List.take 1 (List.drop 0 [t]) = L ++ [t] := by simp
theorem len_g (L : List ByteArray) (t : ByteArray) : L.length + 1 = (L ++ [t]).length := by simp

theorem al_step (hE : Plain E) {s : ByteArray} (hs : s.size ≤ 1000000000000) {j : Nat} {ts : Tmps} {h : Log} (hI : AtL 29 (insA s) s (j + 1) ts h) :
    Takes Try.prog E ra base 0 (codeOf 12 (false :: pA)) ts h (Round (AtL 29 (insA s) s j) (EndL 29 (.exit 0) s)) := by
  have hS := S3_ok (ra := ra) (base := base) hE
  obtain ⟨a, L, hi, hc⟩ := hI
  have c0 : decide (s.size ≤ 1000000000000) = true := decide_eq_true hs
  have c1 : decide (-1000000000000 ≤ a) = true := decide_eq_true (by have := hi.a0; omega)
  have c2 : decide (a ≤ 1000000000000) = true := decide_eq_true (by have := hi.a1; omega)
  have c3 : decide ((L.length + 1) * 16 ≤ 35184372088832) = true := decide_eq_true (by have := hi.le; have := hi.a1; omega)
  have c4 : decide (0 + L.length ≤ L.length) = true := decide_eq_true (by omega)
  rcases hc with ⟨rfl, rfl, rfl⟩ | ⟨hL, rfl, rfl⟩
  · refine takes_of_tree hE (W_ok hS noL_ok) (f := 12) (.inr (by kernel_rfl)) (hp_below _) (al_n E s a) ?_
    simp only [Tree.holds, c0, c1, c2, decide_true, Bool.and_self, true_and, decide_eq_true_eq, decide_eq_false_iff_not]
    refine ⟨fun h0 => ?_, fun h0 => ⟨fun h9 => ?_, fun h9 => ?_⟩⟩
    · rw [txt_1 h0, nxt_1 h0, row_1]
      exact at_g (n := 29) (ins := insA s) (hi.next h0) (by simp)
    · have e := hi.end h0
      rw [err_9 h9] at e
      exact end_n e
    · have e := hi.end h0
      rw [err_x h9] at e
      exact end_n e
  · refine takes_of_tree hE (W_ok hS noL_ok) (f := 12) (.inr (by kernel_rfl)) (hp_below _) (al_g E s a L) ?_
    simp only [Tree.holds, c0, c1, c2, c3, c4, decide_true, Bool.and_self, true_and, decide_eq_true_eq, decide_eq_false_iff_not]
    refine ⟨fun h0 => ?_, fun h0 => ⟨fun h9 => ?_, fun h9 => ?_⟩⟩
    · rw [txt_1 h0, nxt_1 h0, row_g, len_g L (bodyS s a)]
      exact at_g (n := 29) (ins := insA s) (hi.next h0) (by simp)
    · have e := hi.end h0
      rw [err_9 h9] at e
      exact end_g e hL
    · have e := hi.end h0
      rw [err_x h9] at e
      exact end_g e hL

theorem ar_step (hE : Plain E) {s : ByteArray} (hs : s.size ≤ 1000000000000) {j : Nat} {ts : Tmps} {h : Log} (hI : AtL 31 (insR s) s (j + 1) ts h) :
    Takes Try.prog E ra base 0 (codeOf 17 (false :: pR)) ts h (Round (AtL 31 (insR s) s j) (EndL 31 .ret s)) := by
  have hS := S3_ok (ra := ra) (base := base) hE
  obtain ⟨a, L, hi, hc⟩ := hI
  have c0 : decide (s.size ≤ 1000000000000) = true := decide_eq_true hs
  have c1 : decide (-1000000000000 ≤ a) = true := decide_eq_true (by have := hi.a0; omega)
  have c2 : decide (a ≤ 1000000000000) = true := decide_eq_true (by have := hi.a1; omega)
  have c3 : decide ((L.length + 1) * 16 ≤ 35184372088832) = true := decide_eq_true (by have := hi.le; have := hi.a1; omega)
  have c4 : decide (0 + L.length ≤ L.length) = true := decide_eq_true (by omega)
  rcases hc with ⟨rfl, rfl, rfl⟩ | ⟨hL, rfl, rfl⟩
  · refine takes_of_tree hE (W_ok hS noL_ok) (f := 17) (.inr (by kernel_rfl)) (hp_below _) (ar_n E s a) ?_
    simp only [Tree.holds, c0, c1, c2, decide_true, Bool.and_self, true_and, decide_eq_true_eq, decide_eq_false_iff_not, Bool.not_eq_true', Bool.not_eq_false']
    refine ⟨fun h9 => ?_, fun h9 => ⟨fun h0 => ?_, fun h0 => ?_⟩⟩
    · have e := hi.end (by rw [h9]; decide)
      rw [err_9 h9] at e
      exact end_n e
    · have e := hi.end h0
      rw [err_x h9] at e
      exact end_n e
    · rw [txt_1 h0, nxt_1 h0, row_1]
      exact at_g (n := 31) (ins := insR s) (hi.next h0) (by simp)
  · refine takes_of_tree hE (W_ok hS noL_ok) (f := 17) (.inr (by kernel_rfl)) (hp_below _) (ar_g E s a L) ?_
    simp only [Tree.holds, c0, c1, c2, c3, c4, decide_true, Bool.and_self, true_and, decide_eq_true_eq, decide_eq_false_iff_not, Bool.not_eq_true', Bool.not_eq_false']
    refine ⟨fun h9 => ?_, fun h9 => ⟨fun h0 => ?_, fun h0 => ?_⟩⟩
    · have e := hi.end (by rw [h9]; decide)
      rw [err_9 h9] at e
      exact end_g e hL
    · have e := hi.end h0
      rw [err_x h9] at e
      exact end_g e hL
    · rw [txt_1 h0, nxt_1 h0, row_g, len_g L (bodyS s a)]
      exact at_g (n := 31) (ins := insR s) (hi.next h0) (by simp)

theorem none_nil {s : ByteArray} (h : noneA s = true) : (allT s).L = [] := List.isEmpty_iff.1 h
theorem none_pos {s : ByteArray} (h : noneA s = false) : 0 < (allT s).L.length := by
  unfold noneA at h
  cases hl : (allT s).L with
  | nil => rw [hl] at h; cases h
  | cons => simp
theorem al_takes (hE : Plain E) (s : ByteArray) (hs : alD.pre s = true) : Takes Try.prog E ra base 0 (.loop (codeOf 12 (false :: pA))) (mkT 29 (alD.ins s)) (hp 0 (alD.blks s)) fun y => PostL 29 s y alD.alts := by
  have hs : s.size ≤ 1000000000000 := of_decide_eq_true hs
  refine (takes_loop (AtL 29 (insA s) s) (fun ts h => ?_) (fun j ts h hI => al_step hE hs hI) (j := s.size + 1) (at_n (inv_0 s))).mono ?_
  · rintro ⟨a, L, hi, _⟩
    have := hi.lt; have := hi.a1; omega
  · rintro y (⟨hn, rfl⟩ | ⟨hn, rfl⟩)
    · exact .inl ⟨allT s, ⟨rfl, none_nil hn⟩, rfl⟩
    · exact .inr ⟨allT s, ⟨rfl, none_pos hn⟩, rfl⟩
theorem ar_takes (hE : Plain E) (s : ByteArray) (hs : arD.pre s = true) : Takes Try.prog E ra base 0 (.loop (codeOf 17 (false :: pR))) (mkT 31 (arD.ins s)) (hp 0 (arD.blks s)) fun y => PostL 31 s y arD.alts := by
  have hs : s.size ≤ 1000000000000 := of_decide_eq_true hs
  refine (takes_loop (AtL 31 (insR s) s) (fun ts h => ?_) (fun j ts h hI => ar_step hE hs hI) (j := s.size + 1) (at_n (inv_0 s))).mono ?_
  · rintro ⟨a, L, hi, _⟩
    have := hi.lt; have := hi.a1; omega
  · rintro y (⟨hn, rfl⟩ | ⟨hn, rfl⟩)
    · exact .inl ⟨allT s, ⟨rfl, none_nil hn⟩, rfl⟩
    · exact .inr ⟨allT s, ⟨rfl, none_pos hn⟩, rfl⟩
theorem TAl_ok (hE : Plain E) : ToldsOK Try.prog E ra base 0 TAl :=
  sumT_ok (sumT_ok noT_ok rfl (toldR_ok (c := .loop (codeOf 17 (false :: pR))) (by kernel_rfl) (ar_takes hE))) rfl (toldR_ok (c := .loop (codeOf 12 (false :: pA))) (by kernel_rfl) (al_takes hE))

theorem al_gives (hE : Plain E) : GivesD Try.prog E ra base 12 allN ∧ GivesD Try.prog E ra base 12 allG ∧ GivesD Try.prog E ra base 17 allN ∧ GivesD Try.prog E ra base 17 allG := by
  have hR := W_ok (E := E) (ra := ra) (base := base) sumNone_ok noL_ok
  refine ⟨fun s h => ?_, fun s h => ?_, fun s h => ?_, fun s h => ?_⟩
  · simp only [allN, Bool.and_eq_true] at h
    obtain ⟨h1, h2⟩ := h
    refine gives_of_treeQ hE hR (TAl_ok hE) (hp_below _) (al_call E s) ?_
    simp only [TreeQ.holds, h1, decide_true, Bool.and_self, true_and]
    refine ⟨fun y ⟨e1, e2⟩ => ?_, fun y ⟨e1, e2⟩ => ?_⟩
    · subst e1; exact ⟨_, rfl, rfl, rfl⟩
    · subst e1; rw [none_nil h2] at e2; cases e2
  · simp only [allG, Bool.and_eq_true, Bool.not_eq_true'] at h
    obtain ⟨h1, h2⟩ := h
    refine gives_of_treeQ hE hR (TAl_ok hE) (hp_below _) (al_call E s) ?_
    simp only [TreeQ.holds, h1, decide_true, Bool.and_self, true_and]
    refine ⟨fun y ⟨e1, e2⟩ => ?_, fun y ⟨e1, e2⟩ => ?_⟩
    · subst e1; have := none_pos h2; rw [e2] at this; cases this
    · subst e1; exact ⟨_, rfl, rfl, rfl⟩
  · simp only [allN, Bool.and_eq_true] at h
    obtain ⟨h1, h2⟩ := h
    refine gives_of_treeQ hE hR (TAl_ok hE) (hp_below _) (ar_call E s) ?_
    simp only [TreeQ.holds, h1, decide_true, Bool.and_self, true_and]
    refine ⟨fun y ⟨e1, e2⟩ => ?_, fun y ⟨e1, e2⟩ => ?_⟩
    · subst e1; exact ⟨_, rfl, rfl, rfl⟩
    · subst e1; rw [none_nil h2] at e2; cases e2
  · simp only [allG, Bool.and_eq_true, Bool.not_eq_true'] at h
    obtain ⟨h1, h2⟩ := h
    refine gives_of_treeQ hE hR (TAl_ok hE) (hp_below _) (ar_call E s) ?_
    simp only [TreeQ.holds, h1, decide_true, Bool.and_self, true_and]
    refine ⟨fun y ⟨e1, e2⟩ => ?_, fun y ⟨e1, e2⟩ => ?_⟩
    · subst e1; have := none_pos h2; rw [e2] at this; cases this
    · subst e1; exact ⟨_, rfl, rfl, rfl⟩

theorem S4_ok (hE : Plain E) : SumsOK Try.prog E ra base S4 := by
  obtain ⟨g1, g2, g3, g4⟩ := al_gives (E := E) (ra := ra) (base := base) hE
  refine sumNG_deal hE (sumNG_deal hE (S3_ok hE) ⟨_, Try.func12, by kernel_rfl⟩ (fun q hq => ?_) g2) ⟨_, Try.func17, by kernel_rfl⟩ (fun q hq => ?_) g4
  · simp only [List.mem_singleton] at hq; subst hq; exact g1
  · simp only [List.mem_singleton] at hq; subst hq; exact g3
end
end Go.Proofs.Ytbpcljkapkjheaa
