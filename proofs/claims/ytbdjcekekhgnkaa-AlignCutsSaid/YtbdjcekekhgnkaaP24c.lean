/- align: AlignPlays: the acts' loop: both stay alike. -/
import Derived.Test.YtbdjcekekhgnkaaP24b
import Derived.Test.YtbdjcekekhgnkaaT24b
set_option linter.unusedSimpArgs false
namespace Go.Proofs.Ytbdjcekekhgnkaa
open Ab

section
variable {E : Nat → Nat → Seg} {ra : Nat → Nat → Nat × Nat} {base : Nat}

theorem newOk_iff {t : Tri} : newOk t = true ↔ 1 ≤ t.n ∧ t.n ≤ 16 ∧ 0 ≤ t.m ∧ t.m ≤ 16 ∧ 0 ≤ t.l := by
  simp only [newOk, Bool.and_eq_true, decide_eq_true_eq]

theorem new_gives (hE : Plain E) (t : Tri) : (newOk t = true → Gives Try.prog E ra base 0 6 t.as (hp 0 []) fun v h' => v = .ptr (.own 0 0 0 0) ∧ h' = hp 0 [(newAl t).blk]) ∧
    ((!newOk t) = true → Gives Try.prog E ra base 0 6 t.as (hp 0 []) fun v h' => v = .nilp ∧ h' = hp 0 []) := by
  have hi := newOk_iff (t := t)
  constructor
  · intro h
    obtain ⟨h1, h2, h3, h4, h5⟩ := hi.1 h
    refine (gives_of_tree hE (W_ok sumNone_ok noL_ok) sumNone_ok (hp_below _) (new_call E t) ?_).2
    simp only [Tree.holds, decide_eq_true_eq, decide_eq_false_iff_not]
    exact ⟨fun k => absurd k (by omega), fun _ => ⟨fun k => absurd k (by omega), fun _ => ⟨fun k => absurd k (by omega), fun _ => ⟨fun k => absurd k (by omega), fun _ => ⟨fun k => absurd k (by omega), fun _ => ⟨_, rfl, rfl, rfl⟩⟩⟩⟩⟩⟩
  · intro h
    have h' : ¬ (1 ≤ t.n ∧ t.n ≤ 16 ∧ 0 ≤ t.m ∧ t.m ≤ 16 ∧ 0 ≤ t.l) := fun hh => by rw [hi.2 hh] at h; cases h
    refine (gives_of_tree hE (W_ok sumNone_ok noL_ok) sumNone_ok (hp_below _) (new_call E t) ?_).2
    simp only [Tree.holds, decide_eq_true_eq, decide_eq_false_iff_not]
    exact ⟨fun _ => ⟨_, rfl, rfl, rfl⟩, fun a => ⟨fun _ => ⟨_, rfl, rfl, rfl⟩, fun b => ⟨fun _ => ⟨_, rfl, rfl, rfl⟩, fun c => ⟨fun _ => ⟨_, rfl, rfl, rfl⟩, fun d => ⟨fun _ => ⟨_, rfl, rfl, rfl⟩, fun e => absurd (by omega) h'⟩⟩⟩⟩⟩

theorem rnew_gives (hE : Plain E) (t : Tri) : (newOk t = true → Gives Try.prog E ra base 0 7 t.as (hp 0 []) fun v h' => v = .ptr (.own 2 0 0 0) ∧ h' = hp 0 (rnew1.blks' t)) ∧
    ((!newOk t) = true → Gives Try.prog E ra base 0 7 t.as (hp 0 []) fun v h' => v = .nilp ∧ h' = hp 0 []) := by
  have hi := newOk_iff (t := t)
  constructor
  · intro h
    obtain ⟨h1, h2, h3, h4, h5⟩ := hi.1 h
    refine (gives_of_tree hE (W_ok sumNone_ok noL_ok) sumNone_ok (hp_below _) (rnew_call E t) ?_).2
    simp only [Tree.holds, decide_eq_true_eq, decide_eq_false_iff_not, Bool.and_eq_true]
    refine ⟨fun k => absurd k (by omega), fun _ => ⟨fun k => absurd k (by omega), fun _ => ⟨fun k => absurd k (by omega), fun _ => ⟨fun k => absurd k (by omega), fun _ => ⟨fun k => absurd k (by omega), fun _ => ⟨⟨⟨by omega, by omega⟩, by omega⟩, ⟨⟨by omega, by omega⟩, by omega⟩, _, rfl, rfl, ?_⟩⟩⟩⟩⟩⟩
    simp only [rnew1, newRf, Rf.b0, bl, List.length_replicate]; rfl
  · intro h
    have h' : ¬ (1 ≤ t.n ∧ t.n ≤ 16 ∧ 0 ≤ t.m ∧ t.m ≤ 16 ∧ 0 ≤ t.l) := fun hh => by rw [hi.2 hh] at h; cases h
    refine (gives_of_tree hE (W_ok sumNone_ok noL_ok) sumNone_ok (hp_below _) (rnew_call E t) ?_).2
    simp only [Tree.holds, decide_eq_true_eq, decide_eq_false_iff_not, Bool.and_eq_true]
    exact ⟨fun _ => ⟨_, rfl, rfl, rfl⟩, fun a => ⟨fun _ => ⟨_, rfl, rfl, rfl⟩, fun b => ⟨fun _ => ⟨_, rfl, rfl, rfl⟩, fun c => ⟨fun _ => ⟨_, rfl, rfl, rfl⟩, fun d => ⟨fun _ => ⟨_, rfl, rfl, rfl⟩, fun e => absurd (by omega) h'⟩⟩⟩⟩⟩

theorem S5_ok (hE : Plain E) : SumsOK Try.prog E ra base S5 :=
  sum2_deal hE (sum2_deal hE (S4_ok hE) ⟨_, Try.func6, by kernel_rfl⟩ (fun t h => (new_gives hE t).1 h) (fun t h => (new_gives hE t).2 h)) ⟨_, Try.func7, by kernel_rfl⟩ (fun t h => (rnew_gives hE t).1 h) (fun t h => (rnew_gives hE t).2 h)

theorem relB_of {x : Al} {r : Rf} (h1 : okAl x = true) (h2 : okRf r = true) (h3 : x.n = r.p.length) (h4 : x.m = r.q.length) (h5 : x.p = r.p) (h6 : x.q = r.q) (h7 : x.l = r.l) : relB x r = true := by
  simp only [relB, Bool.and_eq_true, decide_eq_true_eq]
  exact ⟨h1, h2, h3, h4, h5, h6, h7⟩

theorem okRf_of {r : Rf} (h1 : r.p.length ≤ 16) (h2 : r.q.length ≤ 16) (h3 : in64 r.l) : okRf r = true := by
  simp only [okRf, ok64, Bool.and_eq_true, decide_eq_true_eq]
  exact ⟨h1, h2, h3⟩
theorem okAl_of {x : Al} (h1 : x.c.length = 16) (h2 : x.d.length = 16) (h3 : 0 ≤ x.n) (h4 : x.n ≤ 16) (h5 : 0 ≤ x.m) (h6 : x.m ≤ 16) : okAl x = true := by
  simp only [okAl, Bool.and_eq_true, decide_eq_true_eq]
  exact ⟨h1, h2, h3, h4, h5, h6⟩

theorem new_rel {t : Tri} (h : newOk t = true) (hl : in64 t.l) : relB (newAl t) (newRf t) = true := by
  obtain ⟨h1, h2, h3, h4, h5⟩ := newOk_iff.1 h
  have e : ∀ k : Int, 0 ≤ k → k ≤ 16 → (List.replicate 16 false).take k.toNat = List.replicate k.toNat false := fun k a b => by rw [List.take_replicate]; congr 1; omega
  refine relB_of (okAl_of rfl rfl (by show 0 ≤ t.n; omega) h2 h3 h4) (okRf_of ?_ ?_ hl) ?_ ?_ (e t.n (by omega) h2) (e t.m h3 h4) rfl
  · simp only [newRf, List.length_replicate]; omega
  · simp only [newRf, List.length_replicate]; omega
  · simp only [newAl, newRf, List.length_replicate]; omega
  · simp only [newAl, newRf, List.length_replicate]; omega

theorem set_take (c : List Bool) (n i : Nat) (b : Bool) : (c.set i b).take n = (c.take n).set i b := by
  apply List.ext_getElem?
  intro j
  simp only [List.getElem?_take, List.getElem?_set, List.length_take]
  by_cases h1 : j < n
  · by_cases h2 : i = j
    · subst h2
      by_cases h3 : i < c.length
      · simp [h1, h3]; omega
      · simp [h1, h3]; omega
    · simp [h1, h2]
  · by_cases h2 : i = j
    · subst h2; simp [h1]; omega
    · simp [h1, h2]

theorem putB_take (c : List Bool) (n : Nat) (e i : Int) : (putB c e i).take n = putB (c.take n) e i := by
  unfold putB
  split
  · exact set_take _ _ _ _
  · rfl

theorem come_rel {x : Al} {r : Rf} (h : relB x r = true) (i k : Int) : comeE x.p x.l i k = comeE r.p r.l i k ∧ relB (x.come i k) (r.come i k) = true := by
  obtain ⟨h1, h2, h3, h4, h5, h6, h7⟩ := relB_facts h
  obtain ⟨a1, a2, a3, a4, a5, a6⟩ := okAl_facts h1
  obtain ⟨b1, b2, b3⟩ := okRf_facts h2
  have he : comeE x.p x.l i k = comeE r.p r.l i k := by rw [h5, h7]
  refine ⟨he, relB_of (okAl_of (by rw [Al.come, putB_len]; exact a1) a2 a3 a4 a5 a6) (okRf_of (by rw [Rf.come, putB_len]; exact b1) b2 b3) (by rw [Rf.come, putB_len]; exact h3) h4 ?_ h6 h7⟩
  show (putB x.c _ i).take x.n.toNat = putB r.p _ i
  rw [putB_take, he]
  show putB x.p _ i = _
  rw [h5]

theorem beside_rel {x : Al} {r : Rf} (h : relB x r = true) (i k : Int) : comeE x.q x.l i k = comeE r.q r.l i k ∧ relB (x.beside i k) (r.beside i k) = true := by
  obtain ⟨h1, h2, h3, h4, h5, h6, h7⟩ := relB_facts h
  obtain ⟨a1, a2, a3, a4, a5, a6⟩ := okAl_facts h1
  obtain ⟨b1, b2, b3⟩ := okRf_facts h2
  have he : comeE x.q x.l i k = comeE r.q r.l i k := by rw [h6, h7]
  refine ⟨he, relB_of (okAl_of a1 (by rw [Al.beside, putB_len]; exact a2) a3 a4 a5 a6) (okRf_of b1 (by rw [Rf.beside, putB_len]; exact b2) b3) h3 (by rw [Rf.beside, putB_len]; exact h4) h5 ?_ h7⟩
  show (putB x.d _ i).take x.m.toNat = putB r.q _ i
  rw [putB_take, he]
  show putB x.q _ i = _
  rw [h6]

theorem wr_in64 (v : Int) : in64 (wr .i64 v) := by
  show -9223372036854775808 ≤ (v + 9223372036854775808) % 18446744073709551616 - 9223372036854775808 ∧ (v + 9223372036854775808) % 18446744073709551616 - 9223372036854775808 < 9223372036854775808
  omega

theorem done_rel {x : Al} {r : Rf} (h : relB x r = true) : (isDone r = true → phaseL x.p x.q = 3 ∧ relB x.done r.done = true) ∧ (isDone r = false → phaseL x.p x.q ≠ 3 ∧ x.done = x) := by
  obtain ⟨h1, h2, h3, h4, h5, h6, h7⟩ := relB_facts h
  obtain ⟨a1, a2, a3, a4, a5, a6⟩ := okAl_facts h1
  obtain ⟨b1, b2, b3⟩ := okRf_facts h2
  constructor
  · intro hd
    simp only [isDone, decide_eq_true_eq] at hd
    have hx : phaseL x.p x.q = 3 := by rw [h5, h6]; exact hd
    refine ⟨hx, ?_⟩
    rw [Al.done, if_pos hx]
    have e : ∀ k : Int, 0 ≤ k → k ≤ 16 → (List.replicate 16 false).take k.toNat = List.replicate k.toNat false := fun k a b => by rw [List.take_replicate]; congr 1; omega
    refine relB_of (okAl_of rfl rfl a3 a4 a5 a6) (okRf_of (by rw [Rf.done, List.length_replicate]; exact b1) (by rw [Rf.done, List.length_replicate]; exact b2) (wr_in64 _)) (by rw [Rf.done, List.length_replicate]; exact h3) (by rw [Rf.done, List.length_replicate]; exact h4) ?_ ?_ (by rw [Rf.done, h7])
    · show (List.replicate 16 false).take x.n.toNat = List.replicate r.p.length false
      rw [e _ a3 a4, h3, Int.toNat_natCast]
    · show (List.replicate 16 false).take x.m.toNat = List.replicate r.q.length false
      rw [e _ a5 a6, h4, Int.toNat_natCast]
  · intro hd
    simp only [isDone, decide_eq_false_iff_not] at hd
    have hx : phaseL x.p x.q ≠ 3 := by rw [h5, h6]; exact hd
    exact ⟨hx, by rw [Al.done, if_neg hx]⟩

theorem tabA_plain (a b c d : List Int) : Plain (tabA a b c d) := by
  intro tid par j v hv
  obtain ⟨_, s, hs, rfl⟩ := cellOf_seg hv
  simp only [tabA] at hs
  have : j % 4 = 0 ∨ j % 4 = 1 ∨ j % 4 = 2 ∨ j % 4 = 3 := by omega
  rcases this with e | e | e | e <;> rw [e] at hs <;> simp at hs <;> subst hs <;> rfl

variable {a b c d : List Int}

theorem okV_cases {V : AVal} (h : okV a V = true) : V = .nils ∨ V = .slice (.ro 0 0 0 0) a.length none := by
  unfold okV at h
  split at h
  · exact .inl rfl
  · rename_i n
    simp only [decide_eq_true_eq] at h
    subst h; exact .inr rfl
  · cases h

theorem ok64_iff {v : Int} : ok64 v = true ↔ in64 v := by simp only [ok64, in64, Bool.and_eq_true, decide_eq_true_eq]

theorem midA_takes (y : Mid) (hy : okA a y = true) : Takes Try.prog (tabA a b c d) ra base 0 (codeOf 3 pA) (mkT 135 y.ins) (hp 0 y.bs) fun z => PostL 135 y z (midA a).alts := by
  have hE := tabA_plain a b c d
  obtain ⟨V, z, j, i, x, r, u, w, k⟩ := y
  simp only [okA, Bool.and_eq_true] at hy
  obtain ⟨hV, hr, hk, hu⟩ := hy
  have hS := S5_ok (ra := ra) (base := base) hE
  have e0 : ∀ k : Int, ok64 (wr .i64 k) = true := fun k => ok64_iff.2 (wr_in64 k)
  rcases okV_cases hV with rfl | rfl
  · refine takes_of_tree hE (wE hE hS) (f := 3) (.inr (by kernel_rfl)) (hp_below _) (midA0_t z j i x r u w k a b c d) ?_
    exact ⟨fun _ => ⟨u.k, hu, rfl⟩, fun _ => ⟨fun _ => ⟨_, e0 _, rfl⟩, fun _ => ⟨k, hk, rfl⟩⟩⟩
  · refine takes_of_tree hE (wE hE hS) (f := 3) (.inr (by kernel_rfl)) (hp_below _) (midA_t a.length z j i x r u w k a b c d) ?_
    exact ⟨fun _ => ⟨u.k, hu, rfl⟩, fun _ => ⟨fun _ => ⟨_, e0 _, rfl⟩, fun _ => ⟨k, hk, rfl⟩⟩⟩

theorem midB_takes (y : Mid) (hy : okA a y = true) : Takes Try.prog (tabA a b c d) ra base 0 (codeOf 3 pB) (mkT 135 y.ins) (hp 0 y.bs) fun z => PostL 135 y z (midB a).alts := by
  have hE := tabA_plain a b c d
  obtain ⟨V, z, j, i, x, r, u, w, k⟩ := y
  simp only [okA, Bool.and_eq_true] at hy
  obtain ⟨hV, hr, hk, hu⟩ := hy
  have hS := S5_ok (ra := ra) (base := base) hE
  obtain ⟨h1, h2, h3, h4, h5, h6, h7⟩ := relB_facts hr
  obtain ⟨a1, a2, a3, a4, a5, a6⟩ := okAl_facts h1
  obtain ⟨c1, c2⟩ := come_rel hr w k
  obtain ⟨d1, d2⟩ := beside_rel hr w k
  obtain ⟨e1, e2⟩ := done_rel hr
  rcases okV_cases hV with rfl | rfl
  · refine takes_of_tree hE (wE hE hS) (f := 3) (.inr (by kernel_rfl)) (hp_below _) (midB0_t z j i x r u w k a b c d) ?_
    simp only [Tree.holds, decide_true, Bool.and_self, Bool.and_true, Bool.true_and, true_and, h1, h2, hk, a1, a2, a3, a4, a5, a6, decide_eq_true_eq, Bool.not_eq_true']
    refine ⟨fun q => ⟨q, ⟨⟨x.come w k, r.come w k, comeE r.p r.l w k⟩, c2, by rw [Al.come, c1]; rfl⟩⟩, fun _ => ⟨fun q => ⟨q, ⟨⟨x.come w k, r.come w k, comeE r.p r.l w k⟩, c2, by rw [Al.come, c1]; rfl⟩⟩, fun _ => ⟨fun q => ⟨⟨x.come w k, r.come w k, comeE r.p r.l w k⟩, c2, by rw [Al.come, c1]; rfl⟩, fun _ => ⟨fun q => ⟨q, ⟨⟨x.beside w k, r.beside w k, comeE r.q r.l w k⟩, d2, by rw [Al.beside, d1]; rfl⟩⟩, fun _ =>
      ⟨fun q => ⟨⟨x.beside w k, r.beside w k, comeE r.q r.l w k⟩, d2, by rw [Al.beside, d1]; rfl⟩, fun _ => ⟨fun q => ⟨q, ⟨⟨x.done, r.done, 0⟩, (e1 q).2, ?_⟩⟩, fun q => ⟨q, ⟨⟨x.done, r, 7⟩, ?_, ?_⟩⟩⟩⟩⟩⟩⟩⟩
    · rw [if_pos (e1 q).1]; rfl
    · rw [(e2 q).2]; exact hr
    · rw [if_neg (e2 q).1]; rfl
  · refine takes_of_tree hE (wE hE hS) (f := 3) (.inr (by kernel_rfl)) (hp_below _) (midB_t a.length z j i x r u w k a b c d) ?_
    simp only [Tree.holds, decide_true, Bool.and_self, Bool.and_true, Bool.true_and, true_and, h1, h2, hk, a1, a2, a3, a4, a5, a6, decide_eq_true_eq, Bool.not_eq_true']
    refine ⟨fun q => ⟨q, ⟨⟨x.come w k, r.come w k, comeE r.p r.l w k⟩, c2, by rw [Al.come, c1]; rfl⟩⟩, fun _ => ⟨fun q => ⟨q, ⟨⟨x.come w k, r.come w k, comeE r.p r.l w k⟩, c2, by rw [Al.come, c1]; rfl⟩⟩, fun _ => ⟨fun q => ⟨⟨x.come w k, r.come w k, comeE r.p r.l w k⟩, c2, by rw [Al.come, c1]; rfl⟩, fun _ => ⟨fun q => ⟨q, ⟨⟨x.beside w k, r.beside w k, comeE r.q r.l w k⟩, d2, by rw [Al.beside, d1]; rfl⟩⟩, fun _ =>
      ⟨fun q => ⟨⟨x.beside w k, r.beside w k, comeE r.q r.l w k⟩, d2, by rw [Al.beside, d1]; rfl⟩, fun _ => ⟨fun q => ⟨q, ⟨⟨x.done, r.done, 0⟩, (e1 q).2, ?_⟩⟩, fun q => ⟨q, ⟨⟨x.done, r, 7⟩, ?_, ?_⟩⟩⟩⟩⟩⟩⟩⟩
    · rw [if_pos (e1 q).1]; rfl
    · rw [(e2 q).2]; exact hr
    · rw [if_neg (e2 q).1]; rfl
end

end Go.Proofs.Ytbdjcekekhgnkaa
