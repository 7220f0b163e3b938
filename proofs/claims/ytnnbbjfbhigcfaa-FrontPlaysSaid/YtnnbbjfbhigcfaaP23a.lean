/- front: the program's functions keep their contracts. -/
import Derived.Test.YtnnbbjfbhigcfaaT23a
set_option linter.unusedSimpArgs false
namespace Go.Proofs.Ytnnbbjfbhigcfaa
open Ab

section
variable {T : Tb} {ra : Nat → Nat → Nat × Nat} {base : Nat}

theorem tabF_plain (T : Tb) : Plain (tabF T) := by
  intro tid par j v hv
  obtain ⟨_, s, hs, rfl⟩ := cellOf_seg hv
  cases tid with
  | zero =>
    simp only [tabF] at hs
    have : j % 4 = 0 ∨ j % 4 = 1 ∨ j % 4 = 2 ∨ j % 4 = 3 := by omega
    rcases this with e | e | e | e <;> rw [e] at hs <;> simp at hs <;> subst hs
    · rfl
    · rfl
    · rfl
    · simp only [colAt]
      split
      · rw [usesV]
      · rw [usesV]; rfl
  | succ n =>
    simp only [tabF] at hs
    have e : j % 1 = 0 := Nat.mod_one j
    simp only [e, List.getElem?_cons_zero, Option.some.injEq] at hs
    subst hs; rfl

theorem wS {S : Sums} (hS : SumsOK Try.prog (tabF T) ra base S) : ExecOK Try.prog (tabF T) ra base (W (tabF T) S noL) := W_ok hS noL_ok

def cellsLe (T : Tb) : Le → List Int
  | .own _ x => x.c
  | .sl _ .nil => []
  | .sl _ (.ro p _) => T.hs p

theorem okFr_facts {x : Fr} (h : okFr x = true) : x.c.length = 16 ∧ 1 ≤ x.n ∧ x.n ≤ 16 := by
  simp only [okFr, Bool.and_eq_true, decide_eq_true_eq] at h
  exact ⟨h.1, h.2.1, h.2.2⟩

theorem le_facts {y : Le} (h : leP T y = true) : leN y ≤ 16 ∧ leN y ≤ (cellsLe T y).length ∧ leL T y = (cellsLe T y).take (leN y) := by
  cases y with
  | own v x =>
    obtain ⟨h1, h2, h3⟩ := okFr_facts h
    exact ⟨by simp only [leN]; omega, by simp only [leN, cellsLe]; omega, rfl⟩
  | sl v s =>
    cases s with
    | nil => exact ⟨Nat.zero_le _, Nat.zero_le _, rfl⟩
    | ro p m =>
      simp only [leP, okS, Bool.and_eq_true, decide_eq_true_eq] at h
      exact ⟨by simp only [leN]; omega, by simp only [leN, cellsLe]; omega, rfl⟩

def leAt (y : Le) (v i : Int) : List (Nat × AVal) := [(0, .int .i64 v), (7, leS y), (8, .int .i64 (leN y)), (9, .int .i64 i)]

theorem least_round {y : Le} (h : leP T y = true) (v : Int) {i : Nat} (hi : i ≤ leN y) : Takes Try.prog (tabF T) ra base (leB y).length (codeOf 19 [false, false, true, false, true]) (mkT 19 (leAt y v i)) (hp 0 (leB y)) fun z =>
    (i < leN y ∧ z = (.normal, mkT 19 (leAt y (if (cellsLe T y).getD i 0 < v then (cellsLe T y).getD i 0 else v) ((i + 1 : Nat) : Int)), hp 0 (leB y))) ∨ (i = leN y ∧ z = (.exit 0, mkT 19 [(0, .int .i64 v)], hp 0 (leB y))) := by
  obtain ⟨g1, g2, _⟩ := le_facts h
  have hE := tabF_plain T
  have hw : wr .i64 ((i : Int) + 1) = ((i + 1 : Nat) : Int) := by rw [wr_in ⟨by omega, by omega⟩]; omega
  cases y with
  | own u x =>
    obtain ⟨h1, h2, h3⟩ := okFr_facts h
    simp only [leN] at hi g1
    refine takes_of_tree hE (W_ok sumNone_ok noL_ok) (f := 19) (.inr (by kernel_rfl)) (hp_below _) (least_own_round T v (x.n.toNat : Int) i x) ?_
    simp only [Tree.holds, decide_eq_true_eq, decide_eq_false_iff_not, Bool.and_eq_true, toNat_nat, hw, leN]
    refine ⟨fun k1 => ⟨by omega, by omega, fun k2 => .inl ⟨by omega, ?_⟩, fun k2 => .inl ⟨by omega, ?_⟩⟩, fun k1 => .inr ⟨by omega, rfl⟩⟩
    · rw [if_pos (show (cellsLe T (.own u x)).getD i 0 < v from k2)]; rfl
    · rw [if_neg (show ¬ (cellsLe T (.own u x)).getD i 0 < v from k2)]; rfl
  | sl u s =>
    cases s with
    | nil =>
      simp only [leN] at hi
      have : i = 0 := by omega
      subst this
      exact takes_of_tree hE (W_ok sumNone_ok noL_ok) (f := 19) (.inr (by kernel_rfl)) (hp_below _) (least_nil_round T v) (.inr ⟨rfl, rfl⟩)
    | ro p m =>
      simp only [leP, okS, Bool.and_eq_true, decide_eq_true_eq] at h
      simp only [leN] at hi g1
      refine takes_of_tree hE (W_ok sumNone_ok noL_ok) (f := 19) (.inr (by kernel_rfl)) (hp_below _) (least_ro_round T v (m : Int) i p m) ?_
      simp only [Tree.holds, decide_eq_true_eq, decide_eq_false_iff_not, Bool.and_eq_true, toNat_nat, hw, leN]
      refine ⟨fun k1 => ⟨by omega, by omega, fun k2 => .inl ⟨by omega, ?_⟩, fun k2 => .inl ⟨by omega, ?_⟩⟩, fun k1 => .inr ⟨by omega, rfl⟩⟩
      · rw [if_pos (show (cellsLe T (.sl u (.ro p m))).getD i 0 < v from k2)]; rfl
      · rw [if_neg (show ¬ (cellsLe T (.sl u (.ro p m))).getD i 0 < v from k2)]; rfl

theorem leastL_snoc (v : Int) (c : List Int) {i : Nat} (h : i < c.length) : leastL v (c.take (i + 1)) = if c.getD i 0 < leastL v (c.take i) then c.getD i 0 else leastL v (c.take i) := by
  rw [leastL, List.take_add_one, List.getElem?_eq_getElem h, List.foldl_append, getD_at h]; rfl

theorem L19_ok : LoopsOK Try.prog (tabF T) ra base (L19 T) := by
  have hE := tabF_plain T
  refine sumLG_deal hE noL_ok rfl (c := codeOf 19 [false, false, true, false, true]) (by kernel_rfl) (fun _ => rfl) fun y hy => ?_
  have hP : leP T y = true := hy
  obtain ⟨g1, g2, g3⟩ := le_facts hP
  refine takes_loop (fun j ts h => ∃ i : Nat, i ≤ leN y ∧ j = leN y - i + 1 ∧ ts = mkT 19 (leAt y (leastL (leV y) ((cellsLe T y).take i)) i) ∧ h = hp 0 (leB y)) (fun ts h => by rintro ⟨i, _, h, _⟩; omega) (fun j ts h' => ?_) (j := leN y + 1) ⟨0, Nat.zero_le _, rfl, rfl, rfl⟩
  rintro ⟨i, h1, h2, rfl, rfl⟩
  refine (least_round hP _ h1).mono ?_
  rintro z (⟨k1, rfl⟩ | ⟨k1, rfl⟩)
  · exact ⟨i + 1, k1, by omega, by rw [leastL_snoc _ _ (by omega)], rfl⟩
  · show _ = _
    rw [k1, ← g3]; rfl

theorem S1_ok : SumsOK Try.prog (tabF T) ra base (S1 T) := by
  have hE := tabF_plain T
  refine sumG_deal hE sumNone_ok ⟨_, Try.func19, by kernel_rfl⟩ fun y hy => ?_
  have hP : leP T y = true := hy
  cases y with
  | own v x =>
    refine (gives_of_tree hE (W_ok sumNone_ok L19_ok) sumNone_ok (hp_below _) (least_own T v x) ?_).2
    simp only [Tree.holds, decide_true, Bool.and_self, Bool.and_true, Bool.true_and, true_and, leV, leN, hP]
    exact ⟨_, rfl, rfl, rfl⟩
  | sl v s =>
    cases s with
    | nil =>
      refine (gives_of_tree hE (W_ok sumNone_ok L19_ok) sumNone_ok (hp_below _) (least_nil T v) ?_).2
      simp only [Tree.holds, decide_true, Bool.and_self, Bool.and_true, Bool.true_and, true_and, leV, leN, hP]
      exact ⟨_, rfl, rfl, rfl⟩
    | ro p m =>
      refine (gives_of_tree hE (W_ok sumNone_ok L19_ok) sumNone_ok (hp_below _) (least_ro T v p m) ?_).2
      simp only [Tree.holds, decide_true, Bool.and_self, Bool.and_true, Bool.true_and, true_and, leV, leN, hP]
      exact ⟨_, rfl, rfl, rfl⟩

theorem min_gives (x : Fr) (h : okFr x = true) : Gives Try.prog (tabF T) ra base 1 10 [.ptr (.own 0 0 0 0)] (hp 0 [x.blk]) fun v h' => v = .int .i64 (minF x) ∧ h' = hp 0 [x.blk] := by
  have hE := tabF_plain T
  obtain ⟨h1, h2, h3⟩ := okFr_facts h
  refine (gives_of_tree hE (wS S1_ok) S1_ok (hp_below _) (min_call T x) ?_).2
  simp only [Tree.holds, decide_true, Bool.and_self, Bool.and_true, Bool.true_and, true_and, leV, leP, h, Bool.and_eq_true, decide_eq_true_eq]
  exact ⟨by omega, by omega, _, rfl, rfl, rfl⟩

theorem l_len {x : Fr} (h : okFr x = true) : (x.l.length : Int) = x.n := by
  obtain ⟨h1, h2, h3⟩ := okFr_facts h
  rw [Fr.l, List.length_take]; omega

theorem getD_takeI {c : List Int} {n i : Nat} (h : i < n) : (c.take n).getD i 0 = c.getD i 0 := by
  simp [List.getD_eq_getElem?_getD, List.getElem?_take, h]

theorem of_gives (x : Fr) (i : Int) (h : okFr x = true) : Gives Try.prog (tabF T) ra base 1 13 [.ptr (.own 0 0 0 0), .int .i64 i] (hp 0 [x.blk]) fun v h' => v = .int .i64 (ofL x.l i) ∧ h' = hp 0 [x.blk] := by
  have hE := tabF_plain T
  obtain ⟨h1, h2, h3⟩ := okFr_facts h
  have hl := l_len h
  refine (gives_of_tree hE (W_ok sumNone_ok noL_ok) sumNone_ok (hp_below _) (of_call T x i) ?_).2
  simp only [Tree.holds, decide_eq_true_eq, decide_eq_false_iff_not, Bool.and_eq_true]
  refine ⟨fun a => ⟨_, rfl, ?_, rfl⟩, fun a => ⟨fun b => ⟨_, rfl, ?_, rfl⟩, fun b => ⟨⟨by omega, by omega⟩, by omega, _, rfl, ?_, rfl⟩⟩⟩
  · rw [ofL, if_pos (.inl a)]
  · rw [ofL, if_pos (.inr (by omega))]
  · rw [ofL, if_neg (by omega), Fr.l, getD_takeI (by omega)]

theorem mark_gives (x : Fr) (i a : Int) (h : okFr x = true) : Gives Try.prog (tabF T) ra base 1 9 [.ptr (.own 0 0 0 0), .int .i64 i, .int .i64 a] (hp 0 [x.blk]) fun v h' => v = .int .i64 (markE x.l i a) ∧ h' = hp 0 [(x.mark i a).blk] := by
  have hE := tabF_plain T
  obtain ⟨h1, h2, h3⟩ := okFr_facts h
  have hl := l_len h
  refine (gives_of_tree hE (W_ok sumNone_ok noL_ok) sumNone_ok (hp_below _) (mark_call T x i a) ?_).2
  have key : ∀ e : Int, markE x.l i a = e → e ≠ 0 → x.mark i a = x := fun e he hn => by rw [Fr.mark, he, putI, if_neg hn]
  have hg : 0 ≤ i → i < x.n → x.l.getD i.toNat 0 = x.c.getD i.toNat 0 := fun p q => by rw [Fr.l, getD_takeI (by omega)]
  simp only [Tree.holds, decide_eq_true_eq, decide_eq_false_iff_not, Bool.and_eq_true]
  refine ⟨fun k1 => ?_, fun k1 => ⟨fun k2 => ?_, fun k2 => ⟨⟨by omega, by omega⟩, by omega, fun k3 => ?_, fun k3 => ⟨fun k4 => ?_, fun k4 => ⟨⟨by omega, by omega⟩, by omega, ?_⟩⟩⟩⟩⟩
  · have he : markE x.l i a = 2 := by rw [markE, if_pos (.inl k1)]
    exact ⟨_, rfl, by rw [he], by rw [key 2 he (by decide)]; rfl⟩
  · have he : markE x.l i a = 2 := by rw [markE, if_pos (.inr (by omega))]
    exact ⟨_, rfl, by rw [he], by rw [key 2 he (by decide)]; rfl⟩
  · have he : markE x.l i a = 12 := by rw [markE, if_neg (by omega), hg (by omega) (by omega), if_pos (.inl k3)]
    exact ⟨_, rfl, by rw [he], by rw [key 12 he (by decide)]; rfl⟩
  · have he : markE x.l i a = 12 := by rw [markE, if_neg (by omega), if_pos (.inr k4)]
    exact ⟨_, rfl, by rw [he], by rw [key 12 he (by decide)]; rfl⟩
  · have he : markE x.l i a = 0 := by rw [markE, if_neg (by omega), hg (by omega) (by omega), if_neg (by omega)]
    refine ⟨_, rfl, by rw [he], ?_⟩
    have : x.mark i a = { x with c := x.c.set i.toNat a } := by rw [Fr.mark, he, putI, if_pos rfl]
    rw [this]; rfl

theorem newOk_iff {n : Int} : newOk n = true ↔ 1 ≤ n ∧ n ≤ 16 := by
  simp only [newOk, Bool.and_eq_true, decide_eq_true_eq]

theorem S2_ok : SumsOK Try.prog (tabF T) ra base (S2 T) := by
  have hE := tabF_plain T
  refine sum2_deal hE (sumG_deal hE (sumG_deal hE (sumG_deal hE (sumG_deal hE S1_ok ⟨_, Try.func10, by kernel_rfl⟩ fun x hx => min_gives x hx) ⟨_, Try.func12, by kernel_rfl⟩ fun x hx => ?_) ⟨_, Try.func13, by kernel_rfl⟩ fun y hy => of_gives y.x y.i hy) ⟨_, Try.func9, by kernel_rfl⟩ fun y hy => mark_gives y.x y.i y.a hy) ⟨_, Try.func8, by kernel_rfl⟩ (fun n hn => ?_) (fun n hn => ?_)
  · exact (gives_of_tree hE (W_ok sumNone_ok noL_ok) sumNone_ok (hp_below _) (told_call T x) ⟨_, rfl, rfl, rfl⟩).2
  · obtain ⟨h1, h2⟩ := newOk_iff.1 hn
    refine (gives_of_tree hE (W_ok sumNone_ok noL_ok) sumNone_ok (hp_below _) (new_call T n) ?_).2
    simp only [Tree.holds, decide_eq_true_eq, decide_eq_false_iff_not]
    exact ⟨fun k => absurd k (by omega), fun _ => ⟨fun k => absurd k (by omega), fun _ => ⟨_, rfl, rfl, rfl⟩⟩⟩
  · have h' : ¬ (1 ≤ n ∧ n ≤ 16) := fun hh => by
      have := newOk_iff.2 hh
      simp only [new2, this] at hn; cases hn
    refine (gives_of_tree hE (W_ok sumNone_ok noL_ok) sumNone_ok (hp_below _) (new_call T n) ?_).2
    simp only [Tree.holds, decide_eq_true_eq, decide_eq_false_iff_not]
    exact ⟨fun _ => ⟨_, rfl, rfl, rfl⟩, fun a => ⟨fun _ => ⟨_, rfl, rfl, rfl⟩, fun b => absurd (by omega) h'⟩⟩

theorem tell_gives (x : Fr) (s : Sl) (h : okFr x = true) (hs : okS T s = true) : Gives Try.prog (tabF T) ra base 1 11 [.ptr (.own 0 0 0 0), s.v] (hp 0 [x.blk]) fun v h' => v = .tup [.int .i64 (tellV T x s), .bool (tellB T x s)] ∧ h' = hp 0 [(x.tell T s).blk] := by
  have hE := tabF_plain T
  obtain ⟨h1, h2, h3⟩ := okFr_facts h
  have yes : x.t < tellA T x s → tellV T x s = tellA T x s ∧ tellB T x s = true ∧ x.tell T s = ⟨x.c, x.n, tellA T x s⟩ := fun k => by
    have : tellV T x s = tellA T x s := by rw [tellV, if_pos k]
    exact ⟨this, by rw [tellB, decide_eq_true_eq]; exact k, by rw [Fr.tell, this]⟩
  have no : ¬ x.t < tellA T x s → tellV T x s = x.t ∧ tellB T x s = false ∧ x.tell T s = x := fun k => by
    have : tellV T x s = x.t := by rw [tellV, if_neg k]
    exact ⟨this, by rw [tellB, decide_eq_false_iff_not]; exact k, by rw [Fr.tell, this]⟩
  cases s with
  | nil =>
    refine (gives_of_tree hE (wS S2_ok) S2_ok (hp_below _) (tell_nil T x) ?_).2
    simp only [Tree.holds, decide_true, Bool.and_self, Bool.and_true, Bool.true_and, true_and, leV, leP, hs, h1, h2, h3, decide_eq_true_eq, decide_eq_false_iff_not]
    refine ⟨fun k => ⟨_, rfl, ?_, ?_⟩, fun k => ⟨_, rfl, ?_, ?_⟩⟩
    · obtain ⟨a, b, _⟩ := yes (of_decide_eq_true k); rw [a, b]; rfl
    · obtain ⟨_, _, c⟩ := yes (of_decide_eq_true k); rw [c]; rfl
    · obtain ⟨a, b, _⟩ := no (of_decide_eq_false k); rw [a, b]
    · obtain ⟨_, _, c⟩ := no (of_decide_eq_false k); rw [c]; rfl
  | ro p m =>
    refine (gives_of_tree hE (wS S2_ok) S2_ok (hp_below _) (tell_ro T x p m) ?_).2
    simp only [Tree.holds, decide_true, Bool.and_self, Bool.and_true, Bool.true_and, true_and, leV, leP, hs, h1, h2, h3, decide_eq_true_eq, decide_eq_false_iff_not]
    refine ⟨fun k => ⟨_, rfl, ?_, ?_⟩, fun k => ⟨_, rfl, ?_, ?_⟩⟩
    · obtain ⟨a, b, _⟩ := yes (of_decide_eq_true k); rw [a, b]; rfl
    · obtain ⟨_, _, c⟩ := yes (of_decide_eq_true k); rw [c]; rfl
    · obtain ⟨a, b, _⟩ := no (of_decide_eq_false k); rw [a, b]
    · obtain ⟨_, _, c⟩ := no (of_decide_eq_false k); rw [c]; rfl

theorem S3_ok : SumsOK Try.prog (tabF T) ra base (S3 T) := by
  have hE := tabF_plain T
  refine sumG_deal hE (sumG_deal hE S2_ok ⟨_, Try.func11, by kernel_rfl⟩ fun y hy => ?_) ⟨_, Try.func7, by kernel_rfl⟩ fun _ _ => ?_
  · simp only [tellD, Bool.and_eq_true] at hy
    exact tell_gives y.x y.s hy.1 hy.2
  · exact (gives_of_tree hE (W_ok sumNone_ok noL_ok) sumNone_ok (hp_below []) (works_tree T) ⟨_, rfl, rfl, rfl⟩).2
end

end Go.Proofs.Ytnnbbjfbhigcfaa
