/- align: AlignCuts: a way's row. -/
import Derived.Test.YtbdjcekekhgnkaaT24e
set_option linter.unusedSimpArgs false
namespace Go.Proofs.Ytbdjcekekhgnkaa
open Ab

theorem tabF_plain (T : Tc) : Plain (tabF T) := by
  intro tid par j v hv
  obtain ⟨_, s, hs, rfl⟩ := cellOf_seg hv
  rcases tid with _ | _ | _ | _ | _ | _ | tid <;> simp only [tabF, Nat.mod_one, List.getElem?_cons_zero, Option.some.injEq] at hs <;> subst hs <;> simp only [colAt] <;> first | rfl | (split <;> rfl)

theorem rwB_cases {V : AVal} (h : rwB V = true) : V = .nils ∨ (∃ p n, V = .slice (.ro 1 p 0 0) n none) ∨ ∃ p n, V = .slice (.ro 3 p 0 0) n none := by
  unfold rwB at h
  split at h
  · exact .inl rfl
  · exact .inr (.inl ⟨_, _, rfl⟩)
  · exact .inr (.inr ⟨_, _, rfl⟩)
  · cases h

section
variable {E : Nat → Nat → Seg} {ra : Nat → Nat → Nat × Nat} {base : Nat}

def outE (e : Bool) (ys : List Int) : AVal := match e with
  | true => .nils
  | false => .slice (.own 0 0 0 1) ys.length none
def blkE (e : Bool) (ys : List Int) : List Blk := match e with
  | true => []
  | false => [elI ys]
def thS (V : AVal) (e : Bool) (ys : List Int) (k s i : Int) : List (Nat × AVal) := [(0, V), (3, outE e ys), (4, .int .i64 k), (5, .int .i64 s), (6, .int .i64 i)]

theorem th_round (hE : Plain E) {V : AVal} (hV : rwB V = true) (e : Bool) (ys : List Int) (he : e = true → ys = []) (hl : ys.length ≤ 2000) (k s : Int) {i : Nat} (hs : 0 ≤ s ∧ s ≤ 100) :
    Takes Try.prog E ra base 0 (codeOf 16 (false :: pTh)) (mkT 35 (thS V e ys k s i)) (hp 0 (blkE e ys)) fun z =>
      ((i : Int) < s ∧ z = (.normal, mkT 35 (thS V false (ys ++ [-1]) k s ((i + 1 : Nat) : Int)), hp 0 (blkE false (ys ++ [-1])))) ∨
      (s ≤ (i : Int) ∧ z = (.exit 2, mkT 35 [(0, V), (3, outE e ys), (4, .int .i64 k)], hp 0 (blkE e ys))) := by
  have hw : (i : Int) < s → wr .i64 ((i : Int) + 1) = ((i + 1 : Nat) : Int) := fun h => by rw [wr_in ⟨by omega, by omega⟩]; omega
  rcases rwB_cases hV with rfl | ⟨p, n, rfl⟩ | ⟨p, n, rfl⟩ <;> cases e
  · refine takes_of_tree hE (W_ok sumNone_ok noL_ok) (f := 16) (.inr (by kernel_rfl)) (hp_below _) (th_gz E ys k s i) ?_
    simp only [Tree.holds, decide_eq_true_eq, decide_eq_false_iff_not]
    refine ⟨fun h => ⟨by omega, by omega, .inl ⟨h, ?_⟩⟩, fun h => .inr ⟨by omega, rfl⟩⟩
    rw [hw h]; simp [thS, outE, blkE, elI, hp]
  · have := he rfl; subst this
    refine takes_of_tree hE (W_ok sumNone_ok noL_ok) (f := 16) (.inr (by kernel_rfl)) (hp_below _) (th_nz E k s i) ?_
    simp only [Tree.holds, decide_eq_true_eq, decide_eq_false_iff_not]
    refine ⟨fun h => .inl ⟨h, ?_⟩, fun h => .inr ⟨by omega, rfl⟩⟩
    rw [hw h]; rfl
  · refine takes_of_tree hE (W_ok sumNone_ok noL_ok) (f := 16) (.inr (by kernel_rfl)) (hp_below _) (th_ga E p n ys k s i) ?_
    simp only [Tree.holds, decide_eq_true_eq, decide_eq_false_iff_not]
    refine ⟨fun h => ⟨by omega, by omega, .inl ⟨h, ?_⟩⟩, fun h => .inr ⟨by omega, rfl⟩⟩
    rw [hw h]; simp [thS, outE, blkE, elI, hp]
  · have := he rfl; subst this
    refine takes_of_tree hE (W_ok sumNone_ok noL_ok) (f := 16) (.inr (by kernel_rfl)) (hp_below _) (th_na E p n k s i) ?_
    simp only [Tree.holds, decide_eq_true_eq, decide_eq_false_iff_not]
    refine ⟨fun h => .inl ⟨h, ?_⟩, fun h => .inr ⟨by omega, rfl⟩⟩
    rw [hw h]; rfl
  · refine takes_of_tree hE (W_ok sumNone_ok noL_ok) (f := 16) (.inr (by kernel_rfl)) (hp_below _) (th_gb E p n ys k s i) ?_
    simp only [Tree.holds, decide_eq_true_eq, decide_eq_false_iff_not]
    refine ⟨fun h => ⟨by omega, by omega, .inl ⟨h, ?_⟩⟩, fun h => .inr ⟨by omega, rfl⟩⟩
    rw [hw h]; simp [thS, outE, blkE, elI, hp]
  · have := he rfl; subst this
    refine takes_of_tree hE (W_ok sumNone_ok noL_ok) (f := 16) (.inr (by kernel_rfl)) (hp_below _) (th_nb E p n k s i) ?_
    simp only [Tree.holds, decide_eq_true_eq, decide_eq_false_iff_not]
    refine ⟨fun h => .inl ⟨h, ?_⟩, fun h => .inr ⟨by omega, rfl⟩⟩
    rw [hw h]; rfl

theorem rep_succ (i : Nat) (xs : List Int) : (xs ++ List.replicate i (-1)) ++ [-1] = xs ++ List.replicate (i + 1) (-1) := by
  rw [List.append_assoc, ← List.replicate_succ']

theorem th_takes (hE : Plain E) (y : Rs) (hy : thD.pre y = true) : Takes Try.prog E ra base 0 (.loop (codeOf 16 (false :: pTh))) (mkT 35 (thD.ins y)) (hp 0 (thD.blks y)) fun z => PostL 35 y z thD.alts := by
  obtain ⟨V, e, xs, k, s⟩ := y
  simp only [thD, Bool.and_eq_true, decide_eq_true_eq] at hy
  obtain ⟨⟨hV, h0⟩, h1, h2, h3⟩ := hy
  have hx : e = true → xs = [] := fun he => by subst he; simpa using h0
  have hin : mkT 35 (thD.ins ⟨V, e, xs, k, s⟩) = mkT 35 (thS V (e && decide ((0 : Nat) = 0)) (xs ++ List.replicate 0 (-1)) k s ((0 : Nat) : Int)) ∧ hp 0 (thD.blks ⟨V, e, xs, k, s⟩) = hp 0 (blkE (e && decide ((0 : Nat) = 0)) (xs ++ List.replicate 0 (-1))) := by
    cases e <;> simp [thD, thS, outE, blkE]
  rw [hin.1, hin.2]
  refine takes_loop (fun m ts h => ∃ i : Nat, (i : Int) ≤ s ∧ m = s.toNat - i + 1 ∧ ts = mkT 35 (thS V (e && decide (i = 0)) (xs ++ List.replicate i (-1)) k s (i : Int)) ∧ h = hp 0 (blkE (e && decide (i = 0)) (xs ++ List.replicate i (-1)))) (fun ts h => by rintro ⟨i, _, h, _⟩; omega) (fun m ts h' => ?_) (j := s.toNat + 1) ⟨0, by omega, by omega, rfl, rfl⟩
  rintro ⟨i, k1, k2, rfl, rfl⟩
  have hnil : (e && decide (i = 0)) = true → xs ++ List.replicate i (-1) = [] := by
    intro h
    simp only [Bool.and_eq_true, decide_eq_true_eq] at h
    rw [hx h.1, h.2]; rfl
  refine (th_round hE hV (e && decide (i = 0)) (xs ++ List.replicate i (-1)) hnil (by rw [List.length_append, List.length_replicate]; omega) k s ⟨h1, h2⟩).mono ?_
  rintro z (⟨g1, rfl⟩ | ⟨g1, rfl⟩)
  · refine ⟨i + 1, by omega, by omega, ?_, ?_⟩
    · rw [rep_succ]; simp
    · rw [rep_succ]; simp
  · have hi : i = s.toNat := by omega
    show PostL 35 _ _ thD.alts
    cases hb : (e && decide (i = 0)) with
    | true =>
      simp only [Bool.and_eq_true, decide_eq_true_eq] at hb
      refine .inr ⟨(), ?_, ?_⟩
      · simp only [thZ, hb.1, Bool.true_and, decide_eq_true_eq]; omega
      · simp only [outE, blkE]
    | false =>
      refine .inl ⟨xs ++ List.replicate i (-1), by rw [hi], ?_⟩
      simp only [outE, blkE]

theorem TTh_ok (hE : Plain E) : ToldsOK Try.prog E ra base 0 TTh :=
  sumT_ok noT_ok rfl (toldR_ok (c := .loop (codeOf 16 (false :: pTh))) (by kernel_rfl) fun y hy => th_takes hE y hy)

def okT (T : Tc) : Prop := (∀ p, ∀ v ∈ T.R p, 0 ≤ v ∧ v < 256) ∧ (∀ p, ∀ v ∈ T.Q p, 0 ≤ v ∧ v < 256) ∧ ∀ v ∈ T.o, 0 ≤ v ∧ v < 256

def baS (V : AVal) (e : Bool) (i : Nat) (ys : List Int) : List (Nat × AVal) := [(0, V), (3, outE e ys), (4, .int .i64 ((i + 1 : Nat) : Int))]

theorem thing_range {xs : List Int} (h : ∀ v ∈ xs, 0 ≤ v ∧ v < 256) (n : Nat) : 0 ≤ thing xs n ∧ thing xs n ≤ 4 := by
  unfold thing
  split
  · have h0 : 0 ≤ xs.getD (n - 1) 0 := by
      rcases Nat.lt_or_ge (n - 1) xs.length with hl | hl
      · rw [getD_at hl]; exact (h _ (List.getElem_mem _)).1
      · rw [List.getD_eq_getElem?_getD, List.getElem?_eq_none hl]; exact Int.le_refl _
    rw [Int.tmod_eq_emod_of_nonneg h0]
    omega
  · omega

theorem rowTo_len {xs : List Int} (h : ∀ v ∈ xs, 0 ≤ v ∧ v < 256) : ∀ n, (rowTo xs n).length ≤ 5 * n
  | 0 => Nat.zero_le _
  | n + 1 => by
    have := rowTo_len h n
    have h2 := thing_range h (n + 1)
    simp only [rowTo, List.length_append, List.length_replicate, List.length_cons, List.length_nil]
    omega

theorem ba_fin {V : AVal} {xs y3 : List Int} {i : Nat} {k k' : Int} {Q : State → Prop} (q : Q (.normal, mkT 35 (baS V false (i + 1) (rowTo xs (i + 1))), hp 0 [elI (rowTo xs (i + 1))])) (h3 : y3 = rowTo xs i ++ List.replicate (thing xs (i + 1)).toNat (-1)) (hk : k = ((i + 1 : Nat) : Int)) (hk' : k' = ((i + 1 + 1 : Nat) : Int)) :
    Q (.normal, mkT 35 [(0, V), (3, .slice (.own 0 0 0 1) (y3.length + 1) none), (4, .int .i64 k')], [(0, some (.segs [⟨y3.length + 1, 1, [.int .i64 (List.take y3.length (List.drop 0 y3) ++ List.take 1 (List.drop 0 [k]))]⟩]))]) := by
  have e : rowTo xs (i + 1) = y3 ++ [k] := by rw [h3, hk]; rfl
  rw [e] at q
  subst hk'
  refine Eq.mp (congrArg Q ?_) q
  simp [baS, outE, elI, hp]

theorem ba_fin0 {V : AVal} {xs : List Int} {k k' : Int} {Q : State → Prop} (q : Q (.normal, mkT 35 (baS V false (0 + 1) (rowTo xs (0 + 1))), hp 0 [elI (rowTo xs (0 + 1))])) (h0 : thing xs (0 + 1) = 0) (hk : k = ((0 + 1 : Nat) : Int)) (hk' : k' = ((0 + 1 + 1 : Nat) : Int)) :
    Q (.normal, mkT 35 [(0, V), (3, .slice (.own 0 0 0 1) 1 none), (4, .int .i64 k')], [(0, some (.segs [⟨1, 1, [.int .i64 (List.take 1 (List.drop 0 [k]))]⟩]))]) := by
  have e : rowTo xs (0 + 1) = [k] := by simp only [rowTo, Nat.zero_add] at *; rw [h0, hk]; rfl
  rw [e] at q
  subst hk'
  exact q

theorem ba_round {T : Tc} (hT : okT T) (y : Rw) (hy : y.pre T = true) {i : Nat} (hi : i ≤ 5) {Q : State → Prop}
    (q1 : i < 5 → Q (.normal, mkT 35 (baS y.v false (i + 1) (rowTo (y.xs T) (i + 1))), hp 0 [elI (rowTo (y.xs T) (i + 1))])) (q2 : i = 5 → Q (.exit 0, mkT 35 [(3, .slice (.own 0 0 0 1) (rowL (y.xs T)).length none)], hp 0 [elI (rowL (y.xs T))])) :
    Takes Try.prog (tabF T) ra base 0 (codeOf 16 (false :: pBa)) (mkT 35 (baS y.v (decide (i = 0)) i (rowTo (y.xs T) i))) (hp 0 (blkE (decide (i = 0)) (rowTo (y.xs T) i))) Q := by
  have hE := tabF_plain T
  have hW := W_ok (E := tabF T) (ra := ra) (base := base) sumNone_ok noL_ok
  have hxs : ∀ v ∈ y.xs T, 0 ≤ v ∧ v < 256 := by
    cases y with
    | z => intro v hv; cases hv
    | a p n => exact hT.1 p
    | b p n => exact hT.2.1 p
  have hr := thing_range hxs (i + 1)
  have hl := rowTo_len hxs i
  have w1 : wr .i64 (((i + 1 : Nat) : Int) - 1) = (i : Int) := by rw [wr_in ⟨by omega, by omega⟩]; omega
  have w2 : wr .i64 (((i + 1 : Nat) : Int) + 1) = ((i + 1 + 1 : Nat) : Int) := by rw [wr_in ⟨by omega, by omega⟩]; omega
  have hth : i + 1 ≤ (y.xs T).length → wr .i64 (Int.tmod ((y.xs T).getD i 0) 5) = thing (y.xs T) (i + 1) := by
    intro h
    have e : thing (y.xs T) (i + 1) = Int.tmod ((y.xs T).getD i 0) 5 := by unfold thing; rw [if_pos h, Nat.add_sub_cancel]
    rw [← e, wr_in ⟨by omega, by omega⟩]
  have hth2 : ¬ i + 1 ≤ (y.xs T).length → thing (y.xs T) (i + 1) = 1 := fun h => by unfold thing; rw [if_neg h]
  have hlen : ∀ y3 : List Int, y3 = rowTo (y.xs T) i ++ List.replicate (thing (y.xs T) (i + 1)).toNat (-1) → (y3.length + 1) * 8 ≤ 35184372088832 := fun y3 h => by rw [h, List.length_append, List.length_replicate]; omega
  rcases Nat.eq_zero_or_pos i with h0 | h0
  · subst h0
    cases y with
    | z =>
      refine takes_of_treeQ hE hW (TTh_ok hE) (f := 16) (.inr (by kernel_rfl)) (hp_below _) (ba_nz T ((0 + 1 : Nat) : Int)) ?_
      simp only [TreeQ.holds, decide_true, Bool.and_self, Bool.and_true, Bool.true_and, true_and, w1, w2, toNat_nat, decide_eq_true_eq, decide_eq_false_iff_not, Bool.and_eq_true, reduceCtorEq, false_implies, and_true]
      have key : ∀ y3 : List Int, y3 = [] ++ List.replicate (Int.toNat 1) (-1) → y3 = rowTo (Rw.z.xs T) 0 ++ List.replicate (thing (Rw.z.xs T) (0 + 1)).toNat (-1) := fun y3 h3 => by rw [h3, hth2 (by simp [Rw.xs])]; rfl
      exact ⟨fun _ => ⟨fun h => absurd h (by omega), fun _ => ⟨fun y3 h3 => ⟨hlen y3 (key y3 h3), by omega, ba_fin (q1 (by omega)) (key y3 h3) rfl rfl⟩, fun _ => trivial⟩⟩, fun h => absurd (by omega) h⟩
    | a p n =>
      have hn : n = (T.R p).length := of_decide_eq_true hy
      subst hn
      simp only [Rw.xs, Rw.v] at hxs hr hl hth hth2 hlen q1 ⊢
      refine takes_of_treeQ hE hW (TTh_ok hE) (f := 16) (.inr (by kernel_rfl)) (hp_below _) (ba_na T p (T.R p).length ((0 + 1 : Nat) : Int)) ?_
      simp only [TreeQ.holds, decide_true, Bool.and_self, Bool.and_true, Bool.true_and, true_and, w1, w2, toNat_nat, decide_eq_true_eq, decide_eq_false_iff_not, Bool.and_eq_true, reduceCtorEq, false_implies, and_true]
      have key1 : 0 + 1 ≤ (T.R p).length → ∀ y3 : List Int, y3 = [] ++ List.replicate (wr .i64 (Int.tmod ((T.R p).getD 0 0) 5)).toNat (-1) → y3 = rowTo (T.R p) 0 ++ List.replicate (thing (T.R p) (0 + 1)).toNat (-1) := fun hh y3 h3 => by rw [h3, hth hh]; rfl
      have key2 : ¬ 0 + 1 ≤ (T.R p).length → ∀ y3 : List Int, y3 = [] ++ List.replicate (Int.toNat 1) (-1) → y3 = rowTo (T.R p) 0 ++ List.replicate (thing (T.R p) (0 + 1)).toNat (-1) := fun hh y3 h3 => by rw [h3, hth2 hh]; rfl
      refine ⟨fun _ => ⟨fun h1 => ?_, fun h1 => ?_⟩, fun h => absurd (by omega) h⟩
      · have hl1 : 0 + 1 ≤ (T.R p).length := by omega
        have e1 := hth hl1
        refine ⟨by omega, by omega, by rw [e1]; omega, fun y3 h3 => ⟨hlen y3 (key1 hl1 y3 h3), by omega, ba_fin (q1 (by omega)) (key1 hl1 y3 h3) rfl rfl⟩, fun _ hz => ?_⟩
        simp only [thZ, Bool.true_and, decide_eq_true_eq] at hz
        exact ba_fin0 (q1 (by omega)) (by rw [← e1]; exact hz) rfl rfl
      · have hl1 : ¬ 0 + 1 ≤ (T.R p).length := by omega
        exact ⟨fun y3 h3 => ⟨hlen y3 (key2 hl1 y3 h3), by omega, ba_fin (q1 (by omega)) (key2 hl1 y3 h3) rfl rfl⟩, fun _ => trivial⟩
    | b p n =>
      have hn : n = (T.Q p).length := of_decide_eq_true hy
      subst hn
      simp only [Rw.xs, Rw.v] at hxs hr hl hth hth2 hlen q1 ⊢
      refine takes_of_treeQ hE hW (TTh_ok hE) (f := 16) (.inr (by kernel_rfl)) (hp_below _) (ba_nb T p (T.Q p).length ((0 + 1 : Nat) : Int)) ?_
      simp only [TreeQ.holds, decide_true, Bool.and_self, Bool.and_true, Bool.true_and, true_and, w1, w2, toNat_nat, decide_eq_true_eq, decide_eq_false_iff_not, Bool.and_eq_true, reduceCtorEq, false_implies, and_true]
      have key1 : 0 + 1 ≤ (T.Q p).length → ∀ y3 : List Int, y3 = [] ++ List.replicate (wr .i64 (Int.tmod ((T.Q p).getD 0 0) 5)).toNat (-1) → y3 = rowTo (T.Q p) 0 ++ List.replicate (thing (T.Q p) (0 + 1)).toNat (-1) := fun hh y3 h3 => by rw [h3, hth hh]; rfl
      have key2 : ¬ 0 + 1 ≤ (T.Q p).length → ∀ y3 : List Int, y3 = [] ++ List.replicate (Int.toNat 1) (-1) → y3 = rowTo (T.Q p) 0 ++ List.replicate (thing (T.Q p) (0 + 1)).toNat (-1) := fun hh y3 h3 => by rw [h3, hth2 hh]; rfl
      refine ⟨fun _ => ⟨fun h1 => ?_, fun h1 => ?_⟩, fun h => absurd (by omega) h⟩
      · have hl1 : 0 + 1 ≤ (T.Q p).length := by omega
        have e1 := hth hl1
        refine ⟨by omega, by omega, by rw [e1]; omega, fun y3 h3 => ⟨hlen y3 (key1 hl1 y3 h3), by omega, ba_fin (q1 (by omega)) (key1 hl1 y3 h3) rfl rfl⟩, fun _ hz => ?_⟩
        simp only [thZ, Bool.true_and, decide_eq_true_eq] at hz
        exact ba_fin0 (q1 (by omega)) (by rw [← e1]; exact hz) rfl rfl
      · have hl1 : ¬ 0 + 1 ≤ (T.Q p).length := by omega
        exact ⟨fun y3 h3 => ⟨hlen y3 (key2 hl1 y3 h3), by omega, ba_fin (q1 (by omega)) (key2 hl1 y3 h3) rfl rfl⟩, fun _ => trivial⟩
  · have hd : decide (i = 0) = false := decide_eq_false (by omega)
    have q2' : i = 5 → Q (.exit 0, mkT 35 [(3, .slice (.own 0 0 0 1) (rowTo (y.xs T) i).length none)], [(0, some (.segs [⟨(rowTo (y.xs T) i).length, 1, [.int .i64 (rowTo (y.xs T) i)]⟩]))]) := fun h => by
      have := q2 h
      rw [rowL, ← h] at this
      exact this
    rw [hd]
    cases y with
    | z =>
      refine takes_of_treeQ hE hW (TTh_ok hE) (f := 16) (.inr (by kernel_rfl)) (hp_below _) (ba_gz T (rowTo (Rw.z.xs T) i) ((i + 1 : Nat) : Int)) ?_
      simp only [TreeQ.holds, decide_true, Bool.and_self, Bool.and_true, Bool.true_and, true_and, w1, w2, toNat_nat, decide_eq_true_eq, decide_eq_false_iff_not, Bool.and_eq_true, reduceCtorEq, false_implies, and_true]
      have key : ∀ y3 : List Int, y3 = rowTo (Rw.z.xs T) i ++ List.replicate (Int.toNat 1) (-1) → y3 = rowTo (Rw.z.xs T) i ++ List.replicate (thing (Rw.z.xs T) (i + 1)).toNat (-1) := fun y3 h3 => by rw [h3, hth2 (by simp [Rw.xs])]
      exact ⟨fun _ => ⟨fun h => absurd h (by omega), fun _ => ⟨by omega, fun y3 h3 => ⟨hlen y3 (key y3 h3), by rw [Nat.zero_add]; exact Nat.le_refl _, ba_fin (q1 (by omega)) (key y3 h3) rfl rfl⟩, fun _ => trivial⟩⟩, fun h => q2' (by omega)⟩
    | a p n =>
      have hn : n = (T.R p).length := of_decide_eq_true hy
      subst hn
      simp only [Rw.xs, Rw.v] at hxs hr hl hth hth2 hlen q1 ⊢
      refine takes_of_treeQ hE hW (TTh_ok hE) (f := 16) (.inr (by kernel_rfl)) (hp_below _) (ba_ga T p (T.R p).length (rowTo (T.R p) i) ((i + 1 : Nat) : Int)) ?_
      simp only [TreeQ.holds, decide_true, Bool.and_self, Bool.and_true, Bool.true_and, true_and, w1, w2, toNat_nat, decide_eq_true_eq, decide_eq_false_iff_not, Bool.and_eq_true, reduceCtorEq, false_implies, and_true]
      have key1 : i + 1 ≤ (T.R p).length → ∀ y3 : List Int, y3 = rowTo (T.R p) i ++ List.replicate (wr .i64 (Int.tmod ((T.R p).getD i 0) 5)).toNat (-1) → y3 = rowTo (T.R p) i ++ List.replicate (thing (T.R p) (i + 1)).toNat (-1) := fun hh y3 h3 => by rw [h3, hth hh]
      have key2 : ¬ i + 1 ≤ (T.R p).length → ∀ y3 : List Int, y3 = rowTo (T.R p) i ++ List.replicate (Int.toNat 1) (-1) → y3 = rowTo (T.R p) i ++ List.replicate (thing (T.R p) (i + 1)).toNat (-1) := fun hh y3 h3 => by rw [h3, hth2 hh]
      refine ⟨fun h5 => ⟨fun h1 => ?_, fun h1 => ?_⟩, fun h => q2' (by omega)⟩
      · have hl1 : i + 1 ≤ (T.R p).length := by omega
        have e1 := hth hl1
        exact ⟨by omega, by omega, by rw [e1]; omega, fun y3 h3 => ⟨hlen y3 (key1 hl1 y3 h3), by rw [Nat.zero_add]; exact Nat.le_refl _, ba_fin (q1 (by omega)) (key1 hl1 y3 h3) rfl rfl⟩, fun _ => trivial⟩
      · have hl1 : ¬ i + 1 ≤ (T.R p).length := by omega
        exact ⟨by omega, fun y3 h3 => ⟨hlen y3 (key2 hl1 y3 h3), by rw [Nat.zero_add]; exact Nat.le_refl _, ba_fin (q1 (by omega)) (key2 hl1 y3 h3) rfl rfl⟩, fun _ => trivial⟩
    | b p n =>
      have hn : n = (T.Q p).length := of_decide_eq_true hy
      subst hn
      simp only [Rw.xs, Rw.v] at hxs hr hl hth hth2 hlen q1 ⊢
      refine takes_of_treeQ hE hW (TTh_ok hE) (f := 16) (.inr (by kernel_rfl)) (hp_below _) (ba_gb T p (T.Q p).length (rowTo (T.Q p) i) ((i + 1 : Nat) : Int)) ?_
      simp only [TreeQ.holds, decide_true, Bool.and_self, Bool.and_true, Bool.true_and, true_and, w1, w2, toNat_nat, decide_eq_true_eq, decide_eq_false_iff_not, Bool.and_eq_true, reduceCtorEq, false_implies, and_true]
      have key1 : i + 1 ≤ (T.Q p).length → ∀ y3 : List Int, y3 = rowTo (T.Q p) i ++ List.replicate (wr .i64 (Int.tmod ((T.Q p).getD i 0) 5)).toNat (-1) → y3 = rowTo (T.Q p) i ++ List.replicate (thing (T.Q p) (i + 1)).toNat (-1) := fun hh y3 h3 => by rw [h3, hth hh]
      have key2 : ¬ i + 1 ≤ (T.Q p).length → ∀ y3 : List Int, y3 = rowTo (T.Q p) i ++ List.replicate (Int.toNat 1) (-1) → y3 = rowTo (T.Q p) i ++ List.replicate (thing (T.Q p) (i + 1)).toNat (-1) := fun hh y3 h3 => by rw [h3, hth2 hh]
      refine ⟨fun h5 => ⟨fun h1 => ?_, fun h1 => ?_⟩, fun h => q2' (by omega)⟩
      · have hl1 : i + 1 ≤ (T.Q p).length := by omega
        have e1 := hth hl1
        exact ⟨by omega, by omega, by rw [e1]; omega, fun y3 h3 => ⟨hlen y3 (key1 hl1 y3 h3), by rw [Nat.zero_add]; exact Nat.le_refl _, ba_fin (q1 (by omega)) (key1 hl1 y3 h3) rfl rfl⟩, fun _ => trivial⟩
      · have hl1 : ¬ i + 1 ≤ (T.Q p).length := by omega
        exact ⟨by omega, fun y3 h3 => ⟨hlen y3 (key2 hl1 y3 h3), by rw [Nat.zero_add]; exact Nat.le_refl _, ba_fin (q1 (by omega)) (key2 hl1 y3 h3) rfl rfl⟩, fun _ => trivial⟩

theorem ba_takes {T : Tc} (hT : okT T) (y : Rw) (hy : y.pre T = true) : Takes Try.prog (tabF T) ra base 0 (.loop (codeOf 16 (false :: pBa))) (mkT 35 ((baD T).ins y)) (hp 0 ((baD T).blks y)) fun z => PostL 35 y z (baD T).alts := by
  refine takes_loop (fun m ts h => ∃ i : Nat, i ≤ 5 ∧ m = 5 - i + 1 ∧ ts = mkT 35 (baS y.v (decide (i = 0)) i (rowTo (y.xs T) i)) ∧ h = hp 0 (blkE (decide (i = 0)) (rowTo (y.xs T) i))) (fun ts h => by rintro ⟨i, _, h, _⟩; omega) (fun m ts h' => ?_) (j := 6) ⟨0, by omega, by omega, rfl, rfl⟩
  rintro ⟨i, k1, k2, rfl, rfl⟩
  refine ba_round hT y hy k1 (fun h => ⟨i + 1, by omega, by omega, ?_, ?_⟩) (fun h => ⟨(), trivial, rfl⟩)
  · simp
  · simp [blkE]

theorem TBa_ok {T : Tc} (hT : okT T) : ToldsOK Try.prog (tabF T) ra base 0 (TBa T) :=
  sumT_ok noT_ok rfl (toldR_ok (c := .loop (codeOf 16 (false :: pBa))) (by kernel_rfl) fun y hy => ba_takes hT y hy)

theorem row_gives {T : Tc} (hT : okT T) (y : Rw) (hy : y.pre T = true) : Gives Try.prog (tabF T) ra base 0 16 [y.v] (hp 0 []) fun v h' => v = .slice (.own 0 0 0 1) (rowL (y.xs T)).length none ∧ h' = hp 0 [elI (rowL (y.xs T))] := by
  have hE := tabF_plain T
  have hW := W_ok (E := tabF T) (ra := ra) (base := base) sumNone_ok noL_ok
  cases y with
  | z =>
    refine gives_of_treeQ hE hW (TBa_ok hT) (hp_below _) (row_z T) ?_
    simp only [TreeQ.holds, decide_true, Bool.and_self, Bool.and_true, Bool.true_and, true_and, hy]
    exact fun _ _ => ⟨_, rfl, rfl, rfl⟩
  | a p n =>
    refine gives_of_treeQ hE hW (TBa_ok hT) (hp_below _) (row_a T p n) ?_
    simp only [TreeQ.holds, decide_true, Bool.and_self, Bool.and_true, Bool.true_and, true_and, hy]
    exact fun _ _ => ⟨_, rfl, rfl, rfl⟩
  | b p n =>
    refine gives_of_treeQ hE hW (TBa_ok hT) (hp_below _) (row_b T p n) ?_
    simp only [TreeQ.holds, decide_true, Bool.and_self, Bool.and_true, Bool.true_and, true_and, hy]
    exact fun _ _ => ⟨_, rfl, rfl, rfl⟩
end
end Go.Proofs.Ytbdjcekekhgnkaa
