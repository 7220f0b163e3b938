/- send: SendPlays: the loop of acts; the whole. -/
import Derived.Test.YtoahbijmemgghaaT20q
import Derived.Test.YtoahbijmemgghaaP20p
set_option linter.unusedSimpArgs false
namespace Go.Proofs.Ytoahbijmemgghaa
open Ab

section
variable {ra : Nat → Nat → Nat × Nat} {base : Nat} {a b c d : List Int}

theorem tabS_plain (a b c d : List Int) : Plain (tabS a b c d) := by
  intro tid par j v hv
  obtain ⟨_, s, hs, rfl⟩ := cellOf_seg hv
  simp only [tabS] at hs
  have : j % 4 = 0 ∨ j % 4 = 1 ∨ j % 4 = 2 ∨ j % 4 = 3 := by omega
  rcases this with e | e | e | e <;> rw [e] at hs <;> simp at hs <;> subst hs <;> rfl

/-- the table's numbers -/
structure TabOk (a b c d : List Int) : Prop where
  lb : b.length = a.length
  lc : c.length = a.length
  ld : d.length = a.length
  b8 : ∀ v ∈ b, i8 v = true
  c8 : ∀ v ∈ c, i8 v = true
  d64 : ∀ v ∈ d, u64 v = true

def plAt (V : AVal) (z : Two) (j i : Int) : List (Nat × AVal) := [(2, V), (9, .ptr (.own 0 0 0 0)), (10, .ptr (.own 1 0 0 0)), (11, .int .i64 i), (25, z.v), (26, .int .i64 j)]
def plOut (V : AVal) (z : Two) (j : Int) : List (Nat × AVal) := [(2, V), (25, z.v), (26, .int .i64 j)]

theorem okV_cases {V : AVal} (h : okV a V = true) : V = .nils ∨ V = .slice (.ro 0 0 0 0) a.length none := by
  unfold okV at h
  split at h
  · exact .inl rfl
  · rename_i n
    simp only [decide_eq_true_eq] at h
    subst h; exact .inr rfl
  · cases h

theorem plays_step (ht : TabOk a b c d) (z : Two) (j : Int) {p : Pr} {i : Nat} (h : p.like i = true) (hi : i ≤ 100) :
    Takes Try.prog (tabS a b c d) ra base 0 (codeOf 3 (false :: pPL)) (mkT 199 (plAt (.slice (.ro 0 0 0 0) a.length none) z j i)) (hp 0 p.bs) fun y =>
      (i < 100 ∧ ∃ p' : Pr, p'.like ((i + 1 : Nat) : Int) = true ∧ y = (.normal, mkT 199 (plAt (.slice (.ro 0 0 0 0) a.length none) z j ((i + 1 : Nat) : Int)), hp 0 p'.bs)) ∨ y = (.exit 2, mkT 199 (plOut (.slice (.ro 0 0 0 0) a.length none) z j), hp 0 []) := by
  have hE := tabS_plain a b c d
  have hS := S3_ok (ra := ra) (base := base) hE
  have hT := TAC_ok (ra := ra) (base := base) hE
  have hw := wr_up (i := i) (by omega)
  have hc1 : (i : Int) + 1 = ((i + 1 : Nat) : Int) := by omega
  have hnn : decide (0 ≤ (i : Int)) = true := decide_eq_true (by omega)
  obtain ⟨za, zb⟩ := z
  have fz : ∀ s : Zz, Pr.like ((i : Int) + 1) (.z s.k s.b s.m) = true → Sx.ok (.z s.k s.b s.m) = true ∧ wr .i64 (s.k - 0) = Sx.k (.z s.k s.b s.m) - ((Sx.n (.z s.k s.b s.m) : Nat) : Int) := fun s hs => by
    obtain ⟨q1, q2, _⟩ := like_z.1 hs
    obtain ⟨g1, g2⟩ := newOk_iff'.1 q1
    exact ⟨q2, wr_in ⟨by omega, by omega⟩⟩
  have fq : ∀ s : Qq, Pr.like ((i : Int) + 1) (.q s.x s.y) = true → Sx.ok (.q s.x) = true ∧ Sx.b (.q s.x) = s.y.b ∧ Sx.n (.q s.x) = s.y.n ∧ wr .i64 (s.y.k - (s.y.n : Int)) = Sx.k (.q s.x) - ((Sx.n (.q s.x) : Nat) : Int) := fun s hs => by
    obtain ⟨h1, h2, h3, h4, h5, h6, h7, h8, h9, h10, h11, h12, h13⟩ := like_q.1 hs
    obtain ⟨g1, g2⟩ := newOk_iff'.1 h1
    refine ⟨h2, h7, h5, ?_⟩
    rw [← h6, ← h5]
    exact wr_in ⟨by omega, by omega⟩
  have key : (i : Int) < a.length → (i : Int) < 100 → i8 (b.getD (0 + Int.toNat (i : Int)) 0) = true ∧ i8 (c.getD (0 + Int.toNat (i : Int)) 0) = true ∧ u64 (d.getD (0 + Int.toNat (i : Int)) 0) = true ∧ (0 + Int.toNat (i : Int) < a.length) := fun h1 h2 => by
    have hlt : i < a.length := by omega
    rw [toNat_nat]
    refine ⟨?_, ?_, ?_, hlt⟩
    · rw [getD_at (by rw [ht.lb]; exact hlt)]; exact ht.b8 _ (List.getElem_mem _)
    · rw [getD_at (by rw [ht.lc]; exact hlt)]; exact ht.c8 _ (List.getElem_mem _)
    · rw [getD_at (by rw [ht.ld]; exact hlt)]; exact ht.d64 _ (List.getElem_mem _)
  cases p with
  | z k b0 m =>
    obtain ⟨_, _, hb0, _⟩ := like_z.1 h
    subst hb0
    refine takes_of_treeQ hE (W_ok hS noL_ok) hT (f := 3) (.inr (by kernel_rfl)) (hp_below _) (plays_z a.length za zb j i k m a b c d) ?_
    simp only [TreeQ.holds, decide_eq_true_eq, decide_eq_false_iff_not]
    refine ⟨fun k1 => ⟨fun k2 => ?_, fun _ => .inr rfl⟩, fun _ => .inr rfl⟩
    obtain ⟨v1, v2, v3, v4⟩ := key k1 k2
    simp only [decide_true, Bool.and_self, Bool.and_true, Bool.true_and, true_and, qSame_self, cap_self, h, hnn, v1, v2, v3, v4, k1, k2, hw]
    refine ⟨fun s hs => ?_, fun s hs => ?_⟩
    · obtain ⟨f1, f2⟩ := fz s hs
      have f3 : Sx.b (.z s.k s.b s.m) = s.b := rfl
      simp only [f1, f2, f3, decide_true, Bool.not_true, Bool.false_eq_true, false_implies, true_implies, true_and, forall_const]
      exact .inl ⟨by omega, .z s.k s.b s.m, by rw [← hc1]; exact hs, rfl⟩
    · obtain ⟨f1, f2, f3, f4⟩ := fq s hs
      simp only [f1, f2, f3, f4, decide_true, Bool.not_true, Bool.false_eq_true, false_implies, true_implies, true_and, forall_const]
      exact .inl ⟨by omega, .q s.x s.y, by rw [← hc1]; exact hs, rfl⟩
  | q x y =>
    refine takes_of_treeQ hE (W_ok hS noL_ok) hT (f := 3) (.inr (by kernel_rfl)) (hp_below _) (plays_q a.length za zb j i x y a b c d) ?_
    simp only [TreeQ.holds, decide_eq_true_eq, decide_eq_false_iff_not]
    refine ⟨fun k1 => ⟨fun k2 => ?_, fun _ => .inr rfl⟩, fun _ => .inr rfl⟩
    obtain ⟨v1, v2, v3, v4⟩ := key k1 k2
    simp only [decide_true, Bool.and_self, Bool.and_true, Bool.true_and, true_and, qSame_self, cap_self, h, hnn, v1, v2, v3, v4, k1, k2, hw]
    refine ⟨fun s hs => ?_, fun s hs => ?_⟩
    · obtain ⟨f1, f2⟩ := fz s hs
      have f3 : Sx.b (.z s.k s.b s.m) = s.b := rfl
      simp only [f1, f2, f3, decide_true, Bool.not_true, Bool.false_eq_true, false_implies, true_implies, true_and, forall_const]
      exact .inl ⟨by omega, .z s.k s.b s.m, by rw [← hc1]; exact hs, rfl⟩
    · obtain ⟨f1, f2, f3, f4⟩ := fq s hs
      simp only [f1, f2, f3, f4, decide_true, Bool.not_true, Bool.false_eq_true, false_implies, true_implies, true_and, forall_const]
      exact .inl ⟨by omega, .q s.x s.y, by rw [← hc1]; exact hs, rfl⟩

theorem plays_loop (ht : TabOk a b c d) (z : Two) (j : Int) {k : Int} (hk : newOk k = true) :
    Takes Try.prog (tabS a b c d) ra base 0 (.loop (codeOf 3 (false :: pPL))) (mkT 199 (plAt (.slice (.ro 0 0 0 0) a.length none) z j 0)) (hp 0 [zBlk k 0 k, rzBlk k 0 k]) fun y => y = (.exit 2, mkT 199 (plOut (.slice (.ro 0 0 0 0) a.length none) z j), hp 0 []) := by
  obtain ⟨g1, g2⟩ := newOk_iff'.1 hk
  have h0 : Pr.like ((0 : Nat) : Int) (.z k 0 k) = true := like_z.2 ⟨hk, okN_iff.2 ⟨by decide, by omega, by omega, by decide, by decide, by omega, by omega⟩, rfl, by omega⟩
  refine takes_loop (fun m ts h => ∃ (i : Nat) (p : Pr), i ≤ 100 ∧ m = 100 - i + 1 ∧ p.like i = true ∧ ts = mkT 199 (plAt (.slice (.ro 0 0 0 0) a.length none) z j i) ∧ h = hp 0 p.bs) (fun ts h => by rintro ⟨i, p, _, h, _⟩; omega) (fun m ts h' => ?_) (j := 101) ⟨0, .z k 0 k, Nat.zero_le _, rfl, h0, rfl, rfl⟩
  rintro ⟨i, p, k1, k2, k3, rfl, rfl⟩
  refine (plays_step ht z j k3 k1).mono ?_
  rintro y (⟨q1, p', q2, rfl⟩ | rfl)
  · exact ⟨i + 1, p', by omega, by omega, q2, rfl, rfl⟩
  · rfl

theorem nil_loop (z : Two) (j k : Int) :
    Takes Try.prog (tabS a b c d) ra base 0 (.loop (codeOf 3 (false :: pPL))) (mkT 199 (plAt .nils z j 0)) (hp 0 [zBlk k 0 k, rzBlk k 0 k]) fun y => y = (.exit 2, mkT 199 (plOut .nils z j), hp 0 []) := by
  have hE := tabS_plain a b c d
  have hS := S3_ok (ra := ra) (base := base) hE
  refine takes_loop (fun m ts h => m = 1 ∧ ts = mkT 199 (plAt .nils z j 0) ∧ h = hp 0 [zBlk k 0 k, rzBlk k 0 k]) (fun ts h => by rintro ⟨h, _⟩; omega) (fun m ts h' => ?_) (j := 1) ⟨rfl, rfl, rfl⟩
  rintro ⟨_, rfl, rfl⟩
  exact takes_of_treeQ hE (W_ok hS noL_ok) noT_ok (f := 3) (.inr (by kernel_rfl)) (hp_below _) (plays_nil z.a z.b j k a b c d) rfl

theorem none_loop {V : AVal} (hV : okV a V = true) (z : Two) (j : Int) :
    Takes Try.prog (tabS a b c d) ra base 0 (.loop (codeOf 3 (false :: pPL))) (mkT 199 (plIns (.o V z j))) (hp 0 []) fun y => y = (.exit 2, mkT 199 (plOut V z j), hp 0 []) := by
  have hE := tabS_plain a b c d
  have hS := S3_ok (ra := ra) (base := base) hE
  refine takes_loop (fun m ts h => m = 1 ∧ ts = mkT 199 (plIns (.o V z j)) ∧ h = hp 0 []) (fun ts h => by rintro ⟨h, _⟩; omega) (fun m ts h' => ?_) (j := 1) ⟨rfl, rfl, rfl⟩
  rintro ⟨_, rfl, rfl⟩
  rcases okV_cases hV with rfl | rfl
  · exact takes_of_treeQ hE (W_ok hS noL_ok) noT_ok (f := 3) (.inr (by kernel_rfl)) (hp_below _) (plays_none0 z.a z.b j a b c d) rfl
  · exact takes_of_treeQ hE (W_ok hS noL_ok) noT_ok (f := 3) (.inr (by kernel_rfl)) (hp_below _) (plays_none z.a z.b j a.length a b c d) ⟨fun _ => rfl, fun _ => rfl⟩

theorem T3_ok (ht : TabOk a b c d) : ToldsOK Try.prog (tabS a b c d) ra base 0 (T3 a) := by
  refine sumT_ok noT_ok rfl (toldR_ok (c := .loop (codeOf 3 (false :: pPL))) (by kernel_rfl) fun y hy => ?_)
  cases y with
  | b V z j k =>
    simp only [plD, Bool.and_eq_true] at hy
    rcases okV_cases hy.1 with rfl | rfl
    · exact (nil_loop z j k).mono fun z hz => ⟨(), trivial, hz⟩
    · exact (plays_loop ht z j hy.2).mono fun z hz => ⟨(), trivial, hz⟩
  | o V z j => exact (none_loop hy z j).mono fun z hz => ⟨(), trivial, hz⟩

theorem plays_gives (ht : TabOk a b c d) (s1 s2 : Int) {V : AVal} (hV : okV a V = true) :
    Gives Try.prog (tabS a b c d) ra base 0 3 [.int .i64 s1, .int .u8 s2, V] (hp 0 []) fun v _ => v = .bool true := by
  have hE := tabS_plain a b c d
  have hS := S3_ok (ra := ra) (base := base) hE
  have hT := T3_ok (ra := ra) (base := base) ht
  rcases okV_cases hV with rfl | rfl
  · refine gives_of_treeQ hE (W_ok hS noL_ok) hT (hp_below _) (plays_call0 s1 s2 a b c d) ?_
    cases hb : newOk s1 <;> cases hb2 : newOk (wr .i64 (1 + wr .i64 (Int.tmod s2 16))) <;>
      simp only [TreeQ.holds, decide_true, Bool.and_self, Bool.and_true, Bool.true_and, true_and, hb, hb2, hV, Bool.not_false, Bool.not_true, forall_const, reduceCtorEq, false_implies, and_true, true_implies]
    all_goals exact ⟨_, rfl, rfl⟩
  · refine gives_of_treeQ hE (W_ok hS noL_ok) hT (hp_below _) (plays_call s1 s2 a.length a b c d) ?_
    cases hb : newOk s1 <;> cases hb2 : newOk (wr .i64 (1 + wr .i64 (Int.tmod s2 16))) <;>
      simp only [TreeQ.holds, decide_true, Bool.and_self, Bool.and_true, Bool.true_and, true_and, hb, hb2, hV, Bool.not_false, Bool.not_true, forall_const, reduceCtorEq, false_implies, and_true, true_implies]
    all_goals exact ⟨_, rfl, rfl⟩
end

end Go.Proofs.Ytoahbijmemgghaa
