/- front: FrontOrder: each channel's marks are its own; its loops. -/
import Derived.Test.YtnnbbjfbhigcfaaP23c
import Derived.Test.YtnnbbjfbhigcfaaT23c
set_option linter.unusedSimpArgs false
namespace Go.Proofs.Ytnnbbjfbhigcfaa
open Ab

theorem setI_take (c : List Int) (n i : Nat) (b : Int) : (c.set i b).take n = (c.take n).set i b := by
  apply List.ext_getElem?
  intro j
  simp only [List.getElem?_take, List.getElem?_set, List.length_take]
  by_cases h1 : j < n
  · by_cases h2 : i = j
    · subst h2
      by_cases h3 : i < c.length
      · simp [h1, h3]; omega
      · simp [h1, h3]; omega
    · simp [h1, h2]
  · by_cases h2 : i = j
    · subst h2; simp [h1]; omega
    · simp [h1, h2]

theorem mark_l {x : Fr} (h : okFr x = true) {I A : Int} (h0 : 0 ≤ I) (h1 : I < x.n) : okFr (x.mark I A) = true ∧ (x.mark I A).l = x.l.set I.toNat (stepM (x.l.getD I.toNat 0) A) := by
  obtain ⟨g1, g2, g3⟩ := okFr_facts h
  have hl := l_len h
  by_cases k : A < x.l.getD I.toNat 0 ∨ 1152921504606846976 < A
  · have he : markE x.l I A = 12 := by rw [markE, if_neg (by omega), if_pos k]
    have e : x.mark I A = x := by rw [Fr.mark, he, putI, if_neg (by decide)]
    rw [e]
    refine ⟨h, ?_⟩
    have hi : I.toNat < x.l.length := by omega
    rw [stepM, if_pos k, getD_at hi, List.set_getElem_self]
  · have he : markE x.l I A = 0 := by rw [markE, if_neg (by omega), if_neg k]
    have e : x.mark I A = { x with c := x.c.set I.toNat A } := by rw [Fr.mark, he, putI, if_pos rfl]
    rw [e, stepM, if_neg k]
    refine ⟨?_, setI_take _ _ _ _⟩
    simp only [okFr, List.length_set, Bool.and_eq_true, decide_eq_true_eq]; exact ⟨g1, g2, g3⟩

theorem set_range (f : Nat → Int) (M j : Nat) (b : Int) : ((List.range M).map f).set j b = (List.range M).map fun k => if k = j then b else f k := by
  apply List.ext_getElem?
  intro k
  simp only [List.getElem?_set, List.length_map, List.length_range, List.getElem?_map]
  by_cases h : j = k
  · subst h
    by_cases h2 : j < M
    · simp [h2]
    · simp [h2]
  · by_cases h2 : k < M
    · simp [h, h2, Ne.symm h]
    · simp [h, h2]

theorem getD_range (f : Nat → Int) {M j : Nat} (h : j < M) : ((List.range M).map f).getD j 0 = f j := getD_map_range 0 h

theorem map_range_congr {f g : Nat → Int} {M : Nat} (h : ∀ k, k < M → f k = g k) : (List.range M).map f = (List.range M).map g :=
  List.map_congr_left fun k hk => h k (List.mem_range.1 hk)

variable {T : Tb} {N : Int}

theorem want_succ {i : Nat} (h0 : 0 ≤ chan T N i) (h1 : chan T N i < N) : wantL T N (i + 1) = (wantL T N i).set (chan T N i).toNat (stepM ((wantL T N i).getD (chan T N i).toNat 0) (T.a.getD i 0)) := by
  rw [wantL, wantL, getD_range _ (by omega), set_range]
  refine map_range_congr fun k hk => ?_
  simp only [acc]
  by_cases e : k = (chan T N i).toNat
  · rw [if_pos e, if_pos (by omega), ← e]
  · rw [if_neg e, if_neg (by omega)]

theorem inn_succ {m c i : Nat} (hc : (c : Int) < N) : innL T N m c (i + 1) = if chan T N i = c then (innL T N m c i).set c (stepM ((innL T N m c i).getD c 0) (T.a.getD i 0)) else innL T N m c i := by
  have hg : (innL T N m c i).getD c 0 = acc T N c i := by
    rw [innL, getD_range _ (by omega)]; simp
  by_cases e : chan T N i = c
  · rw [if_pos e, hg, innL, innL, set_range]
    refine map_range_congr fun k hk => ?_
    by_cases e1 : k < c
    · rw [if_pos e1, if_neg (by omega), if_pos e1]
    · by_cases e2 : k = c
      · subst e2; rw [if_neg e1, if_pos rfl, if_pos rfl, acc, if_pos e]
      · rw [if_neg e1, if_neg e2, if_neg e2, if_neg e1, if_neg e2]
  · rw [if_neg e, innL, innL]
    refine map_range_congr fun k hk => ?_
    rw [acc, if_neg e]

theorem inn_zero (m c : Nat) : innL T N m c 0 = lowL T N m (c + 1) := map_range_congr fun k hk => by
  by_cases e1 : k < c
  · rw [if_pos e1, if_pos (by omega)]
  · by_cases e2 : k = c
    · rw [if_neg e1, if_pos e2, if_pos (by omega), acc]
    · rw [if_neg e1, if_neg e2, if_neg (by omega)]
theorem inn_end (m c : Nat) : innL T N m c m = lowL T N m c := map_range_congr fun k hk => by
  by_cases e1 : k < c
  · rw [if_pos e1, if_pos e1]
  · by_cases e2 : k = c
    · rw [if_neg e1, if_pos e2, if_neg e1, e2]
    · rw [if_neg e1, if_neg e2, if_neg e1]
theorem low_all (m : Nat) : lowL T N m N.toNat = wantL T N 0 := map_range_congr fun k hk => by rw [if_pos hk, acc]
theorem low_none (m : Nat) : lowL T N m 0 = wantL T N m := map_range_congr fun k hk => by rw [if_neg (Nat.not_lt_zero _)]

theorem st_facts {x : Fr} {l : List Int} (h : st N x l = true) : okFr x = true ∧ x.n = N ∧ x.t = 0 ∧ x.l = l := by
  simp only [st, Bool.and_eq_true, decide_eq_true_eq] at h
  exact ⟨h.1, h.2.1, h.2.2.1, h.2.2.2⟩
theorem st_of {x : Fr} {l : List Int} (h1 : okFr x = true) (h2 : x.n = N) (h3 : x.t = 0) (h4 : x.l = l) : st N x l = true := by
  simp only [st, Bool.and_eq_true, decide_eq_true_eq]
  exact ⟨h1, h2, h3, h4⟩

theorem chan_in (hw : ∀ v ∈ T.w, 0 ≤ v ∧ v < 256) (hN : 1 ≤ N) (i : Nat) : 0 ≤ chan T N i ∧ chan T N i < N := by
  have : 0 ≤ T.w.getD i 0 ∧ T.w.getD i 0 < 256 := by
    rw [List.getD_eq_getElem?_getD]
    cases h : T.w[i]? with
    | none => exact ⟨by decide, by decide⟩
    | some v => exact hw v (List.mem_of_getElem? h)
  rw [chan, wr_in ⟨by omega, by omega⟩, Int.tmod_eq_emod_of_nonneg this.1]
  exact ⟨Int.emod_nonneg _ (by omega), Int.emod_lt_of_pos _ (by omega)⟩

theorem okVm_cases {V : AVal} (h : okVm T V = true) : V = .nils ∨ ∃ n, V = .slice (.ro 0 0 0 0) n none ∧ n ≤ T.w.length ∧ n ≤ 60 := by
  unfold okVm at h
  split at h
  · exact .inl rfl
  · rename_i n
    simp only [Bool.and_eq_true, decide_eq_true_eq] at h
    exact .inr ⟨n, rfl, h⟩
  · cases h

section
variable {ra : Nat → Nat → Nat × Nat} {base : Nat}

theorem S4_ok : SumsOK Try.prog (tabF T) ra base (S4 T) := by
  have hE := tabF_plain T
  refine sumG_deal hE S3_ok ⟨_, Try.func14, by kernel_rfl⟩ fun x hx => ?_
  have hx' : okFr x = true := hx
  obtain ⟨h1, h2, h3⟩ := okFr_facts hx'
  refine (gives_of_tree hE wT S3_ok (hp_below _) (marks_call T x) ?_).2
  have hb : Nat.beq x.n.toNat 0 = false := by
    cases hh : Nat.beq x.n.toNat 0 with
    | false => rfl
    | true => have := Nat.eq_of_beq_eq_true hh; omega
  simp only [Tree.holds, hb, Bool.and_eq_true, decide_eq_true_eq, reduceCtorEq, false_implies, true_and, true_implies]
  refine ⟨⟨by omega, by omega⟩, ⟨by omega, by omega⟩, by omega, by omega, _, rfl, rfl, rfl⟩

theorem w4 : ExecOK Try.prog (tabF T) ra base (W (tabF T) (S4 T) noL) := wS S4_ok

theorem ra_takes (hw : ∀ v ∈ T.w, 0 ≤ v ∧ v < 256) (a : RA) (hV : okVm T a.V = true) (hx : st a.N a.x (wantL T a.N 0) = true) (hN : 1 ≤ a.N) :
    Takes Try.prog (tabF T) ra base 0 (.loop (codeOf 4 (false :: q1))) (mkT 178 (raI a ++ [(8, .int .i64 0)])) (hp 0 (raB a)) fun z => PostL 178 a z (raD T).alts := by
  have hE := tabF_plain T
  obtain ⟨V, N, c, x, y⟩ := a
  simp only at hV hx hN
  rcases okVm_cases hV with rfl | ⟨m, rfl, g1, g2⟩
  · refine takes_loop (fun j ts h => j = 1 ∧ ts = mkT 178 (raI ⟨.nils, N, c, x, y⟩ ++ [(8, .int .i64 0)]) ∧ h = hp 0 (raB ⟨.nils, N, c, x, y⟩)) (fun ts h => by rintro ⟨h, _⟩; omega) (fun j ts h' => ?_) (j := 1) ⟨rfl, rfl, rfl⟩
    rintro ⟨_, rfl, rfl⟩
    refine takes_of_tree hE w4 (f := 4) (.inr (by kernel_rfl)) (hp_below _) (ra_round0 T N c 0 x y) ?_
    exact ⟨rfl, x, hx, rfl⟩
  · refine takes_loop (fun j ts h => ∃ (i : Nat) (x' : Fr), i ≤ m ∧ j = m - i + 1 ∧ st N x' (wantL T N i) = true ∧ ts = mkT 178 (raI ⟨.slice (.ro 0 0 0 0) m none, N, c, x, y⟩ ++ [(8, .int .i64 i)]) ∧ h = hp 0 [x'.blk, y.blk]) (fun ts h => by rintro ⟨i, x', _, h, _⟩; omega) (fun j ts h' => ?_) (j := m + 1) ⟨0, x, by omega, rfl, hx, rfl, rfl⟩
    rintro ⟨i, x', k1, k2, k3, rfl, rfl⟩
    obtain ⟨o1, o2, o3, o4⟩ := st_facts k3
    have hwi : wr .i64 ((i : Int) + 1) = ((i + 1 : Nat) : Int) := by rw [wr_in ⟨by omega, by omega⟩]; omega
    obtain ⟨c1, c2⟩ := chan_in hw hN i
    obtain ⟨m1, m2⟩ := mark_l o1 (I := chan T N i) (A := T.a.getD i 0) c1 (by omega)
    refine takes_of_tree hE w4 (f := 4) (.inr (by kernel_rfl)) (hp_below _) (ra_round T m N c i x' y) ?_
    rw [toNat_nat]
    simp only [Tree.holds, decide_true, Bool.and_self, Bool.and_true, Bool.true_and, true_and, o1, decide_eq_true_eq, decide_eq_false_iff_not, Bool.and_eq_true, hwi]
    refine ⟨fun q1 => ⟨⟨by omega, by omega⟩, by omega, fun e => by omega, ⟨by omega, by omega⟩, by omega, ?_⟩, fun q1 => ?_⟩
    · refine ⟨i + 1, x'.mark (chan T N i) (T.a.getD i 0), by omega, by omega, st_of m1 o2 o3 ?_, rfl, rfl⟩
      rw [m2, o4, ← want_succ c1 c2]
    · have : i = m := by omega
      subst this
      exact ⟨x', k3, rfl⟩

theorem rc_takes (hw : ∀ v ∈ T.w, 0 ≤ v ∧ v < 256) (a : RA) (hV : okVm T a.V = true) (hc : 0 ≤ a.c) (hc' : a.c < a.N) (hy : st a.N a.y (lowL T a.N (lenV a.V) (a.c.toNat + 1)) = true) :
    Takes Try.prog (tabF T) ra base 0 (.loop (codeOf 4 (false :: q3))) (mkT 178 (raI a ++ [(9, .int .i64 a.c), (10, .int .i64 0)])) (hp 0 (raB a)) fun z => PostL 178 a z (rcD T).alts := by
  have hE := tabF_plain T
  obtain ⟨V, N, c, x, y⟩ := a
  simp only at hV hc hc' hy
  obtain ⟨c, rfl⟩ : ∃ k : Nat, c = (k : Int) := ⟨c.toNat, by omega⟩
  rw [Int.toNat_natCast, ← inn_zero] at hy
  rcases okVm_cases hV with rfl | ⟨m, rfl, g1, g2⟩
  · refine takes_loop (fun j ts h => j = 1 ∧ ts = mkT 178 (raI ⟨.nils, N, c, x, y⟩ ++ [(9, .int .i64 c), (10, .int .i64 0)]) ∧ h = hp 0 (raB ⟨.nils, N, c, x, y⟩)) (fun ts h => by rintro ⟨h, _⟩; omega) (fun j ts h' => ?_) (j := 1) ⟨rfl, rfl, rfl⟩
    rintro ⟨_, rfl, rfl⟩
    refine takes_of_tree hE w4 (f := 4) (.inr (by kernel_rfl)) (hp_below _) (rc_round0 T N c 0 x y) ?_
    exact ⟨rfl, y, by show st N y (lowL T N 0 ((c : Int)).toNat) = true; rw [Int.toNat_natCast, ← inn_end]; exact hy, rfl⟩
  · refine takes_loop (fun j ts h => ∃ (i : Nat) (y' : Fr), i ≤ m ∧ j = m - i + 1 ∧ st N y' (innL T N m c i) = true ∧ ts = mkT 178 (raI ⟨.slice (.ro 0 0 0 0) m none, N, c, x, y⟩ ++ [(9, .int .i64 c), (10, .int .i64 i)]) ∧ h = hp 0 [x.blk, y'.blk]) (fun ts h => by rintro ⟨i, x', _, h, _⟩; omega) (fun j ts h' => ?_) (j := m + 1) ⟨0, y, by omega, rfl, hy, rfl, rfl⟩
    rintro ⟨i, y', k1, k2, k3, rfl, rfl⟩
    obtain ⟨o1, o2, o3, o4⟩ := st_facts k3
    have hwi : wr .i64 ((i : Int) + 1) = ((i + 1 : Nat) : Int) := by rw [wr_in ⟨by omega, by omega⟩]; omega
    obtain ⟨m1, m2⟩ := mark_l o1 (I := c) (A := T.a.getD i 0) (by omega) (by omega)
    have hs := inn_succ (T := T) (N := N) (m := m) (c := c) (i := i) hc'
    refine takes_of_tree hE w4 (f := 4) (.inr (by kernel_rfl)) (hp_below _) (rc_round T m N c i x y') ?_
    rw [toNat_nat]
    simp only [Tree.holds, decide_true, Bool.and_self, Bool.and_true, Bool.true_and, true_and, o1, decide_eq_true_eq, decide_eq_false_iff_not, Bool.and_eq_true, hwi]
    refine ⟨fun q1 => ⟨⟨by omega, by omega⟩, by omega, fun e => by omega, fun q2 => ⟨⟨by omega, by omega⟩, by omega, ?_⟩, fun q2 => ?_⟩, fun q1 => ?_⟩
    · refine ⟨i + 1, y'.mark c (T.a.getD i 0), by omega, by omega, st_of m1 o2 o3 ?_, rfl, rfl⟩
      have q2' : chan T N i = c := q2
      rw [m2, o4, hs, if_pos q2', Int.toNat_natCast]
    · refine ⟨i + 1, y', by omega, by omega, st_of o1 o2 o3 ?_, rfl, rfl⟩
      have q2' : ¬ chan T N i = c := q2
      rw [o4, hs, if_neg q2']
    · have : i = m := by omega
      subst this
      exact ⟨y', by show st N y' (lowL T N i ((c : Int)).toNat) = true; rw [Int.toNat_natCast, ← inn_end]; exact k3, rfl⟩

theorem TC_ok (hw : ∀ v ∈ T.w, 0 ≤ v ∧ v < 256) : ToldsOK Try.prog (tabF T) ra base 0 (TC T) := by
  refine sumT_ok noT_ok rfl (toldR_ok (c := .loop (codeOf 4 (false :: q3))) (by kernel_rfl) fun a ha => ?_)
  simp only [rcD, Bool.and_eq_true, decide_eq_true_eq] at ha
  exact rc_takes hw a ha.1 ha.2.2.1 ha.2.2.2.1 ha.2.2.2.2

theorem rb_takes (hw : ∀ v ∈ T.w, 0 ≤ v ∧ v < 256) (a : RA) (hV : okVm T a.V = true) (hx : okFr a.x = true) (hy : st a.N a.y (wantL T a.N 0) = true) :
    Takes Try.prog (tabF T) ra base 0 (.loop (codeOf 4 (false :: q2))) (mkT 178 (raI a ++ [(9, .int .i64 (wr .i64 (a.N - 1)))])) (hp 0 (raB a)) fun z => PostL 178 a z (rbD T).alts := by
  have hE := tabF_plain T
  obtain ⟨V, N, c, x, y⟩ := a
  simp only at hV hx hy
  obtain ⟨y1, y2, _, _⟩ := st_facts hy
  obtain ⟨_, y3, y4⟩ := okFr_facts y1
  rw [y2] at y3 y4
  have hN : wr .i64 (N - 1) = ((N.toNat : Nat) : Int) - 1 := by rw [wr_in ⟨by omega, by omega⟩]; omega
  rw [hN]
  refine takes_loop (fun j ts h => ∃ (k : Nat) (y' : Fr), (k : Int) ≤ N ∧ j = k + 1 ∧ st N y' (lowL T N (lenV V) k) = true ∧ ts = mkT 178 (raI ⟨V, N, c, x, y⟩ ++ [(9, .int .i64 ((k : Int) - 1))]) ∧ h = hp 0 [x.blk, y'.blk]) (fun ts h => by rintro ⟨k, y', _, h, _⟩; omega) (fun j ts h' => ?_) (j := N.toNat + 1)
    ⟨N.toNat, y, by omega, rfl, by rw [low_all]; exact hy, rfl, rfl⟩
  rintro ⟨k, y', k1, k2, k3, rfl, rfl⟩
  have hwk : wr .i64 ((k : Int) - 1 - 1) = ((k - 1 : Nat) : Int) - 1 ∨ k = 0 := by
    by_cases h0 : k = 0
    · exact .inr h0
    · exact .inl (by rw [wr_in ⟨by omega, by omega⟩]; omega)
  have hst : 0 ≤ (k : Int) - 1 → st N y' (lowL T N (lenV V) (((k : Int) - 1).toNat + 1)) = true := fun h => by
    have : ((k : Int) - 1).toNat + 1 = k := by omega
    rw [this]; exact k3
  have hkt : ((k : Int) - 1).toNat = k - 1 := by omega
  rcases okVm_cases hV with rfl | ⟨m, rfl, g1, g2⟩
  · refine takes_of_treeQ hE w4 (TC_ok hw) (f := 4) (.inr (by kernel_rfl)) (hp_below _) (rb_round0 T N ((k : Int) - 1) 0 x y') ?_
    refine ⟨fun q1 => ?_, fun q1 => ?_⟩
    · have q1 := of_decide_eq_true q1
      have e1 : decide (0 ≤ (k : Int) - 1) = true := decide_eq_true q1
      have e2 : decide ((k : Int) - 1 < N) = true := decide_eq_true (by omega)
      simp only [TreeQ.holds, decide_true, Bool.and_self, Bool.and_true, Bool.true_and, true_and, hV, hx, e1, e2, hst q1]
      intro y1 hy1
      rw [hkt] at hy1
      exact ⟨k - 1, y1, by omega, by omega, hy1, by rw [hwk.resolve_right (by omega)]; rfl, rfl⟩
    · have q1 := of_decide_eq_false q1
      have : k = 0 := by omega
      subst this
      exact ⟨y', by show st N y' (wantL T N (lenV .nils)) = true; rw [← low_none]; exact k3, rfl⟩
  · refine takes_of_treeQ hE w4 (TC_ok hw) (f := 4) (.inr (by kernel_rfl)) (hp_below _) (rb_round T m N ((k : Int) - 1) 0 x y') ?_
    refine ⟨fun q1 => ?_, fun q1 => ?_⟩
    · have q1 := of_decide_eq_true q1
      have e1 : decide (0 ≤ (k : Int) - 1) = true := decide_eq_true q1
      have e2 : decide ((k : Int) - 1 < N) = true := decide_eq_true (by omega)
      simp only [TreeQ.holds, decide_true, Bool.and_self, Bool.and_true, Bool.true_and, true_and, hV, hx, e1, e2, hst q1]
      intro y1 hy1
      rw [hkt] at hy1
      exact ⟨k - 1, y1, by omega, by omega, hy1, by rw [hwk.resolve_right (by omega)]; rfl, rfl⟩
    · have q1 := of_decide_eq_false q1
      have : k = 0 := by omega
      subst this
      exact ⟨y', by show st N y' (wantL T N (lenV (.slice (.ro 0 0 0 0) m none))) = true; rw [← low_none]; exact k3, rfl⟩
end

end Go.Proofs.Ytnnbbjfbhigcfaa
