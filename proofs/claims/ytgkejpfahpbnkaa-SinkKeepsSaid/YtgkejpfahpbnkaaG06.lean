/- Parts of the walk: sink: the law's loop: what holds (no program in sight); sink: the law's loop: what holds stays so; sink: sealing: what holds; sink: the law's loop: what is chosen is done; sink: the law's loop: what is forgotten; codes; sink: the law's loop: a round; sink: the law's loop: a round, and all; sink: the end: what it has; sink: the end: trees. -/
import Derived.Test.YtgkejpfahpbnkaaG05
import Derived.Test.YtgkejpfahpbnkaaG03

set_option linter.unusedSimpArgs false
set_option linter.unusedVariables false
namespace Go.Proofs.Ytgkejpfahpbnkaa
open Ab
theorem take_set' {α : Type} (l : List α) (n i : Nat) (a : α) : (l.set i a).take n = (l.take n).set i a := by
  rw [List.take_set]
theorem ep_eq {l t : Int} (hl : 1 ≤ l) (h0 : 0 ≤ t) (h1 : t ≤ 4611686018427387904) : ep l t = t / l := by
  have h2 : 0 ≤ t / l := Int.ediv_nonneg h0 (by omega)
  have h3 : t / l ≤ t := Int.ediv_le_self _ h0
  rw [ep, Int.tdiv_eq_ediv_of_nonneg h0, wr_in ⟨by omega, by omega⟩]
theorem ep_mono {l s t : Int} (hl : 1 ≤ l) (h0 : 0 ≤ s) (h : s ≤ t) (h1 : t ≤ 4611686018427387904) : ep l s ≤ ep l t := by
  rw [ep_eq hl h0 (by omega), ep_eq hl (by omega) h1]
  exact Int.ediv_le_ediv (by omega) h
theorem ep_le {l t : Int} (hl : 1 ≤ l) (h0 : 0 ≤ t) (h1 : t ≤ 4611686018427387904) : 0 ≤ ep l t ∧ ep l t ≤ t := by
  rw [ep_eq hl h0 h1]
  exact ⟨Int.ediv_nonneg h0 (by omega), Int.ediv_le_self _ h0⟩
theorem ne0_of {l : Int} (h : 1 ≤ l) : ne0 l = true := decide_eq_true (by omega)
theorem least_le : ∀ (l : List Int) (v : Int), leastL v l ≤ v ∧ ∀ t ∈ l, leastL v l ≤ t
  | [], v => ⟨Int.le_refl _, fun t ht => by simp at ht⟩
  | a :: l, v => by
    obtain ⟨h1, h2⟩ := least_le l (if a < v then a else v)
    have e : leastL v (a :: l) = leastL (if a < v then a else v) l := rfl
    rw [e]
    by_cases h : a < v
    · rw [if_pos h] at h1 h2 ⊢
      refine ⟨by omega, fun t ht => ?_⟩
      rcases List.mem_cons.1 ht with rfl | ht
      · exact h1
      · exact h2 t ht
    · rw [if_neg h] at h1 h2 ⊢
      refine ⟨h1, fun t ht => ?_⟩
      rcases List.mem_cons.1 ht with rfl | ht
      · omega
      · exact h2 t ht
theorem least_mem : ∀ (l : List Int) (v : Int), leastL v l = v ∨ leastL v l ∈ l
  | [], v => .inl rfl
  | a :: l, v => by
    have e : leastL v (a :: l) = leastL (if a < v then a else v) l := rfl
    rw [e]
    rcases least_mem l (if a < v then a else v) with h | h
    · rw [h]
      split
      · exact .inr (List.mem_cons_self ..)
      · exact .inl rfl
    · exact .inr (List.mem_cons_of_mem _ h)
theorem minF_spec {x : Fr} (h : okFr x = true) : minF x ∈ x.l ∧ ∀ t ∈ x.l, minF x ≤ t := by
  obtain ⟨h1, h2, h3⟩ := okFr_facts h
  have hl := l_len h
  refine ⟨?_, (least_le _ _).2⟩
  have hc : x.c.getD 0 0 ∈ x.l := by
    have : x.l[0]? = some (x.c.getD 0 0) := by
      rw [Fr.l, List.getElem?_take, if_pos (by omega), List.getD_eq_getElem?_getD, List.getElem?_eq_getElem (by omega)]; rfl
    exact List.mem_of_getElem? this
  rcases least_mem x.l (x.c.getD 0 0) with e | e
  · rw [minF, e]; exact hc
  · exact e
theorem ql_len {q : Ql} (h : q.ok = true) : q.l.length = q.len := by
  obtain ⟨nl, li, n, m, c⟩ := q
  cases nl
  · cases li
    · obtain ⟨_, _, g1, g2, g3⟩ := q_facts h rfl
      exact L_len g2
    · rfl
  · rfl
theorem app_spec {q : Ql} {r : Rc} (h : q.ok = true) (hn : q.len ≤ 1000) : (q.app r).ok = true ∧ (q.app r).l = q.l ++ [r] ∧ (q.app r).len = q.len + 1 := by
  obtain ⟨nl, li, n, m, c⟩ := q
  have one : Ql.ok ⟨false, false, 1, 1, cols [r]⟩ = true ∧ Ql.l ⟨false, false, 1, 1, cols [r]⟩ = [r] := ⟨rfl, gr_l [r]⟩
  cases nl
  · cases li
    · obtain ⟨_, _, g1, g2, g3⟩ := q_facts h rfl
      have hL := L_len (c := c) g2
      obtain ⟨t1, t2⟩ := take_cols g1 g2
      have e : c.snoc n r = cols ((c.un m).take n ++ [r]) := by
        have e1 : c.take n = cols ((c.un m).take n) := by rw [← t2]; exact (cols_un t1).symm
        have e2 : c.snoc n r = (c.take n).snoc n r := by simp [C6.snoc, C6.take, List.take_take]
        rw [e2, e1]
        have := snoc_cols ((c.un m).take n) r
        rw [hL] at this
        exact this
      have hlen : ((c.un m).take n ++ [r]).length = n + 1 := by rw [List.length_append, hL]; rfl
      refine ⟨?_, ?_, rfl⟩
      · show ((c.snoc n r).wf (n + 1) && (decide (n + 1 ≤ n + 1) && decide (n + 1 ≤ big))) = true
        have : n + 1 ≤ big := by have : n ≤ 1000 := hn; unfold big; omega
        rw [e, wf_of hlen, decide_eq_true (Nat.le_refl _), decide_eq_true this]; rfl
      · show ((c.snoc n r).un (n + 1)).take (n + 1) = (c.un m).take n ++ [r]
        rw [e, un_of hlen, List.take_of_length_le (Nat.le_of_eq hlen)]
    · exact ⟨one.1, one.2, rfl⟩
  · exact ⟨one.1, one.2, rfl⟩
theorem tk_spec {c : C6} {m n : Nat} (hw : c.wf m = true) (h : n ≤ m) : (c.tk n).wf n = true := (take_cols hw h).1
theorem ap_wf {a b : C6} {n m : Nat} (h1 : a.wf n = true) (h2 : b.wf m = true) : (a.ap b).wf (n + m) = true := by
  simp only [C6.wf, Bool.and_eq_true, decide_eq_true_eq] at h1 h2 ⊢
  simp only [C6.ap, List.length_append]
  omega
theorem cat_spec {g r : Ql} (hg : g.gn = true) (hr : r.gn = true) (h1 : g.ok = true) (h2 : r.ok = true) (hn : g.len + r.len ≤ 100000) : (g.cat r).gn = true ∧ (g.cat r).ok = true ∧ (g.cat r).len = g.len + r.len := by
  obtain ⟨a1, a2, n1, m1, c1⟩ := g
  obtain ⟨b1, b2, n2, m2, c2⟩ := r
  cases a1 <;> cases b1
  · cases a2 <;> cases b2 <;> first | (simp [Ql.gn] at hg; done) | (simp [Ql.gn] at hr; done) | skip
    obtain ⟨_, _, g1, g2, g3⟩ := q_facts h1 rfl
    obtain ⟨_, _, k1, k2, k3⟩ := q_facts h2 rfl
    have hb : n1 + n2 ≤ big := by have : n1 + n2 ≤ 100000 := hn; unfold big; omega
    refine ⟨rfl, ?_, rfl⟩
    show (((c1.tk n1).ap (c2.tk n2)).wf (n1 + n2) && (decide (n1 + n2 ≤ n1 + n2) && decide (n1 + n2 ≤ big))) = true
    rw [ap_wf (tk_spec g1 g2) (tk_spec k1 k2), decide_eq_true (Nat.le_refl _), decide_eq_true hb]; rfl
  · cases a2
    · obtain ⟨_, _, g1, g2, g3⟩ := q_facts h1 rfl
      have hb : n1 + 0 ≤ big := by omega
      refine ⟨rfl, ?_, rfl⟩
      show (((c1.tk n1).ap ⟨[], [], [], [], [], []⟩).wf (n1 + 0) && (decide (n1 + 0 ≤ n1 + 0) && decide (n1 + 0 ≤ big))) = true
      rw [ap_wf (tk_spec g1 g2) (show C6.wf 0 ⟨[], [], [], [], [], []⟩ = true from rfl), decide_eq_true (Nat.le_refl _), decide_eq_true hb]; rfl
    · simp [Ql.gn] at hg
  · cases b2
    · obtain ⟨_, _, k1, k2, k3⟩ := q_facts h2 rfl
      have hb : n2 ≤ big := by omega
      refine ⟨rfl, ?_, by show n2 = 0 + n2; omega⟩
      show ((c2.tk n2).wf n2 && (decide (n2 ≤ n2) && decide (n2 ≤ big))) = true
      rw [tk_spec k1 k2, decide_eq_true (Nat.le_refl _), decide_eq_true hb]; rfl
    · simp [Ql.gn] at hr
  · exact ⟨rfl, rfl, rfl⟩
theorem e1_l {q : Ql} (h : q.e1 = true) : q.l = [] ∧ q.len = 0 := by
  obtain ⟨nl, li, n, m, c⟩ := q
  cases nl
  · cases li
    · have hz : n = 0 := Nat.eq_of_beq_eq_true (by simpa [Ql.e1, Ql.none] using h)
      subst hz
      exact ⟨rfl, rfl⟩
    · exact ⟨rfl, rfl⟩
  · simp [Ql.e1] at h
theorem full_of {q : Ql} (h : q.e1 = false) : q.full = true := by
  obtain ⟨nl, li, n, m, c⟩ := q
  cases nl
  · cases li
    · cases n with
      | zero => simp [Ql.e1, Ql.none, Nat.beq] at h
      | succ n => simp [Ql.full]
    · simp [Ql.e1, Ql.none] at h
  · rfl
theorem srt_spec {q : Ql} (h : q.ok = true) (hf : q.full = true) : q.srt.ok = true ∧ (∀ r, r ∈ q.srt.l ↔ r ∈ q.l) ∧ q.srt.len = q.len ∧ q.srt.l = isort q.l ∧ q.srt.full = true ∧ q.srt.gn = true := by
  obtain ⟨nl, li, n, m, c⟩ := q
  cases nl
  · cases li
    · obtain ⟨_, _, g1, g2, g3⟩ := q_facts h rfl
      have hL := L_len (c := c) g2
      have hlen : (isort ((c.un m).take n)).length = n := by rw [isort_length, hL]
      have hl : Ql.l (Ql.srt ⟨false, false, n, m, c⟩) = isort ((c.un m).take n) := by
        show ((cols (isort ((c.un m).take n))).un n).take n = _
        rw [un_of hlen, List.take_of_length_le (Nat.le_of_eq hlen)]
      refine ⟨?_, fun r => ?_, rfl, hl, hf, rfl⟩
      · show ((cols (isort ((c.un m).take n))).wf n && (decide (n ≤ n) && decide (n ≤ big))) = true
        rw [wf_of hlen, decide_eq_true (Nat.le_refl _), decide_eq_true (show n ≤ big by omega)]; rfl
      · rw [hl]; exact (isort_perm _).mem_iff
    · simp [Ql.full] at hf
  · exact ⟨rfl, fun r => Iff.rfl, rfl, rfl, rfl, rfl⟩
theorem cln_spec {q : Ql} (h : q.ok = true) (hf : q.full = true) : q.cln.ok = true ∧ q.cln.l = q.l ∧ q.cln.len = q.len := by
  obtain ⟨nl, li, n, m, c⟩ := q
  cases nl
  · cases li
    · obtain ⟨_, _, g1, g2, g3⟩ := q_facts h rfl
      obtain ⟨t1, t2⟩ := take_cols g1 g2
      refine ⟨?_, ?_, rfl⟩
      · show ((c.take n).wf n && (decide (n ≤ n) && decide (n ≤ big))) = true
        rw [t1, decide_eq_true (Nat.le_refl _), decide_eq_true (show n ≤ big by omega)]; rfl
      · show ((c.take n).un n).take n = (c.un m).take n
        rw [t2, List.take_take, Nat.min_self]
    · simp [Ql.full] at hf
  · exact ⟨rfl, rfl, rfl⟩
theorem go_kp_len (l T : Int) : ∀ L : List Rc, (go l T L).length + (kp l T L).length = L.length
  | [] => rfl
  | r :: L => by
    have := go_kp_len l T L
    simp only [go, kp] at this ⊢
    cases h : goneB l T r <;> simp [List.filter_cons, h] <;> omega
theorem rest_spec {q : Ql} {K : List Rc} (h : q.ok = true) (hK : K.length ≤ q.l.length) (hs : q.g = false → K = []) : (q.rest K).ok = true ∧ (q.rest K).l = K ∧ (q.rest K).len = K.length := by
  obtain ⟨nl, li, n, m, c⟩ := q
  cases nl
  · cases li
    · obtain ⟨_, _, g1, g2, g3⟩ := q_facts h rfl
      have hL := L_len (c := c) g2
      have hk : K.length ≤ n := by rw [show Ql.l ⟨false, false, n, m, c⟩ = (c.un m).take n from rfl] at hK; omega
      have hlen : (K ++ (List.replicate (n - K.length) z6 ++ (c.un m).drop n)).length = m := by
        simp only [List.length_append, List.length_replicate, List.length_drop, un_len]; omega
      refine ⟨?_, ?_, rfl⟩
      · show ((cols _).wf m && (decide (K.length ≤ m) && decide (m ≤ big))) = true
        rw [wf_of hlen, decide_eq_true (show K.length ≤ m by omega), decide_eq_true g3]; rfl
      · show ((cols _).un m).take K.length = K
        rw [un_of hlen, List.take_left]
    · rw [hs rfl]; exact ⟨rfl, rfl, rfl⟩
  · rw [hs rfl]; exact ⟨rfl, rfl, rfl⟩
end Go.Proofs.Ytgkejpfahpbnkaa

namespace Go.Proofs.Ytgkejpfahpbnkaa
open Ab
structure LI (y : Lw) (b : Int) : Prop where
  w : 1 ≤ y.w ∧ y.w ≤ 3
  sz : 1 ≤ y.sz ∧ y.sz ≤ 50
  len : y.x.len = y.sz
  f : okFr y.x.f = true
  fn : y.x.f.n = y.w
  fl : y.x.f.l = y.M
  a : okAl y.x.a = true
  an : y.x.a.n = y.w
  am : y.x.a.m = 0
  ap : y.x.a.p = y.C.take y.w.toNat
  C : y.C.length = 3
  al : 0 ≤ y.x.a.l ∧ y.x.a.l ≤ b
  q : y.x.q.ok = true
  g : y.g.gn = true ∧ y.g.ok = true
  M : ∀ t ∈ y.M, 0 ≤ t ∧ t ≤ 256 * b
  bb : 0 ≤ b ∧ b ≤ 500
  un : y.x.und = y.un
  free : y.un = false → ∀ c ∈ y.x.a.p, c = false
  dn : y.x.done = y.dn ∧ 0 ≤ y.dn
  low : ∀ t ∈ y.M, y.dn ≤ ep y.sz t
  pend : ∀ r ∈ y.x.q.l, 0 ≤ r.t ∧ r.t ≤ 256 * b ∧ y.dn ≤ ep y.sz r.t
  cnt : y.tk = (y.g.len : Int) + y.x.q.len ∧ y.tk ≤ b
theorem LI.up {y : Lw} {b : Int} (h : LI y b) (hb : b + 1 ≤ 500) : LI y (b + 1) :=
  ⟨h.w, h.sz, h.len, h.f, h.fn, h.fl, h.a, h.an, h.am, h.ap, h.C, ⟨h.al.1, by have := h.al.2; omega⟩, h.q, h.g, fun t ht => ⟨(h.M t ht).1, by have := (h.M t ht).2; omega⟩, ⟨by have := h.bb.1; omega, hb⟩, h.un, h.free, h.dn, h.low, fun r hr => ⟨(h.pend r hr).1, by have := (h.pend r hr).2.1; omega, (h.pend r hr).2.2⟩, ⟨h.cnt.1, by have := h.cnt.2; omega⟩⟩
theorem LI.ok {y : Lw} {b : Int} (h : LI y b) : okSk y.x = true := by
  simp only [okSk, Bool.and_eq_true]; exact ⟨h.f, h.a, h.q⟩
theorem LI.ov {y : Lw} {b : Int} (h : LI y b) : okOv y.x = true := by
  simp only [okOv, Bool.and_eq_true]; exact ⟨h.ok, by rw [h.len]; exact ne0_of h.sz.1⟩
theorem LI.Ml {y : Lw} {b : Int} (h : LI y b) : (y.M.length : Int) = y.w := by rw [← h.fl, l_len h.f, h.fn]
theorem LI.tm {y : Lw} {b : Int} (h : LI y b) {t : Int} (ht : t ∈ y.M) : 0 ≤ t ∧ t ≤ 128000 := by have := h.M t ht; have := h.bb; omega
theorem LI.qlen {y : Lw} {b : Int} (h : LI y b) : y.x.q.len ≤ 500 ∧ y.g.len ≤ 500 := by have := h.cnt; have := h.bb; omega
theorem LI.freeI {y : Lw} {b : Int} (h : LI y b) {i : Int} (h0 : 0 ≤ i) (h1 : i < y.w) (hc : y.C.getD i.toNat false = false) : y.x.free i = true := by
  simp only [Sk.free, Bool.and_eq_true, decide_eq_true_eq, Bool.not_eq_true']
  refine ⟨h0, by rw [h.fn]; exact h1, ?_⟩
  have : y.x.a.p.getD i.toNat false = false := by rw [h.ap, getD_take (by omega)]; exact hc
  rw [isB, this, Bool.and_false, Bool.and_false]
theorem tg_mem {L : List Int} {i : Int} (h0 : 0 ≤ i) (h1 : i < L.length) : tg L i ∈ L := by
  have : i.toNat < L.length := by omega
  rw [tg, ix, Nat.zero_add, getD_at this]; exact List.getElem_mem this
theorem LI.took {y : Lw} {b : Int} (h : LI y b) (hb : b + 1 ≤ 500) {r : Rc} (h0 : 0 ≤ r.t) (h1 : r.t ≤ 256 * (b + 1)) (h2 : y.dn ≤ ep y.sz r.t) : LI (y.took r) (b + 1) := by
  have u := h.up hb
  obtain ⟨a1, a2, a3⟩ := app_spec (r := r) h.q (by have := h.qlen; omega)
  have hw : wr .i64 (y.tk + 1) = y.tk + 1 := by have := h.cnt; have := h.bb; exact wr_in ⟨by omega, by omega⟩
  refine ⟨h.w, h.sz, h.len, h.f, h.fn, h.fl, h.a, h.an, h.am, h.ap, h.C, u.al, a1, h.g, u.M, u.bb, h.un, h.free, h.dn, h.low, fun s hs => ?_, ?_⟩
  · replace hs : s ∈ (y.x.q.app r).l := hs
    rw [a2] at hs
    rcases List.mem_append.1 hs with hs | hs
    · exact u.pend s hs
    · rw [List.mem_singleton] at hs; subst hs; exact ⟨h0, h1, h2⟩
  · show wr .i64 (y.tk + 1) = (y.g.len : Int) + ((y.x.q.app r).len : Nat) ∧ wr .i64 (y.tk + 1) ≤ b + 1
    rw [hw, a3]; have := h.cnt; omega
theorem LI.recr {y : Lw} {b : Int} (h : LI y b) (hb : b + 1 ≤ 500) {u : Ch} {i : Int} (hu : 0 ≤ u.c ∧ u.c ≤ 255) (h0 : 0 ≤ i) (h1 : i < y.w) : LI (y.took (y.recr u i)) (b + 1) := by
  have hm := tg_mem (L := y.M) h0 (by rw [h.Ml]; exact h1)
  have ht := h.tm hm
  have hM := h.M _ hm
  have hw : wr .i64 (tg y.M i + wr .i64 u.c) = tg y.M i + u.c := by rw [wr_in (v := u.c) ⟨by omega, by omega⟩, wr_in ⟨by omega, by omega⟩]
  have e : (y.recr u i).t = tg y.M i + u.c := hw
  refine h.took hb (by omega) (by omega) ?_
  rw [e]
  exact Int.le_trans (h.low _ hm) (ep_mono h.sz.1 ht.1 (by omega) (by omega))
theorem LI.minM {y : Lw} {b : Int} (h : LI y b) : minF y.x.f ∈ y.M ∧ ∀ t ∈ y.M, minF y.x.f ≤ t := by rw [← h.fl]; exact minF_spec h.f
theorem LI.sttr {y : Lw} {b : Int} (h : LI y b) (hb : b + 1 ≤ 500) {u : Ch} (hu : 0 ≤ u.c ∧ u.c ≤ 255) : LI (y.took (y.sttr u)) (b + 1) := by
  have hm := h.minM.1
  have ht := h.tm hm
  have hM := h.M _ hm
  have hw : wr .i64 (minF y.x.f + wr .i64 u.c) = minF y.x.f + u.c := by rw [wr_in (v := u.c) ⟨by omega, by omega⟩, wr_in ⟨by omega, by omega⟩]
  have e : (y.sttr u).t = minF y.x.f + u.c := hw
  refine h.took hb (by omega) (by omega) ?_
  rw [e]
  exact Int.le_trans (h.low _ hm) (ep_mono h.sz.1 ht.1 (by omega) (by omega))
theorem fr_mark {x : Fr} (h : okFr x = true) {i v : Int} (h0 : 0 ≤ i) (h1 : i < x.n) (h2 : x.l.getD i.toNat 0 ≤ v) (h3 : v ≤ 1152921504606846976) : markE x.l i v = 0 ∧ okFr (x.mark i v) = true ∧ (x.mark i v).l = x.l.set i.toNat v ∧ (x.mark i v).n = x.n := by
  obtain ⟨f1, f2, f3⟩ := okFr_facts h
  have hl := l_len h
  have he : markE x.l i v = 0 := by rw [markE, if_neg (by omega), if_neg (by omega)]
  have e : x.mark i v = { x with c := x.c.set i.toNat v } := by rw [Fr.mark, he, putI, if_pos rfl]
  refine ⟨he, ?_, ?_, by rw [e]⟩
  · rw [e]
    simp only [okFr, List.length_set, Bool.and_eq_true, decide_eq_true_eq]
    exact ⟨f1, f2, f3⟩
  · rw [e]; exact take_set' _ _ _ _
theorem al_come {x : Al} (h : okAl x = true) {i k : Int} (h0 : 0 ≤ i) (h1 : i < x.n) (h2 : x.p.getD i.toNat false = false) (h3 : wr .i64 (k - 1) = x.l) : comeE x.p x.l i k = 0 ∧ okAl (x.come i k) = true ∧ (x.come i k).p = x.p.set i.toNat true ∧ (x.come i k).n = x.n ∧ (x.come i k).l = x.l := by
  obtain ⟨a1, a2, a3, a4, a5, a6⟩ := okAl_facts h
  have hl := (p_len h).1
  have he : comeE x.p x.l i k = 0 := by rw [comeE, if_neg (by omega), h2, if_neg (by decide), if_neg (fun hh => hh h3)]
  have e : x.come i k = { x with c := x.c.set i.toNat true } := by rw [Al.come, he, putB, if_pos rfl]
  refine ⟨he, ?_, ?_, by rw [e], by rw [e]⟩
  · rw [e]
    simp only [okAl, List.length_set, Bool.and_eq_true, decide_eq_true_eq]
    exact ⟨a1, a2, a3, a4, a5, a6⟩
  · rw [e]; exact take_set' _ _ _ _
theorem LI.mkv {y : Lw} {b : Int} (h : LI y b) {u : Ch} {i : Int} (hu : 0 ≤ u.c ∧ u.c ≤ 255) (h0 : 0 ≤ i) (h1 : i < y.w) : tg (y.mk1 u i) i = tg y.M i + u.c ∧ y.mk1 u i = y.M.set i.toNat (tg y.M i + u.c) ∧ y.x.f.l.getD i.toNat 0 ≤ tg y.M i + u.c ∧ tg y.M i + u.c ≤ 256 * (b + 1) ∧ 0 ≤ tg y.M i := by
  have hml := h.Ml
  have hm := tg_mem (L := y.M) h0 (by rw [hml]; exact h1)
  have ht := h.tm hm
  have hM := h.M _ hm
  have hw : wr .i64 (tg y.M i + wr .i64 u.c) = tg y.M i + u.c := by rw [wr_in (v := u.c) ⟨by omega, by omega⟩, wr_in ⟨by omega, by omega⟩]
  have e : y.mk1 u i = y.M.set i.toNat (tg y.M i + u.c) := by rw [Lw.mk1, hw, ix, Nat.zero_add]
  refine ⟨?_, e, ?_, by omega, ht.1⟩
  · rw [e, tg, ix, Nat.zero_add, List.getD_eq_getElem?_getD, List.getElem?_set_self (by omega)]; rfl
  · rw [h.fl]
    have : y.M.getD i.toNat 0 = tg y.M i := by rw [tg, ix, Nat.zero_add]
    omega
theorem LI.mark {y : Lw} {b : Int} (h : LI y b) (hb : b + 1 ≤ 500) {u : Ch} {i : Int} (hu : 0 ≤ u.c ∧ u.c ≤ 255) (h0 : 0 ≤ i) (h1 : i < y.w) : LI (y.mark u i) (b + 1) := by
  have up := h.up hb
  obtain ⟨v1, v2, v3, v4, v5⟩ := h.mkv hu h0 h1
  obtain ⟨m1, m2, m3, m4⟩ := fr_mark h.f (i := i) (v := tg (y.mk1 u i) i) h0 (by rw [h.fn]; exact h1) (by rw [v1]; exact v3) (by rw [v1]; have := h.bb; omega)
  have hm := tg_mem (L := y.M) h0 (by rw [h.Ml]; exact h1)
  refine ⟨h.w, h.sz, h.len, m2, m4.trans h.fn, ?_, h.a, h.an, h.am, h.ap, h.C, up.al, h.q, h.g, fun t ht => ?_, up.bb, h.un, h.free, h.dn, fun t ht => ?_, up.pend, up.cnt⟩
  · show (y.x.f.mark i _).l = y.mk1 u i
    rw [m3, v1, v2, h.fl]
  · replace ht : t ∈ y.mk1 u i := ht
    rw [v2] at ht
    rcases List.mem_or_eq_of_mem_set ht with ht | rfl
    · exact up.M t ht
    · omega
  · replace ht : t ∈ y.mk1 u i := ht
    rw [v2] at ht
    rcases List.mem_or_eq_of_mem_set ht with ht | rfl
    · exact h.low t ht
    · exact Int.le_trans (h.low _ hm) (ep_mono h.sz.1 v5 (by omega) (by have := h.bb; omega))
theorem LI.beg {y : Lw} {b : Int} (h : LI y b) : LI y.beg b :=
  ⟨h.w, h.sz, h.len, h.f, h.fn, h.fl, h.a, h.an, h.am, h.ap, h.C, h.al, h.q, h.g, h.M, h.bb, rfl, fun e => (by cases e), h.dn, h.low, h.pend, h.cnt⟩
theorem wr_back {l : Int} (h : 0 ≤ l ∧ l ≤ 1000000) : wr .i64 (wr .i64 (l + 1) - 1) = l := by
  rw [wr_in (v := l + 1) ⟨by omega, by omega⟩, wr_in ⟨by omega, by omega⟩]; omega
theorem LI.lastE {y : Lw} {b : Int} (h : LI y b) : wr .i64 (wr .i64 (y.x.a.l + 1) - 1) = y.x.a.l := wr_back ⟨h.al.1, by have := h.al.2; have := h.bb; omega⟩
theorem LI.bar {y : Lw} {b : Int} (h : LI y b) {i : Int} (h0 : 0 ≤ i) (h1 : i < y.w) (hc : y.C.getD i.toNat false = false) (hu : y.un = true) : LI (y.bar i) b ∧ comeE y.x.a.p y.x.a.l i (wr .i64 (y.x.a.l + 1)) = 0 := by
  have hp : y.x.a.p.getD i.toNat false = false := by rw [h.ap, getD_take (by omega)]; exact hc
  obtain ⟨c1, c2, c3, c4, c5⟩ := al_come h.a (i := i) (k := wr .i64 (y.x.a.l + 1)) h0 (by rw [h.an]; exact h1) hp h.lastE
  refine ⟨⟨h.w, h.sz, h.len, h.f, h.fn, h.fl, c2, c4.trans h.an, h.am, ?_, ?_, ?_, h.q, h.g, h.M, h.bb, h.un, fun e => absurd (hu.symm.trans e) (by decide), h.dn, h.low, h.pend, h.cnt⟩, c1⟩
  · show (y.x.a.come i _).p = (List.set y.C i.toNat true).take y.w.toNat
    rw [c3, h.ap, take_set']
  · show (List.set y.C i.toNat true).length = 3
    rw [List.length_set]; exact h.C
  · show 0 ≤ (y.x.a.come i _).l ∧ (y.x.a.come i _).l ≤ b
    rw [c5]; exact h.al
theorem all_false_rep : ∀ {l : List Bool}, (∀ c ∈ l, c = false) → l = List.replicate l.length false
  | [], _ => rfl
  | a :: l, h => by
    have h1 := h a (List.mem_cons_self ..)
    subst h1
    have := all_false_rep (l := l) fun c hc => h c (List.mem_cons_of_mem _ hc)
    rw [List.length_cons, List.replicate_succ, ← this]
theorem mkFr_spec {M : List Int} (h : okM M = true) : okFr (mkFr M) = true ∧ (mkFr M).l = M := by
  obtain ⟨h1, h2, h3⟩ := okM_facts h
  constructor
  · have e1 : (M ++ List.replicate (16 - M.length) (0 : Int)).length = 16 := by rw [List.length_append, List.length_replicate]; omega
    show (decide ((M ++ List.replicate (16 - M.length) (0 : Int)).length = 16) && (decide (1 ≤ (M.length : Int)) && decide ((M.length : Int) ≤ 16))) = true
    rw [e1, decide_eq_true (show 1 ≤ (M.length : Int) by omega), decide_eq_true (show (M.length : Int) ≤ 16 by omega)]; rfl
  · show (M ++ List.replicate (16 - M.length) 0).take (M.length : Int).toNat = M
    rw [Int.toNat_natCast, List.take_left]
theorem LI.okM {y : Lw} {b : Int} (h : LI y b) : okM y.x.f.l = true := by
  have hl := l_len h.f
  simp only [Go.Proofs.Ytgkejpfahpbnkaa.okM, Bool.and_eq_true, decide_eq_true_eq, List.all_eq_true]
  obtain ⟨f1, f2, f3⟩ := okFr_facts h.f
  refine ⟨by omega, by omega, fun t ht => ?_⟩
  rw [h.fl] at ht
  have := h.tm ht
  omega
theorem LI.okNw {y : Lw} {b : Int} (h : LI y b) {q : Ql} (hq : q.ok = true) : okNw (y.nw q) = true := by
  have hl := l_len h.f
  have hd := h.low _ h.minM.1
  have ht := h.tm h.minM.1
  have he := ep_le h.sz.1 ht.1 (by omega)
  simp only [Go.Proofs.Ytgkejpfahpbnkaa.okNw, Bool.and_eq_true, decide_eq_true_eq]
  refine ⟨hq, h.okM, ?_, h.sz.1, ?_, ?_, ?_, h.al.1⟩
  · show y.x.f.l.length ≤ 3
    rw [h.fn] at hl; have := h.w; omega
  · show y.sz ≤ 1073741824
    have := h.sz; omega
  · show 0 ≤ y.x.done
    rw [h.dn.1]; exact h.dn.2
  · show y.x.done ≤ 1152921504606846976
    rw [h.dn.1]; omega
theorem LI.anew {y : Lw} {b : Int} (h : LI y b) (hu : y.un = false) {q q' : Ql} (hq : q.ok = true) (hs : ∀ r ∈ q.l, r ∈ y.x.q.l) (hl : q.len = y.x.q.len) : LI { y with x := (y.nw q').sk q } b := by
  obtain ⟨m1, m2⟩ := mkFr_spec h.okM
  have hn := l_len h.f
  have hp : (newAl ⟨(y.x.f.l.length : Int), 0, y.x.a.l⟩).p = y.C.take y.w.toNat := by
    have e := all_false_rep (h.free hu)
    rw [h.ap] at e
    rw [e]
    show (List.replicate 16 false).take (y.x.f.l.length : Int).toNat = _
    rw [List.take_replicate, List.length_take, h.C]
    congr 1
    rw [h.fn] at hn; have := h.w; omega
  refine ⟨h.w, h.sz, rfl, m1, ?_, ?_, ?_, ?_, rfl, hp, h.C, h.al, hq, h.g, h.M, h.bb, hu.symm, fun _ c hc => ?_, h.dn, h.low, fun r hr => h.pend r (hs r hr), ?_⟩
  · show (y.x.f.l.length : Int) = y.w
    rw [hn, h.fn]
  · show (mkFr y.x.f.l).l = y.M
    rw [m2, h.fl]
  · rw [h.fn] at hn
    have := h.w
    show (decide ((List.replicate 16 false).length = 16) && (decide ((List.replicate 16 false).length = 16) && (decide (0 ≤ (y.x.f.l.length : Int)) && (decide ((y.x.f.l.length : Int) ≤ 16) && (decide ((0 : Int) ≤ 0) && decide ((0 : Int) ≤ 16)))))) = true
    rw [decide_eq_true (show 0 ≤ (y.x.f.l.length : Int) by omega), decide_eq_true (show (y.x.f.l.length : Int) ≤ 16 by omega)]; rfl
  · show (y.x.f.l.length : Int) = y.w
    rw [hn, h.fn]
  · replace hc : c ∈ (newAl ⟨(y.x.f.l.length : Int), 0, y.x.a.l⟩).p := hc
    exact (List.mem_replicate.1 (List.mem_of_mem_take hc)).2
  · show y.tk = (y.g.len : Int) + (q.len : Nat) ∧ y.tk ≤ b
    rw [hl]; exact h.cnt
end Go.Proofs.Ytgkejpfahpbnkaa

namespace Go.Proofs.Ytgkejpfahpbnkaa
open Ab
theorem overL_ge (l : Int) : ∀ (L : List Rc) (d : Int), d ≤ overL l d L
  | [], d => Int.le_refl _
  | r :: L, d => by
    have h := overL_ge l L (mx d (wr .i64 (ep l r.t + 1)))
    have e : overL l d (r :: L) = overL l (mx d (wr .i64 (ep l r.t + 1))) L := rfl
    rw [e]
    have : d ≤ mx d (wr .i64 (ep l r.t + 1)) := by unfold mx; split <;> omega
    omega
theorem overL_gt (l : Int) : ∀ (L : List Rc) (d : Int), ∀ r ∈ L, wr .i64 (ep l r.t + 1) ≤ overL l d L
  | [], d, r, hr => by simp at hr
  | a :: L, d, r, hr => by
    have e : overL l d (a :: L) = overL l (mx d (wr .i64 (ep l a.t + 1))) L := rfl
    rw [e]
    rcases List.mem_cons.1 hr with rfl | hr
    · have h := overL_ge l L (mx d (wr .i64 (ep l r.t + 1)))
      have : wr .i64 (ep l r.t + 1) ≤ mx d (wr .i64 (ep l r.t + 1)) := by unfold mx; split <;> omega
      omega
    · exact overL_gt l L _ r hr
theorem over_ge (x : Sk) : x.done ≤ x.over := by
  unfold Sk.over
  split
  · unfold mx; split <;> omega
  · exact overL_ge _ _ _
theorem mem_kp {l T : Int} {L : List Rc} {r : Rc} (h : r ∈ kp l T L) : r ∈ L ∧ T ≤ ep l r.t := by
  simp only [kp, List.mem_filter, goneB, Bool.not_eq_true', decide_eq_false_iff_not] at h
  exact ⟨h.1, by omega⟩
theorem mem_go {l T : Int} {L : List Rc} {r : Rc} (h : r ∈ go l T L) : r ∈ L ∧ ep l r.t < T := by
  simp only [go, List.mem_filter, goneB, decide_eq_true_eq] at h
  exact h
theorem tms_isort (L : List Rc) : tmS (isort L) := (isort_sd L).imp fun h => le_time h
theorem sk_q {x : Sk} (hq : x.q.ok = true) : x.sld.q.ok = true ∧ x.sld.q.l = x.kpL ∧ x.sld.q.len = x.kpL.length ∧ x.goL.length + x.kpL.length = x.q.len := by
  have h := go_kp_len x.len x.over x.q.l
  rw [ql_len hq] at h
  obtain ⟨r1, r2, r3⟩ := rest_spec (q := x.q) (K := x.kpL) hq (by rw [ql_len hq]; show (kp _ _ _).length ≤ _; omega) (fun hg => by
    have : x.q.l = [] := by
      obtain ⟨f, a, ⟨nl, li, n, m, c⟩, l, d, u⟩ := x
      cases nl
      · cases li
        · cases hg
        · rfl
      · rfl
    rw [Sk.kpL, this]; rfl)
  exact ⟨r1, r2, r3, h⟩
theorem sk_s2 {x : Sk} (hq : x.q.ok = true) (hl : 1 ≤ x.len) (hp : ∀ r ∈ x.q.l, x.done ≤ ep x.len r.t) : okS2 ⟨x.se nilQ, x.len⟩ = true ∧ okS2 ⟨x.se (Ql.gr (isort x.goL)), x.len⟩ = true := by
  constructor
  · show (true && (true && (ne0 x.len && (true && true)))) = true
    rw [ne0_of hl]; rfl
  · have hlen : (isort x.goL).length ≤ big := by
      have h := (sk_q hq).2.2.2
      have : x.q.len ≤ big := by
        obtain ⟨f, a, ⟨nl, li, n, m, c⟩, l, d, u⟩ := x
        cases nl
        · cases li
          · obtain ⟨_, _, g1, g2, g3⟩ := q_facts hq rfl
            exact Nat.le_trans g2 g3
          · exact Nat.zero_le _
        · exact Nat.zero_le _
      rw [isort_length]; omega
    have ha : (isort x.goL).all (inE x.len x.done x.over) = true := by
      rw [List.all_eq_true]
      intro r hr
      have hm := mem_go ((isort_perm _).mem_iff.1 hr)
      rw [inE, decide_eq_true (hp r hm.1), decide_eq_true hm.2]; rfl
    show (true && ((Ql.gr (isort x.goL)).ok && (ne0 x.len && ((Ql.gr (isort x.goL)).l.all (inE x.len x.done x.over) && decide (tmS (Ql.gr (isort x.goL)).l))))) = true
    rw [gr_ok hlen, ne0_of hl, gr_l, ha, decide_eq_true (tms_isort _)]; rfl
theorem al_done {x : Al} (h : okAl x = true) (h3 : phaseL x.p x.q = 3) : okAl x.done = true ∧ x.done.n = x.n ∧ x.done.l = wr .i64 (x.l + 1) ∧ x.done.p = List.replicate (min x.n.toNat 16) false ∧ x.done.m = x.m := by
  obtain ⟨a1, a2, a3, a4, a5, a6⟩ := okAl_facts h
  have e : x.done = ⟨List.replicate 16 false, List.replicate 16 false, x.n, x.m, wr .i64 (x.l + 1)⟩ := by rw [Al.done, if_pos h3]
  refine ⟨?_, by rw [e], by rw [e], ?_, by rw [e]⟩
  · rw [e]
    show (decide ((List.replicate 16 false).length = 16) && (decide ((List.replicate 16 false).length = 16) && (decide (0 ≤ x.n) && (decide (x.n ≤ 16) && (decide (0 ≤ x.m) && decide (x.m ≤ 16)))))) = true
    rw [decide_eq_true a3, decide_eq_true a4, decide_eq_true a5, decide_eq_true a6]; rfl
  · rw [e]; exact List.take_replicate ..
theorem LI.over {y : Lw} {b : Int} (h : LI y b) : y.x.over = ep y.sz (minF y.x.f) := by
  have ht := h.tm h.minM.1
  have hl := h.low _ h.minM.1
  rw [Sk.over, if_pos (by omega), h.len, h.dn.1, mx]
  split <;> omega
theorem LI.pend' {y : Lw} {b : Int} (h : LI y b) : ∀ r ∈ y.x.q.l, y.x.done ≤ ep y.x.len r.t := fun r hr => by rw [h.dn.1, h.len]; exact (h.pend r hr).2.2
theorem set3 {C : List Bool} (h : C.length = 3) : ((C.set 0 false).set 1 false).set 2 false = List.replicate 3 false := by
  match C, h with
  | [a, b, c], _ => rfl
theorem LI.sld {y : Lw} {b : Int} (h : LI y b) (hb : b + 1 ≤ 500) (hr : y.x.rdy = true) {r : Ql} (r1 : r.gn = true) (r2 : r.ok = true) (r3 : r.len = y.x.goL.length) : LI (y.sealed r) (b + 1) := by
  have u := h.up hb
  obtain ⟨q1, q2, q3, q4⟩ := sk_q h.q
  simp only [Sk.rdy, Bool.and_eq_true, decide_eq_true_eq] at hr
  obtain ⟨d1, d2, d3, d4, d5⟩ := al_done h.a hr.2
  have hql := h.qlen
  obtain ⟨g1, g2, g3⟩ := cat_spec h.g.1 r1 h.g.2 r2 (by rw [r3]; omega)
  have ho := h.over
  have ht := h.tm h.minM.1
  have hlw : wr .i64 (y.x.a.l + 1) = y.x.a.l + 1 := by have := h.al; have := h.bb; exact wr_in ⟨by omega, by omega⟩
  refine ⟨h.w, h.sz, h.len, h.f, h.fn, h.fl, d1, d2.trans h.an, d5.trans h.am, ?_, ?_, ?_, q1, ⟨g1, g2⟩, u.M, u.bb, rfl, fun _ c hc => ?_, ⟨rfl, ?_⟩, fun t htm => ?_, fun s hs => ?_, ?_⟩
  · show y.x.a.done.p = (((y.C.set 0 false).set 1 false).set 2 false).take y.w.toNat
    rw [d4, set3 h.C, List.take_replicate, h.an]
    congr 1
    have := h.w; omega
  · show (((y.C.set 0 false).set 1 false).set 2 false).length = 3
    rw [set3 h.C]; rfl
  · show 0 ≤ y.x.a.done.l ∧ y.x.a.done.l ≤ b + 1
    rw [d3, hlw]; have := h.al; omega
  · replace hc : c ∈ y.x.a.done.p := hc
    rw [d4] at hc
    exact (List.mem_replicate.1 hc).2
  · show 0 ≤ y.x.over
    rw [ho]; exact (ep_le h.sz.1 ht.1 (by omega)).1
  · show y.x.over ≤ ep y.sz t
    rw [ho]
    have htt := h.tm htm
    exact ep_mono h.sz.1 ht.1 (h.minM.2 t htm) (by omega)
  · replace hs : s ∈ y.x.sld.q.l := hs
    rw [q2] at hs
    obtain ⟨m1, m2⟩ := mem_kp hs
    have := u.pend s m1
    exact ⟨this.1, this.2.1, by rw [h.len] at m2; exact m2⟩
  · show y.tk = (((y.g.cat r).len : Nat) : Int) + (y.x.sld.q.len : Nat) ∧ y.tk ≤ b + 1
    rw [g3, q3, r3]; have := h.cnt; omega
end Go.Proofs.Ytgkejpfahpbnkaa

namespace Go.Proofs.Ytgkejpfahpbnkaa
open Ab
def Same (y y' : Lw) : Prop := y'.n = y.n ∧ y'.w = y.w ∧ y'.sz = y.sz ∧ y'.i = y.i
def Nx (y : Lw) (b : Int) (z : State) : Prop := ∃ y', LI y' b ∧ Same y y' ∧ z = (.normal, mkT 246 (y'.ts [(19, .int .i64 0)]), hp 0 y'.bs)
theorem lf19_ok {y y' : Lw} {b : Int} (h : LI y' b) (hs : Same y y') : (lf19 y').holds (Nx y b) := ⟨y', h, hs, rfl⟩
theorem cmT_ok {y : Lw} {b : Int} {h : Int} {t : Tree State} (hb : b + 1 ≤ 500) (hy : LI y b) (h0 : 0 ≤ h) (h1 : h < y.w) (ht : y.C.getD h.toNat false = false → t.holds (Nx y (b + 1))) : (cmT y h t).holds (Nx y (b + 1)) := by
  have := hy.w
  refine ⟨inL_in ⟨h0, by omega⟩, decide_eq_true (by omega), fun hc => ht (by simpa using hc), fun _ => lf19_ok (hy.up hb) ⟨rfl, rfl, rfl, rfl⟩⟩
theorem okT_ok {y : Lw} {b : Int} {h : Int} {t : Tree State} {Q : State → Prop} (hy : LI y b) (h0 : 0 ≤ h) (h1 : h < y.w) (hc : y.C.getD h.toNat false = false) (ht : t.holds Q) : (okT y h t).holds Q := by
  have hf := hy.freeI h0 h1 hc
  obtain ⟨f1, f2, f3⟩ := free_facts hf
  have := hy.w
  exact btT (decide_eq_false (by omega)) (ndT (eB_eq rfl) (ndT hy.f (btT (decide_eq_false (by omega)) (ndT (eB_eq rfl) (ndT (eV_eq _) (ndT hy.a (btT f3 ht)))))))
theorem shape (q : Ql) : q.nil = true ∨ (q.nil = false ∧ q.lit = true) ∨ (q.nil = false ∧ q.lit = false) := by
  cases q.nil <;> cases q.lit <;> simp
theorem gwT_ok {y : Lw} {b : Int} {t : Tree State} {Q : State → Prop} (hy : LI y b) (hn : y.x.q.nil = false) (hl : y.x.q.lit = false) (ht : t.holds Q) : (gwT y t).holds Q := by
  have hq := hy.q
  have hk := hy.qlen.1
  obtain ⟨⟨f, a, ⟨nl, li, n, m, c⟩, l, d, u⟩, M, C, g, N, w, sz, tk, un, dn, i⟩ := y
  simp only at hn hl
  subst hn; subst hl
  obtain ⟨_, _, g1, g2, g3⟩ := q_facts hq rfl
  replace hk : n ≤ 500 := hk
  exact ndT (decide_eq_true (by show (n + 1) * 32 ≤ _; omega)) (ndT (decide_eq_true (by show 0 + n ≤ m; omega)) ht)
theorem stS_ok {y : Lw} {b : Int} {p : Bool} {t : Tree State} {Q : State → Prop} (hy : LI y b) (hp : p = true) (ht : t.holds Q) : (stS y p t).holds Q :=
  ndT (eB_eq sk_blks) (ndT (by rw [hy.ok, hp]; rfl) ht)
section
variable {E : Nat → Nat → Seg} {ra : Nat → Nat → Nat × Nat} {base : Nat}
theorem rec_takes (hE : Plain E) {y : Lw} {b : Int} (hb : b + 1 ≤ 500) (hy : LI y b) {u : Ch} (hu : 0 ≤ u.c ∧ u.c ≤ 255) {h : Int} (h0 : 0 ≤ h) (h1 : h < y.w) :
    Takes Try.prog E ra base 0 (codeOf 3 prec) (mkT 246 (y.ts [(17, .ptr (.own y.len 0 0 0)), (18, .int .i64 h), (19, .int .i64 0)])) (hp 0 (y.bs ++ [u.blk])) (Nx y (b + 1)) := by
  have hw := hy.w
  have in1 : inL h y.w.toNat = true := inL_in ⟨h0, by omega⟩
  have in2 : nL h y.w.toNat = true := nL_in ⟨h0, by omega⟩
  have fin := lf19_ok (y := y) (hy.recr hb hu h0 h1) ⟨rfl, rfl, rfl, rfl⟩
  rcases shape y.x.q with hq | ⟨hn, hl⟩ | ⟨hn, hl⟩
  · exact takes_of_tree hE (wE hE (SB_ok hE)) (f := 3) (.inr (by kernel_rfl)) (hp_below _) (t_recN E y hy.g.1 hq u h) (cmT_ok hb hy h0 h1 fun hc => ndT in1 (ndT in2 (okT_ok hy h0 h1 hc fin)))
  · exact takes_of_tree hE (wE hE (SB_ok hE)) (f := 3) (.inr (by kernel_rfl)) (hp_below _) (t_recL E y hy.g.1 hn hl u h) (cmT_ok hb hy h0 h1 fun hc => ndT in1 (ndT in2 (okT_ok hy h0 h1 hc fin)))
  · exact takes_of_tree hE (wE hE (SB_ok hE)) (f := 3) (.inr (by kernel_rfl)) (hp_below _) (t_recG E y hy.g.1 hn hl u h) (cmT_ok hb hy h0 h1 fun hc => ndT in1 (ndT in2 (okT_ok hy h0 h1 hc (gwT_ok hy hn hl fin))))
theorem stt_takes (hE : Plain E) {y : Lw} {b : Int} (hb : b + 1 ≤ 500) (hy : LI y b) {u : Ch} (hu : 0 ≤ u.c ∧ u.c ≤ 255) :
    Takes Try.prog E ra base 0 (codeOf 3 pstt) (mkT 246 (y.ts [(17, .ptr (.own y.len 0 0 0)), (19, .int .i64 0)])) (hp 0 (y.bs ++ [u.blk])) (Nx y (b + 1)) := by
  have fin := lf19_ok (y := y) (hy.sttr hb hu) ⟨rfl, rfl, rfl, rfl⟩
  have no := lf19_ok (y := y) (hy.up hb) ⟨rfl, rfl, rfl, rfl⟩
  have hx : y.un = false → y.x.und = false := fun e => hy.un.trans e
  rcases shape y.x.q with hq | ⟨hn, hl⟩ | ⟨hn, hl⟩
  · exact takes_of_tree hE (wE hE (SN_ok hE)) (f := 3) (.inr (by kernel_rfl)) (hp_below _) (t_sttN E y hy.g.1 hq u) ⟨fun hc => ndT (eB_eq rfl) (ndT hy.f (btT (hx (by simpa using hc)) fin)), fun _ => no⟩
  · exact takes_of_tree hE (wE hE (SN_ok hE)) (f := 3) (.inr (by kernel_rfl)) (hp_below _) (t_sttL E y hy.g.1 hn hl u) ⟨fun hc => ndT (eB_eq rfl) (ndT hy.f (btT (hx (by simpa using hc)) fin)), fun _ => no⟩
  · exact takes_of_tree hE (wE hE (SN_ok hE)) (f := 3) (.inr (by kernel_rfl)) (hp_below _) (t_sttG E y hy.g.1 hn hl u) ⟨fun hc => ndT (eB_eq rfl) (ndT hy.f (btT (hx (by simpa using hc)) (gwT_ok hy hn hl fin))), fun _ => no⟩
theorem mrk_takes (hE : Plain E) {y : Lw} {b : Int} (hb : b + 1 ≤ 500) (hy : LI y b) {u : Ch} (hu : 0 ≤ u.c ∧ u.c ≤ 255) {h : Int} (h0 : 0 ≤ h) (h1 : h < y.w) :
    Takes Try.prog E ra base 0 (codeOf 3 pmrk) (mkT 246 (y.ts [(17, .ptr (.own y.len 0 0 0)), (18, .int .i64 h), (19, .int .i64 0)])) (hp 0 (y.bs ++ [u.blk])) (Nx y (b + 1)) := by
  have hw := hy.w
  have in1 : inL h y.w.toNat = true := inL_in ⟨h0, by omega⟩
  have in2 : nL h y.w.toNat = true := nL_in ⟨h0, by omega⟩
  obtain ⟨v1, v2, v3, v4, v5⟩ := hy.mkv hu h0 h1
  have he := (fr_mark hy.f (i := h) (v := tg (y.mk1 u h) h) h0 (by rw [hy.fn]; exact h1) (by rw [v1]; exact v3) (by rw [v1]; omega)).1
  have pre : y.C.getD h.toNat false = false → tmD.pre ⟨y.x, h, tg (y.mk1 u h) h, 1⟩ = true := fun hc => by
    simp only [tmD, Bool.and_eq_true, decide_eq_true_eq]
    exact ⟨hy.ok, hy.freeI h0 h1 hc, he⟩
  have fin := lf19_ok (y := y) (hy.mark hb hu h0 h1) ⟨rfl, rfl, rfl, rfl⟩
  rcases shape y.x.q with hq | ⟨hn, hl⟩ | ⟨hn, hl⟩
  · exact takes_of_tree hE (wE hE (SN_ok hE)) (f := 3) (.inr (by kernel_rfl)) (hp_below _) (t_mrkN E y hy.g.1 hq u h) (cmT_ok hb hy h0 h1 fun hc => ndT in1 (ndT in2 (ndT in1 (ndT in2 (ndT in1 (ndT in2 (ndT (eB_eq sk_blks) (ndT (eV_eq _) (ndT (pre hc) fin)))))))))
  · exact takes_of_tree hE (wE hE (SN_ok hE)) (f := 3) (.inr (by kernel_rfl)) (hp_below _) (t_mrkL E y hy.g.1 hn hl u h) (cmT_ok hb hy h0 h1 fun hc => ndT in1 (ndT in2 (ndT in1 (ndT in2 (ndT in1 (ndT in2 (ndT (eB_eq sk_blks) (ndT (eV_eq _) (ndT (pre hc) fin)))))))))
  · exact takes_of_tree hE (wE hE (SN_ok hE)) (f := 3) (.inr (by kernel_rfl)) (hp_below _) (t_mrkG E y hy.g.1 hn hl u h) (cmT_ok hb hy h0 h1 fun hc => ndT in1 (ndT in2 (ndT in1 (ndT in2 (ndT in1 (ndT in2 (ndT (eB_eq sk_blks) (ndT (eV_eq _) (ndT (pre hc) fin)))))))))
theorem beg_takes (hE : Plain E) {y : Lw} {b : Int} (hb : b + 1 ≤ 500) (hy : LI y b) :
    Takes Try.prog E ra base 0 (codeOf 3 pbeg) (mkT 246 (y.ts [(19, .int .i64 0)])) (hp 0 y.bs) (Nx y (b + 1)) := by
  have fin := lf19_ok (y := y) (hy.beg.up hb) ⟨rfl, rfl, rfl, rfl⟩
  have no := lf19_ok (y := y) (hy.up hb) ⟨rfl, rfl, rfl, rfl⟩
  have pre : y.un = false → beginD.pre ⟨y.x, wr .i64 (y.x.a.l + 1), 0, 0⟩ = true := fun e => by
    simp only [beginD, Bool.and_eq_true, Bool.not_eq_true', decide_eq_true_eq]
    exact ⟨hy.ok, hy.un.trans e, hy.lastE⟩
  have go : ∀ {p : Bool}, p = true → y.un = false → (stS y p (.need (eB y.x.blks) (.need (eV [pS, .int .i64 (wr .i64 (y.x.a.l + 1))]) (.need (beginD.pre ⟨y.x, wr .i64 (y.x.a.l + 1), 0, 0⟩) (lf19 y.beg))))).holds (Nx y (b + 1)) := fun hp e => stS_ok hy hp (ndT (eB_eq sk_blks) (ndT (eV_eq _) (ndT (pre e) fin)))
  rcases shape y.x.q with hq | ⟨hn, hl⟩ | ⟨hn, hl⟩
  · exact takes_of_tree hE (wE hE (SN_ok hE)) (f := 3) (.inr (by kernel_rfl)) (hp_below _) (t_begN E y hy.g.1 hq) ⟨fun hc => go (by simp [Ql.full, hq]) (by simpa using hc), fun _ => no⟩
  · exact takes_of_tree hE (wE hE (SN_ok hE)) (f := 3) (.inr (by kernel_rfl)) (hp_below _) (t_begL E y hy.g.1 hn hl) ⟨fun hc => go (by simp [Ql.e1, Ql.none, hn, hl]) (by simpa using hc), fun _ => no⟩
  · exact takes_of_tree hE (wE hE (SN_ok hE)) (f := 3) (.inr (by kernel_rfl)) (hp_below _) (t_begG E y hy.g.1 hn hl) ⟨fun hc => ⟨fun e => go e (by simpa using hc), fun e => go (full_of e) (by simpa using hc)⟩, fun _ => no⟩
theorem bar_takes (hE : Plain E) {y : Lw} {b : Int} (hb : b + 1 ≤ 500) (hy : LI y b) {h : Int} (h0 : 0 ≤ h) (h1 : h < y.w) :
    Takes Try.prog E ra base 0 (codeOf 3 pbar) (mkT 246 (y.ts [(18, .int .i64 h), (19, .int .i64 0)])) (hp 0 y.bs) (Nx y (b + 1)) := by
  have hw := hy.w
  have no := lf19_ok (y := y) (hy.up hb) ⟨rfl, rfl, rfl, rfl⟩
  have go : ∀ {p : Bool}, p = true → y.un = true → y.C.getD h.toNat false = false → (stS y p (.need (eB y.x.blks) (.need (eV (tbD.args ⟨y.x, h, wr .i64 (y.x.a.l + 1), 2⟩)) (.need (tbD.pre ⟨y.x, h, wr .i64 (y.x.a.l + 1), 2⟩) (.need (inL h 3) (.need (decide (h.toNat < 3)) (lf19 (y.bar h)))))))).holds (Nx y (b + 1)) := fun hp e hc => by
    obtain ⟨b1, b2⟩ := hy.bar h0 h1 hc e
    refine stS_ok hy hp (ndT (eB_eq sk_blks) (ndT (eV_eq _) (ndT ?_ (ndT (inL_in ⟨h0, by omega⟩) (ndT (decide_eq_true (by omega)) (lf19_ok (b1.up hb) ⟨rfl, rfl, rfl, rfl⟩))))))
    simp only [tbD, Bool.and_eq_true, decide_eq_true_eq]
    exact ⟨hy.ok, hy.freeI h0 h1 hc, hy.un.trans e, b2⟩
  rcases shape y.x.q with hq | ⟨hn, hl⟩ | ⟨hn, hl⟩
  · exact takes_of_tree hE (wE hE (SN_ok hE)) (f := 3) (.inr (by kernel_rfl)) (hp_below _) (t_barN E y hy.g.1 hq h) ⟨fun e => cmT_ok hb hy h0 h1 fun hc => go (by simp [Ql.full, hq]) e hc, fun _ => no⟩
  · exact takes_of_tree hE (wE hE (SN_ok hE)) (f := 3) (.inr (by kernel_rfl)) (hp_below _) (t_barL E y hy.g.1 hn hl h) ⟨fun e => cmT_ok hb hy h0 h1 fun hc => go (by simp [Ql.e1, Ql.none, hn, hl]) e hc, fun _ => no⟩
  · exact takes_of_tree hE (wE hE (SN_ok hE)) (f := 3) (.inr (by kernel_rfl)) (hp_below _) (t_barG E y hy.g.1 hn hl h) ⟨fun e => cmT_ok hb hy h0 h1 fun hc => ⟨fun e1 => go e1 e hc, fun e1 => go (full_of e1) e hc⟩, fun _ => no⟩
theorem nwS_ok {D : CDeal Nw} {y : Lw} {b : Int} {q q' : Ql} {t : Tree State} {Q : State → Prop} (hy : LI y b) (hb : D.blks (y.nw q) = q.blk ++ [ilN y.x.f.l.length y.x.f.l]) (ha : D.args (y.nw q) = [.int .i64 y.sz, .agg [q.v 0, .slice (.own (y.nw q).nq 0 0 1) y.x.f.l.length none, .int .i64 y.x.done, .int .i64 y.x.a.l]]) (hk : okBs q.blk = true) (hp : D.pre (y.nw q) = true) (ht : t.holds Q) : (nwS D y q q' t).holds Q := by
  have hl : y.x.f.n.toNat = y.x.f.l.length := by have := l_len hy.f; omega
  refine ndT ?_ (ndT ?_ (ndT hp ht))
  · rw [eBB, hb, hl]
    refine eB_eq ?_
    revert hk
    cases q.nil <;> cases q.lit <;> intro hk <;> (obtain ⟨nl, li, n, m, c⟩ := q; cases nl <;> cases li <;> rfl)
  · rw [eVV, ha, hl]; exact eV_eq _
theorem q_blk (q : Ql) : okBs q.blk = true := by
  obtain ⟨nl, li, n, m, c⟩ := q
  cases nl <;> cases li <;> rfl
theorem nww_takes (hE : Plain E) {y : Lw} {b : Int} (hb : b + 1 ≤ 500) (hy : LI y b) :
    Takes Try.prog E ra base 0 (codeOf 3 pnww) (mkT 246 (y.ts [(19, .int .i64 0)])) (hp 0 y.bs) (Nx y (b + 1)) := by
  have no := lf19_ok (y := y) (hy.up hb) ⟨rfl, rfl, rfl, rfl⟩
  have litc : y.un = false → y.x.q.e1 = true → (stS y y.x.q.e1 (nwS nwE y litQ litQ (lf19 (y.anew litQ)))).holds (Nx y (b + 1)) := fun e e1 => by
    obtain ⟨l1, l2⟩ := e1_l e1
    refine stS_ok hy e1 (nwS_ok hy rfl rfl rfl ?_ (lf19_ok ((hy.anew e (q := litQ) (q' := litQ) rfl (fun r hr => by simp [litQ, Ql.l] at hr) l2.symm).up hb) ⟨rfl, rfl, rfl, rfl⟩))
    show (okNw _ && true) = true
    rw [hy.okNw rfl]; rfl
  rcases shape y.x.q with hq | ⟨hn, hl⟩ | ⟨hn, hl⟩
  · have h0 : y.x.q.len = 0 ∧ y.x.q.l = [] := by
      obtain ⟨⟨f, a, ⟨nl, li, n, m, c⟩, l, d, u⟩, M, C, g, N, w, sz, tk, un, dn, i⟩ := y
      simp only at hq; subst hq; exact ⟨rfl, rfl⟩
    refine takes_of_tree hE (wE hE (SN_ok hE)) (f := 3) (.inr (by kernel_rfl)) (hp_below _) (t_nwwN E y hy.g.1 hq) ⟨fun hc => stS_ok hy (by simp [Ql.full, hq]) (nwS_ok hy rfl rfl rfl ?_ (lf19_ok ((hy.anew (by simpa using hc) (q := nilQ) (q' := nilQ) rfl (fun r hr => by simp [nilQ, Ql.l] at hr) h0.1.symm).up hb) ⟨rfl, rfl, rfl, rfl⟩)), fun _ => no⟩
    show (okNw _ && true) = true
    rw [hy.okNw rfl]; rfl
  · exact takes_of_tree hE (wE hE (SN_ok hE)) (f := 3) (.inr (by kernel_rfl)) (hp_below _) (t_nwwL E y hy.g.1 hn hl) ⟨fun hc => litc (by simpa using hc) (by simp [Ql.e1, Ql.none, hn, hl]), fun _ => no⟩
  · refine takes_of_tree hE (wE hE (SN_ok hE)) (f := 3) (.inr (by kernel_rfl)) (hp_below _) (t_nwwG E y hy.g.1 hn hl) ⟨fun hc => ⟨fun e1 => litc (by simpa using hc) e1, fun e1 => ?_⟩, fun _ => no⟩
    have hf := full_of e1
    obtain ⟨s1, s2, s3, s4, s5, s6⟩ := srt_spec hy.q hf
    obtain ⟨c1, c2, c3⟩ := cln_spec s1 s5
    have hne : y.x.q.srt.e1 = false := by
      cases he : y.x.q.srt.e1 with
      | false => rfl
      | true =>
        have h1 := (e1_l he).2
        have : y.x.q.e1 = true := by
          obtain ⟨⟨f, a, ⟨nl, li, n, m, c⟩, l, d, u⟩, M, C, g, N, w, sz, tk, un, dn, i⟩ := y
          simp only at hn hl
          subst hn; subst hl
          replace h1 : n = 0 := h1
          subst h1; rfl
        rw [this] at e1; exact e1
    refine stS_ok hy hf (btT hne (nwS_ok hy rfl rfl (q_blk _) ?_ (lf19_ok ((hy.anew (by simpa using hc) (q := y.x.q.srt.cln) (q' := y.x.q.srt) c1 (fun r hr => (s2 r).1 (by rw [c2] at hr; exact hr)) (c3.trans s3)).up hb) ⟨rfl, rfl, rfl, rfl⟩)))
    show (okNw _ && y.x.q.srt.full) = true
    rw [hy.okNw s1, s5]; rfl
end
end Go.Proofs.Ytgkejpfahpbnkaa

namespace Go.Proofs.Ytgkejpfahpbnkaa
open Ab
variable {P : Program} {E : Nat → Nat → Seg} {ra : Nat → Nat → Nat × Nat} {base : Nat}
theorem takes_canon (hE : Plain E) {k : Nat} {c : Code} {l : List Nat} {mask : Nat} {ts ts' : Tmps} {h h' : Log} {Q : State → Prop} (hx : canon k l mask (.normal, ts) h = some (true, (.normal, ts', h'))) (t : Takes P E ra base k c ts' h' Q) : Takes P E ra base k c ts h Q := by
  intro ι w nb a hf
  obtain ⟨ι'', f'', k''⟩ := canon_fit hE hx hf
  refine wpIn_mono (t ι'' w nb a f'') ?_
  rintro e a' w' ⟨y, ι', h1, h2, h3, h4⟩
  exact ⟨y, ι', h1, h2, h3, k''.trans h4⟩
theorem fg_75a (y : Lw) (hg : y.g.gn = true) (u : Ch) (h k : Int) (v : Bool) : canon 0 (rg 0 (y.len + 1)) 1048452 (.normal, mkT 246 (y.ts [(17, .ptr (.own y.len 0 0 0)), (18, .int .i64 h), (19, .int .i64 0), (66, .int .u8 k), (75, .bool v)])) (hp 0 (y.bs ++ [u.blk])) = some (true, (.normal, mkT 246 (y.ts [(17, .ptr (.own y.len 0 0 0)), (18, .int .i64 h), (19, .int .i64 0)]), hp 0 (y.bs ++ [u.blk]))) := by
  obtain ⟨⟨f, a, ⟨nl, li, n, m, c⟩, l, d, b⟩, M, C, ⟨gn, gl, g1, g2, gc⟩, N, w, sz, tk, un, dn, i⟩ := y
  cases gn
  · cases gl
    · cases nl
      · cases li <;> kernel_rfl
      · kernel_rfl
    · cases hg
  · cases nl
    · cases li <;> kernel_rfl
    · kernel_rfl
theorem fg_75e (y : Lw) (hg : y.g.gn = true) (u : Ch) (h k : Int) (v : Bool) : canon 0 (rg 0 (y.len + 1)) 73786976294839254916 (.normal, mkT 246 (y.ts [(17, .ptr (.own y.len 0 0 0)), (18, .int .i64 h), (19, .int .i64 0), (66, .int .u8 k), (75, .bool v)])) (hp 0 (y.bs ++ [u.blk])) = some (true, (.normal, mkT 246 (y.ts [(17, .ptr (.own y.len 0 0 0)), (18, .int .i64 h), (19, .int .i64 0), (66, .int .u8 k)]), hp 0 (y.bs ++ [u.blk]))) := by
  obtain ⟨⟨f, a, ⟨nl, li, n, m, c⟩, l, d, b⟩, M, C, ⟨gn, gl, g1, g2, gc⟩, N, w, sz, tk, un, dn, i⟩ := y
  cases gn
  · cases gl
    · cases nl
      · cases li <;> kernel_rfl
      · kernel_rfl
    · cases hg
  · cases nl
    · cases li <;> kernel_rfl
    · kernel_rfl
theorem fg_98a (y : Lw) (hg : y.g.gn = true) (u : Ch) (h k : Int) (v : Bool) : canon 0 (rg 0 (y.len + 1)) 1048452 (.normal, mkT 246 (y.ts [(17, .ptr (.own y.len 0 0 0)), (18, .int .i64 h), (19, .int .i64 0), (66, .int .u8 k), (98, .bool v)])) (hp 0 (y.bs ++ [u.blk])) = some (true, (.normal, mkT 246 (y.ts [(17, .ptr (.own y.len 0 0 0)), (18, .int .i64 h), (19, .int .i64 0)]), hp 0 (y.bs ++ [u.blk]))) := by
  obtain ⟨⟨f, a, ⟨nl, li, n, m, c⟩, l, d, b⟩, M, C, ⟨gn, gl, g1, g2, gc⟩, N, w, sz, tk, un, dn, i⟩ := y
  cases gn
  · cases gl
    · cases nl
      · cases li <;> kernel_rfl
      · kernel_rfl
    · cases hg
  · cases nl
    · cases li <;> kernel_rfl
    · kernel_rfl
theorem fg_98e (y : Lw) (hg : y.g.gn = true) (u : Ch) (h k : Int) (v : Bool) : canon 0 (rg 0 (y.len + 1)) 73786976294839254916 (.normal, mkT 246 (y.ts [(17, .ptr (.own y.len 0 0 0)), (18, .int .i64 h), (19, .int .i64 0), (66, .int .u8 k), (98, .bool v)])) (hp 0 (y.bs ++ [u.blk])) = some (true, (.normal, mkT 246 (y.ts [(17, .ptr (.own y.len 0 0 0)), (18, .int .i64 h), (19, .int .i64 0), (66, .int .u8 k)]), hp 0 (y.bs ++ [u.blk]))) := by
  obtain ⟨⟨f, a, ⟨nl, li, n, m, c⟩, l, d, b⟩, M, C, ⟨gn, gl, g1, g2, gc⟩, N, w, sz, tk, un, dn, i⟩ := y
  cases gn
  · cases gl
    · cases nl
      · cases li <;> kernel_rfl
      · kernel_rfl
    · cases hg
  · cases nl
    · cases li <;> kernel_rfl
    · kernel_rfl
theorem fg_124b (y : Lw) (hg : y.g.gn = true) (u : Ch) (h k : Int) (v : Bool) : canon 0 (rg 0 (y.len)) 655236 (.normal, mkT 246 (y.ts [(17, .ptr (.own y.len 0 0 0)), (18, .int .i64 h), (19, .int .i64 0), (66, .int .u8 k), (124, .bool v)])) (hp 0 (y.bs ++ [u.blk])) = some (true, (.normal, mkT 246 (y.ts [(19, .int .i64 0)]), hp 0 y.bs)) := by
  obtain ⟨⟨f, a, ⟨nl, li, n, m, c⟩, l, d, b⟩, M, C, ⟨gn, gl, g1, g2, gc⟩, N, w, sz, tk, un, dn, i⟩ := y
  cases gn
  · cases gl
    · cases nl
      · cases li <;> kernel_rfl
      · kernel_rfl
    · cases hg
  · cases nl
    · cases li <;> kernel_rfl
    · kernel_rfl
theorem fg_124e (y : Lw) (hg : y.g.gn = true) (u : Ch) (h k : Int) (v : Bool) : canon 0 (rg 0 (y.len + 1)) 73786976294839254916 (.normal, mkT 246 (y.ts [(17, .ptr (.own y.len 0 0 0)), (18, .int .i64 h), (19, .int .i64 0), (66, .int .u8 k), (124, .bool v)])) (hp 0 (y.bs ++ [u.blk])) = some (true, (.normal, mkT 246 (y.ts [(17, .ptr (.own y.len 0 0 0)), (18, .int .i64 h), (19, .int .i64 0), (66, .int .u8 k)]), hp 0 (y.bs ++ [u.blk]))) := by
  obtain ⟨⟨f, a, ⟨nl, li, n, m, c⟩, l, d, b⟩, M, C, ⟨gn, gl, g1, g2, gc⟩, N, w, sz, tk, un, dn, i⟩ := y
  cases gn
  · cases gl
    · cases nl
      · cases li <;> kernel_rfl
      · kernel_rfl
    · cases hg
  · cases nl
    · cases li <;> kernel_rfl
    · kernel_rfl
theorem fg_134c (y : Lw) (hg : y.g.gn = true) (u : Ch) (h k : Int) (v : Bool) : canon 0 (rg 0 (y.len)) 917380 (.normal, mkT 246 (y.ts [(17, .ptr (.own y.len 0 0 0)), (18, .int .i64 h), (19, .int .i64 0), (66, .int .u8 k), (134, .bool v)])) (hp 0 (y.bs ++ [u.blk])) = some (true, (.normal, mkT 246 (y.ts [(18, .int .i64 h), (19, .int .i64 0)]), hp 0 y.bs)) := by
  obtain ⟨⟨f, a, ⟨nl, li, n, m, c⟩, l, d, b⟩, M, C, ⟨gn, gl, g1, g2, gc⟩, N, w, sz, tk, un, dn, i⟩ := y
  cases gn
  · cases gl
    · cases nl
      · cases li <;> kernel_rfl
      · kernel_rfl
    · cases hg
  · cases nl
    · cases li <;> kernel_rfl
    · kernel_rfl
theorem fg_134e (y : Lw) (hg : y.g.gn = true) (u : Ch) (h k : Int) (v : Bool) : canon 0 (rg 0 (y.len + 1)) 73786976294839254916 (.normal, mkT 246 (y.ts [(17, .ptr (.own y.len 0 0 0)), (18, .int .i64 h), (19, .int .i64 0), (66, .int .u8 k), (134, .bool v)])) (hp 0 (y.bs ++ [u.blk])) = some (true, (.normal, mkT 246 (y.ts [(17, .ptr (.own y.len 0 0 0)), (18, .int .i64 h), (19, .int .i64 0), (66, .int .u8 k)]), hp 0 (y.bs ++ [u.blk]))) := by
  obtain ⟨⟨f, a, ⟨nl, li, n, m, c⟩, l, d, b⟩, M, C, ⟨gn, gl, g1, g2, gc⟩, N, w, sz, tk, un, dn, i⟩ := y
  cases gn
  · cases gl
    · cases nl
      · cases li <;> kernel_rfl
      · kernel_rfl
    · cases hg
  · cases nl
    · cases li <;> kernel_rfl
    · kernel_rfl
theorem fg_154d (y : Lw) (hg : y.g.gn = true) (u : Ch) (h k : Int) (v : Bool) : canon 0 (rg 0 (y.len + 1)) 786308 (.normal, mkT 246 (y.ts [(17, .ptr (.own y.len 0 0 0)), (18, .int .i64 h), (19, .int .i64 0), (66, .int .u8 k), (154, .bool v)])) (hp 0 (y.bs ++ [u.blk])) = some (true, (.normal, mkT 246 (y.ts [(17, .ptr (.own y.len 0 0 0)), (19, .int .i64 0)]), hp 0 (y.bs ++ [u.blk]))) := by
  obtain ⟨⟨f, a, ⟨nl, li, n, m, c⟩, l, d, b⟩, M, C, ⟨gn, gl, g1, g2, gc⟩, N, w, sz, tk, un, dn, i⟩ := y
  cases gn
  · cases gl
    · cases nl
      · cases li <;> kernel_rfl
      · kernel_rfl
    · cases hg
  · cases nl
    · cases li <;> kernel_rfl
    · kernel_rfl
theorem fg_154b (y : Lw) (hg : y.g.gn = true) (u : Ch) (h k : Int) (v : Bool) : canon 0 (rg 0 (y.len)) 655236 (.normal, mkT 246 (y.ts [(17, .ptr (.own y.len 0 0 0)), (18, .int .i64 h), (19, .int .i64 0), (66, .int .u8 k), (154, .bool v)])) (hp 0 (y.bs ++ [u.blk])) = some (true, (.normal, mkT 246 (y.ts [(19, .int .i64 0)]), hp 0 y.bs)) := by
  obtain ⟨⟨f, a, ⟨nl, li, n, m, c⟩, l, d, b⟩, M, C, ⟨gn, gl, g1, g2, gc⟩, N, w, sz, tk, un, dn, i⟩ := y
  cases gn
  · cases gl
    · cases nl
      · cases li <;> kernel_rfl
      · kernel_rfl
    · cases hg
  · cases nl
    · cases li <;> kernel_rfl
    · kernel_rfl
theorem ev_75 (y : Lw) (h k : Int) (v : Bool) : evalA (mkT 246 (y.ts [(17, .ptr (.own y.len 0 0 0)), (18, .int .i64 h), (19, .int .i64 0), (66, .int .u8 k), (75, .bool v)])) (.tmp 75) = .bool v := by kernel_rfl
theorem ev_98 (y : Lw) (h k : Int) (v : Bool) : evalA (mkT 246 (y.ts [(17, .ptr (.own y.len 0 0 0)), (18, .int .i64 h), (19, .int .i64 0), (66, .int .u8 k), (98, .bool v)])) (.tmp 98) = .bool v := by kernel_rfl
theorem ev_124 (y : Lw) (h k : Int) (v : Bool) : evalA (mkT 246 (y.ts [(17, .ptr (.own y.len 0 0 0)), (18, .int .i64 h), (19, .int .i64 0), (66, .int .u8 k), (124, .bool v)])) (.tmp 124) = .bool v := by kernel_rfl
theorem ev_134 (y : Lw) (h k : Int) (v : Bool) : evalA (mkT 246 (y.ts [(17, .ptr (.own y.len 0 0 0)), (18, .int .i64 h), (19, .int .i64 0), (66, .int .u8 k), (134, .bool v)])) (.tmp 134) = .bool v := by kernel_rfl
theorem ev_154 (y : Lw) (h k : Int) (v : Bool) : evalA (mkT 246 (y.ts [(17, .ptr (.own y.len 0 0 0)), (18, .int .i64 h), (19, .int .i64 0), (66, .int .u8 k), (154, .bool v)])) (.tmp 154) = .bool v := by kernel_rfl
theorem c_sw : codeOf 3 [true, false, true, true, true, false, false, true, false, false, true, false, true, true, true, true, true, true, true, true, true, true, true, true] = .block 2 (codeOf 3 [false, true, false, true, true, true, false, false, true, false, false, true, false, true, true, true, true, true, true, true, true, true, true, true, true]) := by kernel_rfl
theorem c_s75 : codeOf 3 [false, true, false, true, true, true, false, false, true, false, false, true, false, true, true, true, true, true, true, true, true, true, true, true, true] = .seq (codeOf 3 [false, false, true, false, true, true, true, false, false, true, false, false, true, false, true, true, true, true, true, true, true, true, true, true, true, true]) (codeOf 3 [true, false, true, false, true, true, true, false, false, true, false, false, true, false, true, true, true, true, true, true, true, true, true, true, true, true]) := by kernel_rfl
theorem c_i75 : codeOf 3 [true, false, true, false, true, true, true, false, false, true, false, false, true, false, true, true, true, true, true, true, true, true, true, true, true, true] = .cond (.tmp 75) (codeOf 3 [false, true, false, true, false, true, true, true, false, false, true, false, false, true, false, true, true, true, true, true, true, true, true, true, true, true, true]) (codeOf 3 [true, true, false, true, false, true, true, true, false, false, true, false, false, true, false, true, true, true, true, true, true, true, true, true, true, true, true]) := by kernel_rfl
theorem c_s98 : codeOf 3 [true, true, false, true, false, true, true, true, false, false, true, false, false, true, false, true, true, true, true, true, true, true, true, true, true, true, true] = .seq (codeOf 3 [false, true, true, false, true, false, true, true, true, false, false, true, false, false, true, false, true, true, true, true, true, true, true, true, true, true, true, true]) (codeOf 3 [true, true, true, false, true, false, true, true, true, false, false, true, false, false, true, false, true, true, true, true, true, true, true, true, true, true, true, true]) := by kernel_rfl
theorem c_i98 : codeOf 3 [true, true, true, false, true, false, true, true, true, false, false, true, false, false, true, false, true, true, true, true, true, true, true, true, true, true, true, true] = .cond (.tmp 98) (codeOf 3 [false, true, true, true, false, true, false, true, true, true, false, false, true, false, false, true, false, true, true, true, true, true, true, true, true, true, true, true, true]) (codeOf 3 [true, true, true, true, false, true, false, true, true, true, false, false, true, false, false, true, false, true, true, true, true, true, true, true, true, true, true, true, true]) := by kernel_rfl
theorem c_s124 : codeOf 3 [true, true, true, true, false, true, false, true, true, true, false, false, true, false, false, true, false, true, true, true, true, true, true, true, true, true, true, true, true] = .seq (codeOf 3 [false, true, true, true, true, false, true, false, true, true, true, false, false, true, false, false, true, false, true, true, true, true, true, true, true, true, true, true, true, true]) (codeOf 3 [true, true, true, true, true, false, true, false, true, true, true, false, false, true, false, false, true, false, true, true, true, true, true, true, true, true, true, true, true, true]) := by kernel_rfl
theorem c_i124 : codeOf 3 [true, true, true, true, true, false, true, false, true, true, true, false, false, true, false, false, true, false, true, true, true, true, true, true, true, true, true, true, true, true] = .cond (.tmp 124) (codeOf 3 [false, true, true, true, true, true, false, true, false, true, true, true, false, false, true, false, false, true, false, true, true, true, true, true, true, true, true, true, true, true, true]) (codeOf 3 [true, true, true, true, true, true, false, true, false, true, true, true, false, false, true, false, false, true, false, true, true, true, true, true, true, true, true, true, true, true, true]) := by kernel_rfl
theorem c_s134 : codeOf 3 [true, true, true, true, true, true, false, true, false, true, true, true, false, false, true, false, false, true, false, true, true, true, true, true, true, true, true, true, true, true, true] = .seq (codeOf 3 [false, true, true, true, true, true, true, false, true, false, true, true, true, false, false, true, false, false, true, false, true, true, true, true, true, true, true, true, true, true, true, true]) (codeOf 3 [true, true, true, true, true, true, true, false, true, false, true, true, true, false, false, true, false, false, true, false, true, true, true, true, true, true, true, true, true, true, true, true]) := by kernel_rfl
theorem c_i134 : codeOf 3 [true, true, true, true, true, true, true, false, true, false, true, true, true, false, false, true, false, false, true, false, true, true, true, true, true, true, true, true, true, true, true, true] = .cond (.tmp 134) (codeOf 3 [false, true, true, true, true, true, true, true, false, true, false, true, true, true, false, false, true, false, false, true, false, true, true, true, true, true, true, true, true, true, true, true, true]) (codeOf 3 [true, true, true, true, true, true, true, true, false, true, false, true, true, true, false, false, true, false, false, true, false, true, true, true, true, true, true, true, true, true, true, true, true]) := by kernel_rfl
theorem c_s154 : codeOf 3 [true, true, true, true, true, true, true, true, false, true, false, true, true, true, false, false, true, false, false, true, false, true, true, true, true, true, true, true, true, true, true, true, true] = .seq (codeOf 3 [false, true, true, true, true, true, true, true, true, false, true, false, true, true, true, false, false, true, false, false, true, false, true, true, true, true, true, true, true, true, true, true, true, true]) (codeOf 3 [true, true, true, true, true, true, true, true, true, false, true, false, true, true, true, false, false, true, false, false, true, false, true, true, true, true, true, true, true, true, true, true, true, true]) := by kernel_rfl
theorem c_i154 : codeOf 3 [true, true, true, true, true, true, true, true, true, false, true, false, true, true, true, false, false, true, false, false, true, false, true, true, true, true, true, true, true, true, true, true, true, true] = .cond (.tmp 154) (codeOf 3 [false, true, true, true, true, true, true, true, true, true, false, true, false, true, true, true, false, false, true, false, false, true, false, true, true, true, true, true, true, true, true, true, true, true, true]) (codeOf 3 [true, true, true, true, true, true, true, true, true, true, false, true, false, true, true, true, false, false, true, false, false, true, false, true, true, true, true, true, true, true, true, true, true, true, true]) := by kernel_rfl
theorem c_lp : codeOf 3 [true, false, true, true, true, true, true, true, true, true, true, true, true, true] = .block 0 (codeOf 3 [false, true, false, true, true, true, true, true, true, true, true, true, true, true, true]) := by kernel_rfl
theorem c_ll : codeOf 3 [false, true, false, true, true, true, true, true, true, true, true, true, true, true, true] = .loop (codeOf 3 [false, false, true, false, true, true, true, true, true, true, true, true, true, true, true, true]) := by kernel_rfl
theorem c_hd : codeOf 3 [false, false, true, false, true, true, true, true, true, true, true, true, true, true, true, true] = .seq (codeOf 3 [false, false, false, true, false, true, true, true, true, true, true, true, true, true, true, true, true]) (codeOf 3 [true, false, false, true, false, true, true, true, true, true, true, true, true, true, true, true, true]) := by kernel_rfl
theorem c_hd2 : codeOf 3 [true, false, false, true, false, true, true, true, true, true, true, true, true, true, true, true, true] = .seq (codeOf 3 [false, true, false, false, true, false, true, true, true, true, true, true, true, true, true, true, true, true]) (codeOf 3 [true, true, false, false, true, false, true, true, true, true, true, true, true, true, true, true, true, true]) := by kernel_rfl
theorem c_b1 : codeOf 3 [false, true, false, false, true, false, true, true, true, true, true, true, true, true, true, true, true, true] = .block 1 (codeOf 3 [false, false, true, false, false, true, false, true, true, true, true, true, true, true, true, true, true, true, true]) := by kernel_rfl
theorem c_z0 : codeOf 3 [false, false, true, false, false, true, false, true, true, true, true, true, true, true, true, true, true, true, true] = .seq (codeOf 3 [false, false, false, true, false, false, true, false, true, true, true, true, true, true, true, true, true, true, true, true]) (codeOf 3 [true, false, false, true, false, false, true, false, true, true, true, true, true, true, true, true, true, true, true, true]) := by kernel_rfl
theorem c_z1 : codeOf 3 [true, false, false, true, false, false, true, false, true, true, true, true, true, true, true, true, true, true, true, true] = .seq (codeOf 3 [false, true, false, false, true, false, false, true, false, true, true, true, true, true, true, true, true, true, true, true, true]) (codeOf 3 [true, true, false, false, true, false, false, true, false, true, true, true, true, true, true, true, true, true, true, true, true]) := by kernel_rfl
theorem c_z2 : codeOf 3 [true, true, false, false, true, false, false, true, false, true, true, true, true, true, true, true, true, true, true, true, true] = .seq (codeOf 3 [false, true, true, false, false, true, false, false, true, false, true, true, true, true, true, true, true, true, true, true, true, true]) (codeOf 3 [true, true, true, false, false, true, false, false, true, false, true, true, true, true, true, true, true, true, true, true, true, true]) := by kernel_rfl
theorem c_z3 : codeOf 3 [true, true, true, false, false, true, false, false, true, false, true, true, true, true, true, true, true, true, true, true, true, true] = .seq (codeOf 3 [false, true, true, true, false, false, true, false, false, true, false, true, true, true, true, true, true, true, true, true, true, true, true]) (codeOf 3 [true, true, true, true, false, false, true, false, false, true, false, true, true, true, true, true, true, true, true, true, true, true, true]) := by kernel_rfl
theorem c_z4 : codeOf 3 [true, true, true, true, false, false, true, false, false, true, false, true, true, true, true, true, true, true, true, true, true, true, true] = .seq (codeOf 3 [false, true, true, true, true, false, false, true, false, false, true, false, true, true, true, true, true, true, true, true, true, true, true, true]) (codeOf 3 [true, true, true, true, true, false, false, true, false, false, true, false, true, true, true, true, true, true, true, true, true, true, true, true]) := by kernel_rfl
theorem c_z5 : codeOf 3 [true, true, true, true, true, false, false, true, false, false, true, false, true, true, true, true, true, true, true, true, true, true, true, true] = .seq (codeOf 3 [false, true, true, true, true, true, false, false, true, false, false, true, false, true, true, true, true, true, true, true, true, true, true, true, true]) (codeOf 3 [true, true, true, true, true, true, false, false, true, false, false, true, false, true, true, true, true, true, true, true, true, true, true, true, true]) := by kernel_rfl
theorem c_z6 : codeOf 3 [true, true, true, true, true, true, false, false, true, false, false, true, false, true, true, true, true, true, true, true, true, true, true, true, true] = .seq (codeOf 3 [false, true, true, true, true, true, true, false, false, true, false, false, true, false, true, true, true, true, true, true, true, true, true, true, true, true]) (codeOf 3 [true, true, true, true, true, true, true, false, false, true, false, false, true, false, true, true, true, true, true, true, true, true, true, true, true, true]) := by kernel_rfl
theorem c_z7 : codeOf 3 [true, true, true, true, true, true, true, false, false, true, false, false, true, false, true, true, true, true, true, true, true, true, true, true, true, true] = .seq (codeOf 3 [false, true, true, true, true, true, true, true, false, false, true, false, false, true, false, true, true, true, true, true, true, true, true, true, true, true, true]) (codeOf 3 [true, true, true, true, true, true, true, true, false, false, true, false, false, true, false, true, true, true, true, true, true, true, true, true, true, true, true]) := by kernel_rfl
theorem c_z3s : codeOf 3 [false, true, true, true, false, false, true, false, false, true, false, true, true, true, true, true, true, true, true, true, true, true, true] = .seq (codeOf 3 [false, false, true, true, true, false, false, true, false, false, true, false, true, true, true, true, true, true, true, true, true, true, true, true]) (codeOf 3 [true, false, true, true, true, false, false, true, false, false, true, false, true, true, true, true, true, true, true, true, true, true, true, true]) := by kernel_rfl
theorem c_z7s : codeOf 3 [false, true, true, true, true, true, true, true, false, false, true, false, false, true, false, true, true, true, true, true, true, true, true, true, true, true, true] = .seq (codeOf 3 [false, false, true, true, true, true, true, true, true, false, false, true, false, false, true, false, true, true, true, true, true, true, true, true, true, true, true, true]) (codeOf 3 [true, false, true, true, true, true, true, true, true, false, false, true, false, false, true, false, true, true, true, true, true, true, true, true, true, true, true, true]) := by kernel_rfl
theorem c_lb : codeOf 3 [true, false, true, true, true, true, true, true, true, false, false, true, false, false, true, false, true, true, true, true, true, true, true, true, true, true, true, true] = .block 3 (codeOf 3 [false, true, false, true, true, true, true, true, true, true, false, false, true, false, false, true, false, true, true, true, true, true, true, true, true, true, true, true, true]) := by kernel_rfl
theorem c_lbl : codeOf 3 [false, true, false, true, true, true, true, true, true, true, false, false, true, false, false, true, false, true, true, true, true, true, true, true, true, true, true, true, true] = .loop (codeOf 3 [false, false, true, false, true, true, true, true, true, true, true, false, false, true, false, false, true, false, true, true, true, true, true, true, true, true, true, true, true, true]) := by kernel_rfl
-- places: 0010010111111111111
end Go.Proofs.Ytgkejpfahpbnkaa

namespace Go.Proofs.Ytgkejpfahpbnkaa
open Ab
theorem cond_takes {P : Program} {E : Nat → Nat → Seg} {ra : Nat → Nat → Nat × Nat} {base k : Nat} {c a b : Code} {o : Operand} (hs : c = .cond o a b) {ts : Tmps} {h : Log} {v : Bool} (hc : evalA ts o = .bool v) {Q : State → Prop} (t : v = true → Takes P E ra base k a ts h Q) (e : v = false → Takes P E ra base k b ts h Q) : Takes P E ra base k c ts h Q := by
  subst hs; exact takes_cond hc t e
theorem tk_ex {P : Program} {E : Nat → Nat → Seg} {ra : Nat → Nat → Nat × Nat} {base k : Nat} {c a b : Code} {β : Type} {T : β → Tmps} {H : β → Log} (hs : c = .seq a b) {ts : Tmps} {h : Log} {Q : State → Prop} (h1 : Takes P E ra base k a ts h fun z => ∃ v, z = (.normal, T v, H v)) (h2 : ∀ v, Takes P E ra base k b (T v) (H v) Q) : Takes P E ra base k c ts h Q :=
  tk_seq hs h1 (by rintro y ⟨v, rfl⟩; exact h2 v)
section
variable {E : Nat → Nat → Seg} {ra : Nat → Nat → Nat × Nat} {base : Nat}
theorem w154 (hE : Plain E) {y : Lw} {b : Int} (hb : b + 1 ≤ 500) (hy : LI y b) {u : Ch} (hu : 0 ≤ u.c ∧ u.c ≤ 255) {h k : Int} (h0 : 0 ≤ h) (h1 : h < y.w) :
    Takes Try.prog E ra base 0 (codeOf 3 [true, true, true, true, true, true, true, true, false, true, false, true, true, true, false, false, true, false, false, true, false, true, true, true, true, true, true, true, true, true, true, true, true]) (mkT 246 (y.ts [(17, .ptr (.own y.len 0 0 0)), (18, .int .i64 h), (19, .int .i64 0), (66, .int .u8 k)])) (hp 0 (y.bs ++ [u.blk])) (Nx y (b + 1)) := by
  refine tk_ex (β := Bool) (T := fun v => mkT 246 (y.ts [(17, .ptr (.own y.len 0 0 0)), (18, .int .i64 h), (19, .int .i64 0), (66, .int .u8 k), (154, .bool v)])) (H := fun _ => hp 0 (y.bs ++ [u.blk])) c_s154 (takes_of_tree hE (W_ok sumNone_ok noL_ok) (f := 3) (.inr (by kernel_rfl)) (hp_below _) (t_s154 E y hy.g.1 u h k) ⟨decide (k = 8), rfl⟩) fun v => ?_
  exact cond_takes c_i154 (ev_154 y h k v) (fun _ => takes_canon hE (fg_154d y hy.g.1 u h k v) (stt_takes hE hb hy hu)) fun _ => takes_canon hE (fg_154b y hy.g.1 u h k v) (nww_takes hE hb hy)
theorem w134 (hE : Plain E) {y : Lw} {b : Int} (hb : b + 1 ≤ 500) (hy : LI y b) {u : Ch} (hu : 0 ≤ u.c ∧ u.c ≤ 255) {h k : Int} (h0 : 0 ≤ h) (h1 : h < y.w) :
    Takes Try.prog E ra base 0 (codeOf 3 [true, true, true, true, true, true, false, true, false, true, true, true, false, false, true, false, false, true, false, true, true, true, true, true, true, true, true, true, true, true, true]) (mkT 246 (y.ts [(17, .ptr (.own y.len 0 0 0)), (18, .int .i64 h), (19, .int .i64 0), (66, .int .u8 k)])) (hp 0 (y.bs ++ [u.blk])) (Nx y (b + 1)) := by
  refine tk_ex (β := Bool) (T := fun v => mkT 246 (y.ts [(17, .ptr (.own y.len 0 0 0)), (18, .int .i64 h), (19, .int .i64 0), (66, .int .u8 k), (134, .bool v)])) (H := fun _ => hp 0 (y.bs ++ [u.blk])) c_s134 (takes_of_tree hE (W_ok sumNone_ok noL_ok) (f := 3) (.inr (by kernel_rfl)) (hp_below _) (t_s134 E y hy.g.1 u h k) ⟨fun _ => ⟨decide (k = 6), rfl⟩, fun _ => ⟨decide (k = 7), rfl⟩⟩) fun v => ?_
  exact cond_takes c_i134 (ev_134 y h k v) (fun _ => takes_canon hE (fg_134c y hy.g.1 u h k v) (bar_takes hE hb hy h0 h1)) fun _ => takes_canon hE (fg_134e y hy.g.1 u h k v) (w154 hE hb hy hu h0 h1)
theorem w124 (hE : Plain E) {y : Lw} {b : Int} (hb : b + 1 ≤ 500) (hy : LI y b) {u : Ch} (hu : 0 ≤ u.c ∧ u.c ≤ 255) {h k : Int} (h0 : 0 ≤ h) (h1 : h < y.w) :
    Takes Try.prog E ra base 0 (codeOf 3 [true, true, true, true, false, true, false, true, true, true, false, false, true, false, false, true, false, true, true, true, true, true, true, true, true, true, true, true, true]) (mkT 246 (y.ts [(17, .ptr (.own y.len 0 0 0)), (18, .int .i64 h), (19, .int .i64 0), (66, .int .u8 k)])) (hp 0 (y.bs ++ [u.blk])) (Nx y (b + 1)) := by
  refine tk_ex (β := Bool) (T := fun v => mkT 246 (y.ts [(17, .ptr (.own y.len 0 0 0)), (18, .int .i64 h), (19, .int .i64 0), (66, .int .u8 k), (124, .bool v)])) (H := fun _ => hp 0 (y.bs ++ [u.blk])) c_s124 (takes_of_tree hE (W_ok sumNone_ok noL_ok) (f := 3) (.inr (by kernel_rfl)) (hp_below _) (t_s124 E y hy.g.1 u h k) ⟨decide (k = 5), rfl⟩) fun v => ?_
  exact cond_takes c_i124 (ev_124 y h k v) (fun _ => takes_canon hE (fg_124b y hy.g.1 u h k v) (beg_takes hE hb hy)) fun _ => takes_canon hE (fg_124e y hy.g.1 u h k v) (w134 hE hb hy hu h0 h1)
theorem w98 (hE : Plain E) {y : Lw} {b : Int} (hb : b + 1 ≤ 500) (hy : LI y b) {u : Ch} (hu : 0 ≤ u.c ∧ u.c ≤ 255) {h k : Int} (h0 : 0 ≤ h) (h1 : h < y.w) :
    Takes Try.prog E ra base 0 (codeOf 3 [true, true, false, true, false, true, true, true, false, false, true, false, false, true, false, true, true, true, true, true, true, true, true, true, true, true, true]) (mkT 246 (y.ts [(17, .ptr (.own y.len 0 0 0)), (18, .int .i64 h), (19, .int .i64 0), (66, .int .u8 k)])) (hp 0 (y.bs ++ [u.blk])) (Nx y (b + 1)) := by
  refine tk_ex (β := Bool) (T := fun v => mkT 246 (y.ts [(17, .ptr (.own y.len 0 0 0)), (18, .int .i64 h), (19, .int .i64 0), (66, .int .u8 k), (98, .bool v)])) (H := fun _ => hp 0 (y.bs ++ [u.blk])) c_s98 (takes_of_tree hE (W_ok sumNone_ok noL_ok) (f := 3) (.inr (by kernel_rfl)) (hp_below _) (t_s98 E y hy.g.1 u h k) ⟨fun _ => ⟨decide (k = 3), rfl⟩, fun _ => ⟨decide (k = 4), rfl⟩⟩) fun v => ?_
  exact cond_takes c_i98 (ev_98 y h k v) (fun _ => takes_canon hE (fg_98a y hy.g.1 u h k v) (mrk_takes hE hb hy hu h0 h1)) fun _ => takes_canon hE (fg_98e y hy.g.1 u h k v) (w124 hE hb hy hu h0 h1)
theorem w75 (hE : Plain E) {y : Lw} {b : Int} (hb : b + 1 ≤ 500) (hy : LI y b) {u : Ch} (hu : 0 ≤ u.c ∧ u.c ≤ 255) {h k : Int} (h0 : 0 ≤ h) (h1 : h < y.w) :
    Takes Try.prog E ra base 0 (codeOf 3 [false, true, false, true, true, true, false, false, true, false, false, true, false, true, true, true, true, true, true, true, true, true, true, true, true]) (mkT 246 (y.ts [(17, .ptr (.own y.len 0 0 0)), (18, .int .i64 h), (19, .int .i64 0), (66, .int .u8 k)])) (hp 0 (y.bs ++ [u.blk])) (Nx y (b + 1)) := by
  refine tk_ex (β := Bool) (T := fun v => mkT 246 (y.ts [(17, .ptr (.own y.len 0 0 0)), (18, .int .i64 h), (19, .int .i64 0), (66, .int .u8 k), (75, .bool v)])) (H := fun _ => hp 0 (y.bs ++ [u.blk])) c_s75 (takes_of_tree hE (W_ok sumNone_ok noL_ok) (f := 3) (.inr (by kernel_rfl)) (hp_below _) (t_s75 E y hy.g.1 u h k) ⟨fun _ => ⟨decide (k = 0), rfl⟩, fun _ => ⟨fun _ => ⟨decide (k = 1), rfl⟩, fun _ => ⟨decide (k = 2), rfl⟩⟩⟩) fun v => ?_
  exact cond_takes c_i75 (ev_75 y h k v) (fun _ => takes_canon hE (fg_75a y hy.g.1 u h k v) (rec_takes hE hb hy hu h0 h1)) fun _ => takes_canon hE (fg_75e y hy.g.1 u h k v) (w98 hE hb hy hu h0 h1)
theorem sw_takes (hE : Plain E) {y : Lw} {b : Int} (hb : b + 1 ≤ 500) (hy : LI y b) {u : Ch} (hu : 0 ≤ u.c ∧ u.c ≤ 255) {h k : Int} (h0 : 0 ≤ h) (h1 : h < y.w) :
    Takes Try.prog E ra base 0 (codeOf 3 psw) (mkT 246 (y.ts [(17, .ptr (.own y.len 0 0 0)), (18, .int .i64 h), (19, .int .i64 0), (66, .int .u8 k)])) (hp 0 (y.bs ++ [u.blk])) (Nx y (b + 1)) := by
  refine tk_block c_sw ((w75 hE hb hy hu h0 h1).mono fun z hz => ?_)
  obtain ⟨y', a1, a2, e⟩ := hz
  subst e; exact ⟨y', a1, a2, rfl⟩
def Nz (y : Lw) (b : Int) (z : State) : Prop := ∃ y', LI y' b ∧ Same y y' ∧ z = (.normal, mkT 246 (y'.ts []), hp 0 y'.bs)
theorem z6_takes (hE : Plain E) {y : Lw} {b : Int} (hb : b + 1 ≤ 500) (hy : LI y b) : Takes Try.prog E ra base 0 (codeOf 3 pZ6) (mkT 246 (y.ts [])) (hp 0 y.bs) (Nz y (b + 1)) := by
  obtain ⟨hgn, hgo⟩ := hy.g
  have no : (lfN y).holds (Nz y (b + 1)) := ⟨y, hy.up hb, ⟨rfl, rfl, rfl, rfl⟩, rfl⟩
  have hp := hy.pend'
  have hlen : 1 ≤ y.x.len := by rw [hy.len]; exact hy.sz.1
  obtain ⟨s1, s2⟩ := sk_s2 hy.q hlen hp
  have hsx : ∀ r, y.sx r = ⟨y.x.se r, y.x.len⟩ := fun r => by rw [Lw.sx, hy.len]
  have hgl := hy.qlen
  have okse : y.x.rdy = true → okSe y.x = true := fun h => by rw [okSe, hy.ov, h]; rfl
  have over : (decide (y.x.over < y.dn)) = false := decide_eq_false (by have := over_ge y.x; rw [hy.dn.1] at this; omega)
  have done : (!decide (y.x.done = y.dn)) = false := by rw [hy.dn.1, decide_eq_true rfl]; rfl
  have zE : ∀ {t : Tree State}, y.x.rdy = true → y.x.goL.isEmpty = true → t.holds (Nz y (b + 1)) → (z6E y t).holds (Nz y (b + 1)) := fun h he ht =>
    ndT (eB_eq sk_blks) (ndT (by rw [okse h, he]; rfl) (btT done (btT over (ndT (eV_eq _) (ndT (by rw [hsx]; exact s1) ht)))))
  have zG : ∀ {t : Tree State}, y.x.rdy = true → y.x.goL.isEmpty = false → t.holds (Nz y (b + 1)) → (z6G y t).holds (Nz y (b + 1)) := fun h he ht =>
    ndT (eB_eq sk_blks) (ndT (by rw [okse h, he]; rfl) (btT done (btT over (ndT (eB_eq (q_blk _)) (ndT (eV_eq _) (ndT (by rw [hsx]; exact s2) ht))))))
  have lE : y.x.rdy = true → y.x.goL.isEmpty = true → (lfN (y.sealed nilQ)).holds (Nz y (b + 1)) := fun h he =>
    ⟨_, hy.sld hb h (r := nilQ) rfl rfl (by rw [List.isEmpty_iff.1 he]; rfl), ⟨rfl, rfl, rfl, rfl⟩, rfl⟩
  have glen : y.x.goL.length ≤ 500 := by have := (sk_q hy.q).2.2.2; omega
  have ilen : (isort y.x.goL).length ≤ 500 := by rw [isort_length]; exact glen
  have lG : y.x.rdy = true → (lfN (y.sealed (rcQ y))).holds (Nz y (b + 1)) := fun h =>
    ⟨_, hy.sld hb h (r := rcQ y) rfl (gr_ok (by unfold big; omega)) (by show (isort y.x.goL).length = _; rw [isort_length]), ⟨rfl, rfl, rfl, rfl⟩, rfl⟩
  have nol : ∀ {q : Ql}, q.nil = true ∨ q.lit = true → q.l = [] := fun {q} h => by
    obtain ⟨nl, li, n, m, c⟩ := q
    cases nl
    · cases li
      · simp at h
      · rfl
    · rfl
  have emp : y.x.q.nil = true ∨ y.x.q.lit = true → y.x.goL.isEmpty = true := fun h => by rw [Sk.goL, nol h]; rfl
  have gG : y.g.nil = false → y.g.lit = false ∧ y.g.n ≤ 500 ∧ y.g.n ≤ y.g.m := fun h => by
    obtain ⟨x, M, C, ⟨nl, li, n, m, c⟩, N, w, sz, tk, un, dn, i⟩ := y
    simp only at h
    subst h
    cases li
    · obtain ⟨_, _, g1, g2, g3⟩ := q_facts hgo rfl
      exact ⟨rfl, hgl.2, g2⟩
    · simp [Ql.gn] at hgn
  have pos : y.x.goL.isEmpty = false → 1 ≤ (isort y.x.goL).length := fun h => by
    rw [isort_length]
    cases hh : y.x.goL with
    | nil => rw [hh] at h; cases h
    | cons a l => simp
  have W1 := wE (ra := ra) (base := base) hE (SN_ok hE)
  have tail : ∀ {t : Tree State}, y.g.nil = false → t.holds (Nz y (b + 1)) → (Tree.need (decide ((y.g.n + 0) * 32 ≤ 35184372088832)) (.need (decide (0 + y.g.n ≤ y.g.m)) t)).holds (Nz y (b + 1)) := fun h ht => by
    obtain ⟨_, g1, g2⟩ := gG h
    exact ndT (decide_eq_true (by omega)) (ndT (decide_eq_true (by omega)) ht)
  cases hG : y.g.nil with
  | true =>
    rcases shape y.x.q with hq | ⟨hn, hl⟩ | ⟨hn, hl⟩
    · exact takes_of_tree hE W1 (f := 3) (.inr (by kernel_rfl)) (hp_below _) (t_Z6Nn E y hgn hq hG) (ndT (eB_eq sk_blks) (ndT hy.ok ⟨fun h => zE h (emp (.inl hq)) (lE h (emp (.inl hq))), fun _ => no⟩))
    · exact takes_of_tree hE W1 (f := 3) (.inr (by kernel_rfl)) (hp_below _) (t_Z6Ln E y hgn hn hl hG) (ndT (eB_eq sk_blks) (ndT hy.ok ⟨fun h => zE h (emp (.inr hl)) (lE h (emp (.inr hl))), fun _ => no⟩))
    · refine takes_of_tree hE W1 (f := 3) (.inr (by kernel_rfl)) (hp_below _) (t_Z6Gn E y hgn hn hl hG) (ndT (eB_eq sk_blks) (ndT hy.ok ⟨fun h => ⟨fun he => zE h he (lE h he), fun he => zG h he (btT ?_ (ndT (decide_eq_true (by omega)) (ndT (decide_eq_true (by omega)) (lG h))))⟩, fun _ => no⟩))
      have := pos he
      cases hb' : Nat.beq (isort y.x.goL).length 0 with
      | false => rfl
      | true => have := Nat.eq_of_beq_eq_true hb'; omega
  | false =>
    obtain ⟨g0, g1, g2⟩ := gG hG
    rcases shape y.x.q with hq | ⟨hn, hl⟩ | ⟨hn, hl⟩
    · exact takes_of_tree hE W1 (f := 3) (.inr (by kernel_rfl)) (hp_below _) (t_Z6Ng E y hgn hq hG g0) (ndT (eB_eq sk_blks) (ndT hy.ok ⟨fun h => zE h (emp (.inl hq)) (tail hG (lE h (emp (.inl hq)))), fun _ => no⟩))
    · exact takes_of_tree hE W1 (f := 3) (.inr (by kernel_rfl)) (hp_below _) (t_Z6Lg E y hgn hn hl hG g0) (ndT (eB_eq sk_blks) (ndT hy.ok ⟨fun h => zE h (emp (.inr hl)) (tail hG (lE h (emp (.inr hl)))), fun _ => no⟩))
    · exact takes_of_tree hE W1 (f := 3) (.inr (by kernel_rfl)) (hp_below _) (t_Z6Gg E y hgn hn hl hG g0) (ndT (eB_eq sk_blks) (ndT hy.ok ⟨fun h => ⟨fun he => zE h he (tail hG (lE h he)), fun he => zG h he (ndT (decide_eq_true (by omega)) (ndT (decide_eq_true (by omega)) (ndT (decide_eq_true (by omega)) (lG h))))⟩, fun _ => no⟩))
end
end Go.Proofs.Ytgkejpfahpbnkaa

namespace Go.Proofs.Ytgkejpfahpbnkaa
open Ab
section
variable {E : Nat → Nat → Seg} {ra : Nat → Nat → Nat × Nat} {base : Nat}
def Lf (y : Lw) (q : Ql) : Prop := q.ok = true ∧ (∀ r ∈ q.l, r ∈ y.x.q.l) ∧ q.len = y.x.q.len
theorem z7_takes (hE : Plain E) {y : Lw} {b : Int} (hy : LI y b) : Takes Try.prog E ra base 0 (codeOf 3 pZ7) (mkT 246 (y.ts [])) (hp 0 y.bs) fun z => ∃ q : { q : Ql // Lf y q }, z = (.normal, mkT 246 (y.ts [(24, q.1.v y.len)]), hp 0 (y.bs ++ q.1.blk)) := by
  have W1 := wE (ra := ra) (base := base) hE (SN_ok hE)
  have fE : y.x.q.e1 = true → Lf y litQ := fun e => by
    obtain ⟨l1, l2⟩ := e1_l e
    exact ⟨rfl, fun r hr => by simp [litQ, Ql.l] at hr, l2.symm⟩
  have fG : y.x.q.full = true → Lf y y.x.q.srt := fun e => by
    obtain ⟨s1, s2, s3, s4, s5, s6⟩ := srt_spec hy.q e
    exact ⟨s1, fun r hr => (s2 r).1 hr, s3⟩
  rcases shape y.x.q with hq | ⟨hn, hl⟩ | ⟨hn, hl⟩
  · have hf : y.x.q.full = true := by simp [Ql.full, hq]
    exact takes_of_tree hE W1 (f := 3) (.inr (by kernel_rfl)) (hp_below _) (t_Z7N E y hy.g.1 hq) (stS_ok hy hf ⟨⟨_, fG hf⟩, rfl⟩)
  · have he : y.x.q.e1 = true := by simp [Ql.e1, Ql.none, hn, hl]
    exact takes_of_tree hE W1 (f := 3) (.inr (by kernel_rfl)) (hp_below _) (t_Z7L E y hy.g.1 hn hl) (stS_ok hy he ⟨⟨_, fE he⟩, rfl⟩)
  · exact takes_of_tree hE W1 (f := 3) (.inr (by kernel_rfl)) (hp_below _) (t_Z7G E y hy.g.1 hn hl) ⟨fun he => stS_ok hy he ⟨⟨_, fE he⟩, rfl⟩, fun he => stS_ok hy (full_of he) ⟨⟨_, fG (full_of he)⟩, rfl⟩⟩
theorem lr_loop (hE : Plain E) {y : Lw} {b : Int} (hy : LI y b) {q : Ql} (hq : Lf y q) : Takes Try.prog E ra base 0 (.loop (codeOf 3 plr)) (mkT 246 (y.ts [(24, q.v y.len), (25, .int .i64 0)])) (hp 0 (y.bs ++ q.blk)) fun z => z = (.exit 3, mkT 246 (y.ts [(24, q.v y.len)]), hp 0 (y.bs ++ q.blk)) := by
  have W0 : ExecOK Try.prog E ra base (W E noS noL) := W_ok sumNone_ok noL_ok
  obtain ⟨q1, q2, q3⟩ := hq
  have hg := hy.g.1
  cases hqg : q.g with
  | false =>
    refine takes_loop (fun j ts h => j = 1 ∧ ts = mkT 246 (y.ts [(24, q.v y.len), (25, .int .i64 0)]) ∧ h = hp 0 (y.bs ++ q.blk)) (fun ts h hh => by cases hh.1) (fun j ts h hh => ?_) (j := 1) ⟨rfl, rfl, rfl⟩
    obtain ⟨_, rfl, rfl⟩ := hh
    exact takes_of_tree hE W0 (f := 3) (.inr (by kernel_rfl)) (hp_below _) (t_lr0 E y hg q hqg) rfl
  | true =>
    have hs : q.nil = false ∧ q.lit = false ∧ q.c.wf q.m = true ∧ q.n ≤ q.m ∧ q.len = q.n ∧ q.l = (q.c.un q.m).take q.n := by
      obtain ⟨nl, li, n, m, c⟩ := q
      obtain ⟨rfl, rfl, g1, g2, g3⟩ := q_facts q1 hqg
      exact ⟨rfl, rfl, g1, g2, rfl, rfl⟩
    obtain ⟨hn, hl, g1, g2, g3, g4⟩ := hs
    have hk := hy.qlen.1
    refine takes_loop (fun j ts h => ∃ i : Nat, i ≤ q.n ∧ j = q.n - i + 1 ∧ ts = mkT 246 (y.ts [(24, q.v y.len), (25, .int .i64 i)]) ∧ h = hp 0 (y.bs ++ q.blk)) (fun ts h hh => by obtain ⟨i, _, hh, _⟩ := hh; omega) (fun j ts h hh => ?_) (j := q.n + 1) ⟨0, Nat.zero_le _, rfl, rfl, rfl⟩
    obtain ⟨i, h1, h2, rfl, rfl⟩ := hh
    refine takes_of_tree hE W0 (f := 3) (.inr (by kernel_rfl)) (hp_below _) (t_lrg E y hg q i hn hl) ?_
    refine br_by (fun h => nR_holds ⟨by omega, h⟩ g2 (ndT (ne0_of hy.sz.1) (btT (decide_eq_false ?_) ⟨i + 1, by omega, by omega, ?_, rfl⟩))) fun h => rfl
    · have hm : q.c.at (ix (i : Int)) ∈ q.l := by
        rw [g4]; exact List.mem_of_getElem? (L_get g2 (by omega))
      have := (hy.pend _ (q2 _ hm)).2.2
      omega
    · rw [wr_one (by omega)]
theorem z8_takes (hE : Plain E) {y : Lw} {b : Int} (hy : LI y b) {q : Ql} (hq : Lf y q) : Takes Try.prog E ra base 0 (codeOf 3 [false, true, true, true, true, true, true, true, false, false, true, false, false, true, false, true, true, true, true, true, true, true, true, true, true, true, true]) (mkT 246 (y.ts [(24, q.v y.len)])) (hp 0 (y.bs ++ q.blk)) fun z => z = (.normal, mkT 246 (y.ts [(24, q.v y.len)]), hp 0 (y.bs ++ q.blk)) := by
  have W0 : ExecOK Try.prog E ra base (W E noS noL) := W_ok sumNone_ok noL_ok
  refine tk_next c_z7s (takes_of_tree hE W0 (f := 3) (.inr (by kernel_rfl)) (hp_below _) (t_n0 E y hy.g.1 q) rfl) ?_
  refine tk_block c_lb ?_
  rw [c_lbl]
  refine (lr_loop hE hy hq).mono fun z hz => ?_
  subst hz; rfl
theorem z9_takes (hE : Plain E) {y : Lw} {b : Int} (hy : LI y b) {q : Ql} (hq : Lf y q) : Takes Try.prog E ra base 0 (codeOf 3 pZ9) (mkT 246 (y.ts [(24, q.v y.len)])) (hp 0 (y.bs ++ q.blk)) fun z => z = (.normal, mkT 246 (y.ts []), hp 0 y.bs) := by
  refine takes_of_tree hE (W_ok sumNone_ok noL_ok) (f := 3) (.inr (by kernel_rfl)) (hp_below _) (t_Z9 E y hy.g.1 q) (btT ?_ rfl)
  have := hy.cnt
  have := hy.qlen
  obtain ⟨_, _, q3⟩ := hq
  have e : wr .i64 ((y.g.len : Int) + (q.len : Int)) = y.tk := by rw [q3, wr_in ⟨by omega, by omega⟩]; omega
  rw [e, decide_eq_true rfl]; rfl
theorem z4_takes (hE : Plain E) {y : Lw} {b : Int} (hb : b + 1 ≤ 500) (hy : LI y b) : Takes Try.prog E ra base 0 (codeOf 3 (true :: true :: true :: true :: [false, false, true, false, false, true, false, true, true, true, true, true, true, true, true, true, true, true, true])) (mkT 246 (y.ts [(19, .int .i64 0)])) (hp 0 y.bs) (Nz y (b + 1)) := by
  have W0 : ExecOK Try.prog E ra base (W E noS noL) := W_ok sumNone_ok noL_ok
  refine tk_next c_z4 (takes_of_tree hE W0 (f := 3) (.inr (by kernel_rfl)) (hp_below _) (t_chk E y hy.g.1) rfl) ?_
  refine tk_seq c_z5 (z6_takes hE hb hy) ?_
  rintro z ⟨y', k1, k2, rfl⟩
  show Takes Try.prog E ra base 0 _ (mkT 246 (y'.ts [])) (hp 0 y'.bs) (Nz y (b + 1))
  refine tk_ex (β := { q : Ql // Lf y' q }) (T := fun q => mkT 246 (y'.ts [(24, q.1.v y'.len)])) (H := fun q => hp 0 (y'.bs ++ q.1.blk)) c_z6 (z7_takes hE k1) fun q => ?_
  refine tk_next c_z7 (z8_takes hE k1 q.2) ((z9_takes hE k1 q.2).mono fun z hz => ?_)
  exact ⟨y', k1, k2, hz⟩
end
section
variable {ta tb tc : List Int} {ra : Nat → Nat → Nat × Nat} {base : Nat}
theorem tabC_plain (a b c : List Int) : Plain (tabC a b c) := by
  intro tid par j v hv
  obtain ⟨_, s, hs, rfl⟩ := cellOf_seg hv
  simp only [tabC] at hs
  have : j % 3 = 0 ∨ j % 3 = 1 ∨ j % 3 = 2 := by omega
  rcases this with e | e | e <;> rw [e] at hs <;> simp at hs <;> subst hs <;> rfl
structure Tc (ta tb tc : List Int) : Prop where
  b : tb.length = ta.length
  c : tc.length = ta.length
  inB : ∀ x ∈ tb, 0 ≤ x ∧ x ≤ 255
  inC : ∀ x ∈ tc, 0 ≤ x ∧ x ≤ 255
theorem round_takes (hT : Tc ta tb tc) {y : Lw} (hy : LI y (2 * y.i)) (hi : 0 ≤ y.i ∧ y.i ≤ 200) (hn : y.n = ta.length) :
    Takes Try.prog (tabC ta tb tc) ra base 0 (codeOf 3 phd) (mkT 246 (y.ts [])) (hp 0 y.bs) fun z =>
      (∃ y', LI y' (2 * y'.i) ∧ y'.i = y.i + 1 ∧ y.i < 200 ∧ y'.n = y.n ∧ y'.w = y.w ∧ y'.sz = y.sz ∧ z = (.normal, mkT 246 (y'.ts []), hp 0 y'.bs)) ∨ z = (.exit 0, mkT 246 (y.ts []), hp 0 y.bs) := by
  have hE := tabC_plain ta tb tc
  have W0 : ExecOK Try.prog (tabC ta tb tc) ra base (W (tabC ta tb tc) noS noL) := W_ok sumNone_ok noL_ok
  have hg := hy.g.1
  have hw := hy.w
  refine tk_seq c_hd (R := fun z => (z = (.normal, mkT 246 (y.ts []), hp 0 y.bs) ∧ y.i < y.n ∧ y.i < 200) ∨ z = (.exit 0, mkT 246 (y.ts []), hp 0 y.bs)) (takes_of_tree hE W0 (f := 3) (.inr (by kernel_rfl)) (hp_below _) (t_A _ y hg) (br_by (fun h => br_by (fun h' => .inl ⟨rfl, h, h'⟩) fun _ => .inr rfl) fun _ => .inr rfl)) ?_
  rintro z (⟨rfl, h1, h2⟩ | rfl)
  · show Takes Try.prog (tabC ta tb tc) ra base 0 _ (mkT 246 (y.ts [])) (hp 0 y.bs) _
    refine tk_seq c_hd2 (R := Nz y (2 * y.i + 2)) ?_ ?_
    · refine tk_block c_b1 ?_
      have inb : ∀ {z : State}, Nz y (2 * y.i + 2) z → InBlock 1 (Nz y (2 * y.i + 2)) z := fun {z} ⟨y', a1, a2, e⟩ => by subst e; exact ⟨y', a1, a2, rfl⟩
      refine Takes.mono (fun z hz => inb hz) ?_
      have hlt : y.i.toNat < ta.length := by omega
      have hb1 : 0 ≤ tg tb y.i ∧ tg tb y.i ≤ 255 := hT.inB _ (tg_mem hi.1 (by rw [hT.b]; omega))
      have hc1 : 0 ≤ tg tc y.i ∧ tg tc y.i ≤ 255 := hT.inC _ (tg_mem hi.1 (by rw [hT.c]; omega))
      have hwho : 0 ≤ y.who (Ch.at ta tb tc y.i) ∧ y.who (Ch.at ta tb tc y.i) < y.w := by
        have e : y.who (Ch.at ta tb tc y.i) = Int.tmod (tg tb y.i) y.w := by
          show Int.tmod (wr .i64 (tg tb y.i)) y.w = _
          rw [wr_in ⟨by omega, by omega⟩]
        rw [e]
        exact ⟨Int.tmod_nonneg _ hb1.1, Int.tmod_lt_of_pos _ (by omega)⟩
      refine tk_next c_z0 (takes_of_tree hE W0 (f := 3) (.inr (by kernel_rfl)) (hp_below _) (t_z1 ta tb tc y hg) (ndT (inL_in ⟨hi.1, h1⟩) (ndT (nL_in ⟨hi.1, by omega⟩) rfl))) ?_
      refine tk_next c_z1 (takes_of_tree hE W0 (f := 3) (.inr (by kernel_rfl)) (hp_below _) (t_z2 _ y hg (Ch.at ta tb tc y.i)) (ndT (decide_eq_true (by omega)) rfl)) ?_
      refine tk_next c_z2 (takes_of_tree hE W0 (f := 3) (.inr (by kernel_rfl)) (hp_below _) (t_z3 _ y hg (Ch.at ta tb tc y.i) (y.who (Ch.at ta tb tc y.i))) rfl) ?_
      refine tk_seq c_z3 (R := Nx y (2 * y.i + 1)) ?_ ?_
      · refine tk_next c_z3s (takes_of_tree hE W0 (f := 3) (.inr (by kernel_rfl)) (hp_below _) (t_r66 _ y hg (Ch.at ta tb tc y.i) (y.who (Ch.at ta tb tc y.i))) rfl) ?_
        exact sw_takes hE (by omega) hy hc1 hwho.1 hwho.2
      · rintro z ⟨y', k1, k2, rfl⟩
        show Takes Try.prog (tabC ta tb tc) ra base 0 _ (mkT 246 (y'.ts [(19, .int .i64 0)])) (hp 0 y'.bs) _
        refine (z4_takes hE (by omega) k1).mono fun z hz => ?_
        obtain ⟨y'', a1, a2, e⟩ := hz
        refine ⟨y'', by rw [show 2 * y.i + 2 = 2 * y.i + 1 + 1 by omega]; exact a1, ⟨a2.1.trans k2.1, a2.2.1.trans k2.2.1, a2.2.2.1.trans k2.2.2.1, a2.2.2.2.trans k2.2.2.2⟩, e⟩
    · rintro z ⟨y', k1, k2, rfl⟩
      show Takes Try.prog (tabC ta tb tc) ra base 0 _ (mkT 246 (y'.ts [])) (hp 0 y'.bs) _
      have hi' : y'.i = y.i := k2.2.2.2
      have hwi : wr .i64 (y'.i + 1) = y.i + 1 := by rw [hi']; exact wr_in ⟨by omega, by omega⟩
      refine (takes_of_tree hE W0 (f := 3) (.inr (by kernel_rfl)) (hp_below _) (t_inc _ y' k1.g.1) (Q := fun z => z = (.normal, mkT 246 (Lw.ts { y' with i := wr .i64 (y'.i + 1) } []), hp 0 y'.bs)) rfl).mono fun z hz => .inl ⟨{ y' with i := wr .i64 (y'.i + 1) }, ?_, hwi, h2, k2.1, k2.2.1, k2.2.2.1, hz⟩
      show LI { y' with i := wr .i64 (y'.i + 1) } (2 * wr .i64 (y'.i + 1))
      rw [hwi, show 2 * (y.i + 1) = 2 * y.i + 2 by omega]
      exact ⟨k1.w, k1.sz, k1.len, k1.f, k1.fn, k1.fl, k1.a, k1.an, k1.am, k1.ap, k1.C, k1.al, k1.q, k1.g, k1.M, k1.bb, k1.un, k1.free, k1.dn, k1.low, k1.pend, k1.cnt⟩
  · exact .inr rfl
theorem law_loop (hT : Tc ta tb tc) {y : Lw} (hy : LI y (2 * y.i)) (hi : y.i = 0) (hn : y.n = ta.length) :
    Takes Try.prog (tabC ta tb tc) ra base 0 (codeOf 3 plp) (mkT 246 (y.ts [])) (hp 0 y.bs) fun z =>
      ∃ y', (LI y' 500 ∧ y'.n = y.n ∧ y'.w = y.w ∧ y'.sz = y.sz) ∧ z = (.normal, mkT 246 (y'.ts []), hp 0 y'.bs) := by
  refine tk_block c_lp ?_
  rw [c_ll]
  refine takes_loop (fun j ts h => ∃ y', LI y' (2 * y'.i) ∧ 0 ≤ y'.i ∧ y'.i ≤ 200 ∧ y'.n = y.n ∧ y'.w = y.w ∧ y'.sz = y.sz ∧ (j : Int) = 201 - y'.i ∧ ts = mkT 246 (y'.ts []) ∧ h = hp 0 y'.bs) (fun ts h hh => by obtain ⟨y', _, _, h1, _, _, _, h2, _⟩ := hh; omega) (fun j ts h hh => ?_) (j := 201) ⟨y, hy, by omega, by omega, rfl, rfl, rfl, by omega, rfl, rfl⟩
  obtain ⟨y', h1, h2, h3, h4, h5, h6, h7, rfl, rfl⟩ := hh
  refine (round_takes hT h1 ⟨h2, h3⟩ (h4.trans hn)).mono fun z hz => ?_
  rcases hz with ⟨y'', a1, a2, a3, a4, a5, a6, rfl⟩ | rfl
  · exact ⟨y'', a1, by omega, by omega, a4.trans h4, a5.trans h5, a6.trans h6, by omega, rfl, rfl⟩
  · refine ⟨y', ⟨?_, h4, h5, h6⟩, rfl⟩
    have e1 := h1.al
    have e2 := h1.cnt
    exact ⟨h1.w, h1.sz, h1.len, h1.f, h1.fn, h1.fl, h1.a, h1.an, h1.am, h1.ap, h1.C, ⟨e1.1, by omega⟩, h1.q, h1.g, fun t ht => ⟨(h1.M t ht).1, by have := (h1.M t ht).2; omega⟩, ⟨by omega, by omega⟩, h1.un, h1.free, h1.dn, h1.low, fun r hr => ⟨(h1.pend r hr).1, by have := (h1.pend r hr).2.1; omega, (h1.pend r hr).2.2⟩, ⟨e2.1, by omega⟩⟩
end
end Go.Proofs.Ytgkejpfahpbnkaa

namespace Go.Proofs.Ytgkejpfahpbnkaa
open Ab
structure En where
  x : Sk
  C : List Bool
  sz : Int
  w : Int
  left : Int
  dn : Int
  sl : Int
  n : Int
def En.bs (y : En) : List Blk := y.x.blks ++ [cmB y.C]
def En.ts (y : En) (r : List (Nat × AVal)) : List (Nat × AVal) := [(0, pS), (1, .int .i64 y.sz), (2, .int .i64 y.w), (5, .int .i64 y.left), (6, .int .i64 y.dn), (11, .ptr (.own y.x.nb 0 0 0)), (15, .int .i64 y.sl), (16, .int .i64 y.n)] ++ r
def tk1 (x : Sk) (i : Int) : Sk := { x with f := x.f.mark i 1152921504606846976, a := x.a.come i (wr .i64 (x.a.l + 1)) }
end Go.Proofs.Ytgkejpfahpbnkaa

namespace Go.Proofs.Ytgkejpfahpbnkaa
open Ab
def qeB0 : List Bool := [false, false, false, true, false, true, true, true]
def qeB1 : List Bool := [false, false, false, true, false, false, true, false, true, true, true]
def qeI0 : List Bool := [false, false, true, false, false, true, false, false, true, false, true, true, true]
def qeL0 : List Bool := [false, false, false, true, false, true, false, false, true, false, false, true, false, true, true, true]
def qeL1 : List Bool := [false, true, false, false, true, false, true, false, false, true, false, false, true, false, true, true, true]
def qeL2 : List Bool := [true, true, false, false, true, false, true, false, false, true, false, false, true, false, true, true, true]
def qeS : List Bool := [true, true, false, false, true, false, false, true, false, true, true, true]
def qeN : List Bool := [true, true, false, false, true, false, true, true, true]
def qeE0 : List Bool := [false]
def qeE1 : List Bool := [false, true]
def qeE2 : List Bool := [false, true, true]
def qeE3 : List Bool := [false, false, true, true, true]
def qeE5 : List Bool := [true, true, true, true]
def En.ids (y : En) : List Nat := rg 0 (y.x.nb + 1)
def lfE (y : En) (r : List (Nat × AVal)) : Tree State := .leaf (.normal, mkT 97 (y.ts r), hp 0 y.bs)
def stK (x : Sk) (p : Bool) (t : Tree State) : Tree State := .need (eB x.blks) (.need (okSk x && p) t)
def En.beg (y : En) : En := { y with x := { y.x with und := true } }
def En.x1 (y : En) (i : Int) : Sk := { y.x with f := y.x.f.mark i 1152921504606846976 }
def En.tk (y : En) (i : Int) : En := { y with x := tk1 y.x i }
def cF (C : List Bool) : List Bool := ((C.set 0 false).set 1 false).set 2 false
def En.sealed (y : En) (r : Nat) : En := { y with x := y.x.sld, C := cF y.C, left := wr .i64 (y.left - r), dn := y.x.over }
theorem e_B0 (E : Nat → Nat → Seg) (y : En) (u : Bool) : ((W E noS noL 18 qeB0 false (codeOf 18 qeB0) (mkT 97 (y.ts [(3, .bool u)]))).full ⟨hp 0 y.bs, y.x.nb + 1, [], []⟩ leafS).take y.x.nb (.x (.leaf y.ids 100463) (.leaf y.ids 100455))
  = .br (decide (y.n < y.sl)) (lfE y [(3, .bool u)]) (.leaf (.exit 0, mkT 97 (y.ts []), hp 0 y.bs)) := by
  obtain ⟨⟨f, a, ⟨nl, li, n, m, c⟩, l, d, b⟩, C, sz, w, left, dn, sl, k⟩ := y
  cases nl
  · cases li <;> kernel_rfl
  · kernel_rfl
theorem e_I0 (E : Nat → Nat → Seg) (y : En)  : ((W E noS noL 18 qeI0 false (codeOf 18 qeI0) (mkT 97 (y.ts []))).full ⟨hp 0 y.bs, y.x.nb + 1, [], []⟩ leafS).take y.x.nb (.leaf y.ids 231527)
  = lfE y [(17, .int .i64 0)] := by
  obtain ⟨⟨f, a, ⟨nl, li, n, m, c⟩, l, d, b⟩, C, sz, w, left, dn, sl, k⟩ := y
  cases nl
  · cases li <;> kernel_rfl
  · kernel_rfl
theorem e_L0 (E : Nat → Nat → Seg) (y : En) (i : Int) : ((W E noS noL 18 qeL0 false (codeOf 18 qeL0) (mkT 97 (y.ts [(17, .int .i64 i)]))).full ⟨hp 0 y.bs, y.x.nb + 1, [], []⟩ leafS).take y.x.nb (.x (.leaf y.ids 231527) (.leaf y.ids 100455))
  = .br (decide (i < y.w)) (lfE y [(17, .int .i64 i)]) (.leaf (.exit 2, mkT 97 (y.ts []), hp 0 y.bs)) := by
  obtain ⟨⟨f, a, ⟨nl, li, n, m, c⟩, l, d, b⟩, C, sz, w, left, dn, sl, k⟩ := y
  cases nl
  · cases li <;> kernel_rfl
  · kernel_rfl
theorem e_L2 (E : Nat → Nat → Seg) (y : En) (i : Int) : ((W E noS noL 18 qeL2 false (codeOf 18 qeL2) (mkT 97 (y.ts [(17, .int .i64 i)]))).full ⟨hp 0 y.bs, y.x.nb + 1, [], []⟩ leafS).take y.x.nb (.leaf y.ids 231527)
  = lfE y [(17, .int .i64 (wr .i64 (i + 1)))] := by
  obtain ⟨⟨f, a, ⟨nl, li, n, m, c⟩, l, d, b⟩, C, sz, w, left, dn, sl, k⟩ := y
  cases nl
  · cases li <;> kernel_rfl
  · kernel_rfl
theorem e_N (E : Nat → Nat → Seg) (y : En) (u : Bool) : ((W E noS noL 18 qeN false (codeOf 18 qeN) (mkT 97 (y.ts [(3, .bool u)]))).full ⟨hp 0 y.bs, y.x.nb + 1, [], []⟩ leafS).take y.x.nb (.leaf y.ids 100463)
  = lfE { y with n := wr .i64 (y.n + 1) } [(3, .bool u)] := by
  obtain ⟨⟨f, a, ⟨nl, li, n, m, c⟩, l, d, b⟩, C, sz, w, left, dn, sl, k⟩ := y
  cases nl
  · cases li <;> kernel_rfl
  · kernel_rfl
theorem e_B1N (E : Nat → Nat → Seg) (y : En) (u : Bool) (hq : y.x.q.nil = true) : ((W E SN noL 18 qeB1 false (codeOf 18 qeB1) (mkT 97 (y.ts [(3, .bool u)]))).full ⟨hp 0 y.bs, y.x.nb + 1, [], []⟩ leafS).take y.x.nb (.x (.c (.c (.c (.n (.c (.n (.c (.c (.c (.n (.n (.n (.c (.c (.leaf y.ids 100455))))))))))))))) (cs 8 (.leaf y.ids 100455)))
  = .br (!u) (stK y.x y.x.q.full (.need (eB y.x.blks) (.need (eV [pS, .int .i64 (wr .i64 (y.x.a.l + 1))]) (.need (beginD.pre ⟨y.x, wr .i64 (y.x.a.l + 1), 0, 0⟩) (lfE y.beg []))))) (lfE y []) := by
  obtain ⟨⟨f, a, ⟨nl, li, n, m, c⟩, l, d, b⟩, C, sz, w, left, dn, sl, k⟩ := y
  cases nl
  · cases hq
  · kernel_rfl
theorem e_L1N (E : Nat → Nat → Seg) (y : En) (i : Int) (hq : y.x.q.nil = true) : ((W E SN noL 18 qeL1 false (codeOf 18 qeL1) (mkT 97 (y.ts [(17, .int .i64 i)]))).full ⟨hp 0 y.bs, y.x.nb + 1, [], []⟩ leafS).take y.x.nb (.n (.n (.x (.leaf y.ids 231527) (.c (.n (.n (.n (cs 5 (.n (.c (.n (cs 5 (.n (.n (.n (.c (.c (.leaf y.ids 231527))))))))))))))))))
  = .need (inL i 3) (.need (decide (i.toNat < 3)) (.br (y.C.getD i.toNat false) (lfE y [(17, .int .i64 i)]) (.need (eB y.x.blks) (.need (eV (tmD.args ⟨y.x, i, 1152921504606846976, 1⟩)) (.need (tmD.pre ⟨y.x, i, 1152921504606846976, 1⟩) (stK (y.x1 i) y.x.q.full (.need (eB (y.x1 i).blks) (.need (eV (tbD.args ⟨y.x1 i, i, wr .i64 (y.x.a.l + 1), 2⟩)) (.need (tbD.pre ⟨y.x1 i, i, wr .i64 (y.x.a.l + 1), 2⟩) (lfE (y.tk i) [(17, .int .i64 i)])))))))))) := by
  obtain ⟨⟨f, a, ⟨nl, li, n, m, c⟩, l, d, b⟩, C, sz, w, left, dn, sl, k⟩ := y
  cases nl
  · cases hq
  · kernel_rfl
theorem e_SN (E : Nat → Nat → Seg) (y : En) (hq : y.x.q.nil = true) : ((W E SN noL 18 qeS false (codeOf 18 qeS) (mkT 97 (y.ts []))).full ⟨hp 0 y.bs, y.x.nb + 1, [], []⟩ leafS).take y.x.nb (.c (.n (.c (.n (cs 4 (.f (.c (.c (.c (.n (.n (.c (.c (.leaf y.ids 100463))))))))))))))
  = (.need (eB y.x.blks) (.need (okSe y.x && y.x.goL.isEmpty) (.but (!decide (y.x.done = y.dn)) (.need (eV (sealedD.args ⟨y.x.se nilQ, y.sz⟩)) (.need (okS2 ⟨y.x.se nilQ, y.sz⟩) (lfE (y.sealed 0) [(3, .bool false)])))))) := by
  obtain ⟨⟨f, a, ⟨nl, li, n, m, c⟩, l, d, b⟩, C, sz, w, left, dn, sl, k⟩ := y
  cases nl
  · cases hq
  · kernel_rfl
theorem e_E5N (E : Nat → Nat → Seg) (y : En) (hq : y.x.q.nil = true) : ((W E SN noL 18 qeE5 false (codeOf 18 qeE5) (mkT 97 ([(0, pS), (5, .int .i64 0)]))).full ⟨hp 0 y.x.blks, y.x.nb, [], []⟩ leafS).take y.x.nb (.c (.c (.c (.n (.c (.n (.c (.c (.c (.leaf (rg 0 y.x.nb) 16384))))))))))
  = (stK y.x y.x.q.full (.leaf (.ret, mkT 97 [(14, .bool true)], hp 0 y.x.blks))) := by
  obtain ⟨⟨f, a, ⟨nl, li, n, m, c⟩, l, d, b⟩, C, sz, w, left, dn, sl, k⟩ := y
  cases nl
  · cases hq
  · kernel_rfl
theorem e_B1L (E : Nat → Nat → Seg) (y : En) (u : Bool) (hn : y.x.q.nil = false) (hl : y.x.q.lit = true) : ((W E SN noL 18 qeB1 false (codeOf 18 qeB1) (mkT 97 (y.ts [(3, .bool u)]))).full ⟨hp 0 y.bs, y.x.nb + 1, [], []⟩ leafS).take y.x.nb (.x (.c (.c (.c (.n (.c (.n (.c (.c (.c (.n (.n (.n (.c (.c (.leaf y.ids 100455))))))))))))))) (cs 8 (.leaf y.ids 100455)))
  = .br (!u) (stK y.x y.x.q.e1 (.need (eB y.x.blks) (.need (eV [pS, .int .i64 (wr .i64 (y.x.a.l + 1))]) (.need (beginD.pre ⟨y.x, wr .i64 (y.x.a.l + 1), 0, 0⟩) (lfE y.beg []))))) (lfE y []) := by
  obtain ⟨⟨f, a, ⟨nl, li, n, m, c⟩, l, d, b⟩, C, sz, w, left, dn, sl, k⟩ := y
  cases nl
  · cases li
    · cases hl
    · kernel_rfl
  · cases hn
theorem e_L1L (E : Nat → Nat → Seg) (y : En) (i : Int) (hn : y.x.q.nil = false) (hl : y.x.q.lit = true) : ((W E SN noL 18 qeL1 false (codeOf 18 qeL1) (mkT 97 (y.ts [(17, .int .i64 i)]))).full ⟨hp 0 y.bs, y.x.nb + 1, [], []⟩ leafS).take y.x.nb (.n (.n (.x (.leaf y.ids 231527) (.c (.n (.n (.n (cs 5 (.n (.c (.n (cs 5 (.n (.n (.n (.c (.c (.leaf y.ids 231527))))))))))))))))))
  = .need (inL i 3) (.need (decide (i.toNat < 3)) (.br (y.C.getD i.toNat false) (lfE y [(17, .int .i64 i)]) (.need (eB y.x.blks) (.need (eV (tmD.args ⟨y.x, i, 1152921504606846976, 1⟩)) (.need (tmD.pre ⟨y.x, i, 1152921504606846976, 1⟩) (stK (y.x1 i) y.x.q.e1 (.need (eB (y.x1 i).blks) (.need (eV (tbD.args ⟨y.x1 i, i, wr .i64 (y.x.a.l + 1), 2⟩)) (.need (tbD.pre ⟨y.x1 i, i, wr .i64 (y.x.a.l + 1), 2⟩) (lfE (y.tk i) [(17, .int .i64 i)])))))))))) := by
  obtain ⟨⟨f, a, ⟨nl, li, n, m, c⟩, l, d, b⟩, C, sz, w, left, dn, sl, k⟩ := y
  cases nl
  · cases li
    · cases hl
    · kernel_rfl
  · cases hn
theorem e_SL (E : Nat → Nat → Seg) (y : En) (hn : y.x.q.nil = false) (hl : y.x.q.lit = true) : ((W E SN noL 18 qeS false (codeOf 18 qeS) (mkT 97 (y.ts []))).full ⟨hp 0 y.bs, y.x.nb + 1, [], []⟩ leafS).take y.x.nb (.c (.n (.c (.n (cs 4 (.f (.c (.c (.c (.n (.n (.c (.c (.leaf y.ids 100463))))))))))))))
  = (.need (eB y.x.blks) (.need (okSe y.x && y.x.goL.isEmpty) (.but (!decide (y.x.done = y.dn)) (.need (eV (sealedD.args ⟨y.x.se nilQ, y.sz⟩)) (.need (okS2 ⟨y.x.se nilQ, y.sz⟩) (lfE (y.sealed 0) [(3, .bool false)])))))) := by
  obtain ⟨⟨f, a, ⟨nl, li, n, m, c⟩, l, d, b⟩, C, sz, w, left, dn, sl, k⟩ := y
  cases nl
  · cases li
    · cases hl
    · kernel_rfl
  · cases hn
theorem e_E5L (E : Nat → Nat → Seg) (y : En) (hn : y.x.q.nil = false) (hl : y.x.q.lit = true) : ((W E SN noL 18 qeE5 false (codeOf 18 qeE5) (mkT 97 ([(0, pS), (5, .int .i64 0)]))).full ⟨hp 0 y.x.blks, y.x.nb, [], []⟩ leafS).take y.x.nb (.c (.c (.c (.n (.c (.n (.c (.c (.c (.leaf (rg 0 y.x.nb) 16384))))))))))
  = (stK y.x y.x.q.e1 (.leaf (.ret, mkT 97 [(14, .bool true)], hp 0 y.x.blks))) := by
  obtain ⟨⟨f, a, ⟨nl, li, n, m, c⟩, l, d, b⟩, C, sz, w, left, dn, sl, k⟩ := y
  cases nl
  · cases li
    · cases hl
    · kernel_rfl
  · cases hn
theorem e_B1G (E : Nat → Nat → Seg) (y : En) (u : Bool) (hn : y.x.q.nil = false) (hl : y.x.q.lit = false) : ((W E SN noL 18 qeB1 false (codeOf 18 qeB1) (mkT 97 (y.ts [(3, .bool u)]))).full ⟨hp 0 y.bs, y.x.nb + 1, [], []⟩ leafS).take y.x.nb (.x (.c (.c (.x (.n (.c (.n (.c (.c (.c (.n (.n (.n (.c (.c (.leaf y.ids 100455)))))))))))) (.n (.c (.n (.c (.c (.c (.n (.n (.n (.c (.c (.leaf y.ids 100455))))))))))))))) (cs 8 (.leaf y.ids 100455)))
  = .br (!u) (.br y.x.q.e1 (stK y.x y.x.q.e1 (.need (eB y.x.blks) (.need (eV [pS, .int .i64 (wr .i64 (y.x.a.l + 1))]) (.need (beginD.pre ⟨y.x, wr .i64 (y.x.a.l + 1), 0, 0⟩) (lfE y.beg []))))) (stK y.x y.x.q.full (.need (eB y.x.blks) (.need (eV [pS, .int .i64 (wr .i64 (y.x.a.l + 1))]) (.need (beginD.pre ⟨y.x, wr .i64 (y.x.a.l + 1), 0, 0⟩) (lfE y.beg [])))))) (lfE y []) := by
  obtain ⟨⟨f, a, ⟨nl, li, n, m, c⟩, l, d, b⟩, C, sz, w, left, dn, sl, k⟩ := y
  cases nl
  · cases li
    · kernel_rfl
    · cases hl
  · cases hn
theorem e_L1G (E : Nat → Nat → Seg) (y : En) (i : Int) (hn : y.x.q.nil = false) (hl : y.x.q.lit = false) : ((W E SN noL 18 qeL1 false (codeOf 18 qeL1) (mkT 97 (y.ts [(17, .int .i64 i)]))).full ⟨hp 0 y.bs, y.x.nb + 1, [], []⟩ leafS).take y.x.nb (.n (.n (.x (.leaf y.ids 231527) (.c (.n (.n (.n (cs 4 (.x (.n (.c (.n (cs 5 (.n (.n (.n (.c (.c (.leaf y.ids 231527)))))))))) (.n (.c (.n (cs 5 (.n (.n (.n (.c (.c (.leaf y.ids 231527)))))))))))))))))))
  = .need (inL i 3) (.need (decide (i.toNat < 3)) (.br (y.C.getD i.toNat false) (lfE y [(17, .int .i64 i)]) (.need (eB y.x.blks) (.need (eV (tmD.args ⟨y.x, i, 1152921504606846976, 1⟩)) (.need (tmD.pre ⟨y.x, i, 1152921504606846976, 1⟩) (.br y.x.q.e1 (stK (y.x1 i) y.x.q.e1 (.need (eB (y.x1 i).blks) (.need (eV (tbD.args ⟨y.x1 i, i, wr .i64 (y.x.a.l + 1), 2⟩)) (.need (tbD.pre ⟨y.x1 i, i, wr .i64 (y.x.a.l + 1), 2⟩) (lfE (y.tk i) [(17, .int .i64 i)]))))) (stK (y.x1 i) y.x.q.full (.need (eB (y.x1 i).blks) (.need (eV (tbD.args ⟨y.x1 i, i, wr .i64 (y.x.a.l + 1), 2⟩)) (.need (tbD.pre ⟨y.x1 i, i, wr .i64 (y.x.a.l + 1), 2⟩) (lfE (y.tk i) [(17, .int .i64 i)]))))))))))) := by
  obtain ⟨⟨f, a, ⟨nl, li, n, m, c⟩, l, d, b⟩, C, sz, w, left, dn, sl, k⟩ := y
  cases nl
  · cases li
    · kernel_rfl
    · cases hl
  · cases hn
theorem e_SG (E : Nat → Nat → Seg) (y : En) (hn : y.x.q.nil = false) (hl : y.x.q.lit = false) : ((W E SN noL 18 qeS false (codeOf 18 qeS) (mkT 97 (y.ts []))).full ⟨hp 0 y.bs, y.x.nb + 1, [], []⟩ leafS).take y.x.nb (.x (.n (.c (.n (cs 4 (.f (.c (.c (.c (.n (.n (.c (.c (.leaf y.ids 100463))))))))))))) (.n (.c (.n (cs 4 (.f (.c (.c (.n (.n (.n (.c (.c (.leaf y.ids 100463))))))))))))))
  = (.br y.x.goL.isEmpty (.need (eB y.x.blks) (.need (okSe y.x && y.x.goL.isEmpty) (.but (!decide (y.x.done = y.dn)) (.need (eV (sealedD.args ⟨y.x.se nilQ, y.sz⟩)) (.need (okS2 ⟨y.x.se nilQ, y.sz⟩) (lfE (y.sealed 0) [(3, .bool false)])))))) (.need (eB y.x.blks) (.need (okSe y.x && !y.x.goL.isEmpty) (.but (!decide (y.x.done = y.dn)) (.need (eB (Ql.gr (isort y.x.goL)).blk) (.need (eV (sealedD.args ⟨y.x.se (Ql.gr (isort y.x.goL)), y.sz⟩)) (.need (okS2 ⟨y.x.se (Ql.gr (isort y.x.goL)), y.sz⟩) (lfE (y.sealed (isort y.x.goL).length) [(3, .bool false)])))))))) := by
  obtain ⟨⟨f, a, ⟨nl, li, n, m, c⟩, l, d, b⟩, C, sz, w, left, dn, sl, k⟩ := y
  cases nl
  · cases li
    · kernel_rfl
    · cases hl
  · cases hn
theorem e_E5G (E : Nat → Nat → Seg) (y : En) (hn : y.x.q.nil = false) (hl : y.x.q.lit = false) : ((W E SN noL 18 qeE5 false (codeOf 18 qeE5) (mkT 97 ([(0, pS), (5, .int .i64 0)]))).full ⟨hp 0 y.x.blks, y.x.nb, [], []⟩ leafS).take y.x.nb (.c (.c (.t (.n (.c (.n (.c (.c (.c (.leaf (rg 0 y.x.nb) 16384))))))))))
  = .need y.x.q.e1 (stK y.x y.x.q.e1 (.leaf (.ret, mkT 97 [(14, .bool true)], hp 0 y.x.blks))) := by
  obtain ⟨⟨f, a, ⟨nl, li, n, m, c⟩, l, d, b⟩, C, sz, w, left, dn, sl, k⟩ := y
  cases nl
  · cases li
    · kernel_rfl
    · cases hl
  · cases hn
theorem e_E0 (E : Nat → Nat → Seg) (y : En) (u c0 c1 c2 : Bool) : ((W E noS noL 18 qeE0 false (codeOf 18 qeE0) (mkT 97 ([(0, pS), (1, .int .i64 y.sz), (2, .int .i64 y.w), (3, .bool u), (4, .agg [.bool c0, .bool c1, .bool c2]), (5, .int .i64 y.left), (6, .int .i64 y.dn)]))).full ⟨hp 0 y.x.blks, y.x.nb, [], []⟩ leafS).take y.x.nb (.leaf y.ids 2159)
  = .leaf (.normal, mkT 97 [(0, pS), (1, .int .i64 y.sz), (2, .int .i64 y.w), (3, .bool u), (5, .int .i64 y.left), (6, .int .i64 y.dn), (11, .ptr (.own y.x.nb 0 0 0))], hp 0 (y.x.blks ++ [cmB [c0, c1, c2]])) := by
  obtain ⟨⟨f, a, ⟨nl, li, n, m, c⟩, l, d, b⟩, C, sz, w, left, dn, sl, k⟩ := y
  cases nl
  · cases li <;> kernel_rfl
  · kernel_rfl
theorem e_E1 (E : Nat → Nat → Seg) (y : En) (u : Bool) : ((W E noS noL 18 qeE1 false (codeOf 18 qeE1) (mkT 97 ([(0, pS), (1, .int .i64 y.sz), (2, .int .i64 y.w), (3, .bool u), (5, .int .i64 y.left), (6, .int .i64 y.dn), (11, .ptr (.own y.x.nb 0 0 0))]))).full ⟨hp 0 y.bs, y.x.nb + 1, [], []⟩ leafS).take y.x.nb (.leaf y.ids 34927)
  = .leaf (.normal, mkT 97 [(0, pS), (1, .int .i64 y.sz), (2, .int .i64 y.w), (3, .bool u), (5, .int .i64 y.left), (6, .int .i64 y.dn), (11, .ptr (.own y.x.nb 0 0 0)), (15, .int .i64 1)], hp 0 y.bs) := by
  obtain ⟨⟨f, a, ⟨nl, li, n, m, c⟩, l, d, b⟩, C, sz, w, left, dn, sl, k⟩ := y
  cases nl
  · cases li <;> kernel_rfl
  · kernel_rfl
theorem e_E2 (E : Nat → Nat → Seg) (y : En) (u : Bool) : ((W E noS noL 18 qeE2 false (codeOf 18 qeE2) (mkT 97 ([(0, pS), (1, .int .i64 y.sz), (2, .int .i64 y.w), (3, .bool u), (5, .int .i64 y.left), (6, .int .i64 y.dn), (11, .ptr (.own y.x.nb 0 0 0)), (15, .int .i64 1)]))).full ⟨hp 0 y.bs, y.x.nb + 1, [], []⟩ leafS).take y.x.nb (.x (.leaf y.ids 34927) (.leaf y.ids 34927))
  = .br u (.leaf (.normal, mkT 97 [(0, pS), (1, .int .i64 y.sz), (2, .int .i64 y.w), (3, .bool u), (5, .int .i64 y.left), (6, .int .i64 y.dn), (11, .ptr (.own y.x.nb 0 0 0)), (15, .int .i64 2)], hp 0 y.bs)) (.leaf (.normal, mkT 97 [(0, pS), (1, .int .i64 y.sz), (2, .int .i64 y.w), (3, .bool u), (5, .int .i64 y.left), (6, .int .i64 y.dn), (11, .ptr (.own y.x.nb 0 0 0)), (15, .int .i64 1)], hp 0 y.bs)) := by
  obtain ⟨⟨f, a, ⟨nl, li, n, m, c⟩, l, d, b⟩, C, sz, w, left, dn, sl, k⟩ := y
  cases nl
  · cases li <;> kernel_rfl
  · kernel_rfl
theorem e_E3 (E : Nat → Nat → Seg) (y : En) (u : Bool) (j : Int) : ((W E noS noL 18 qeE3 false (codeOf 18 qeE3) (mkT 97 ([(0, pS), (1, .int .i64 y.sz), (2, .int .i64 y.w), (3, .bool u), (5, .int .i64 y.left), (6, .int .i64 y.dn), (11, .ptr (.own y.x.nb 0 0 0)), (15, .int .i64 j)]))).full ⟨hp 0 y.bs, y.x.nb + 1, [], []⟩ leafS).take y.x.nb (.leaf y.ids 100463)
  = .leaf (.normal, mkT 97 [(0, pS), (1, .int .i64 y.sz), (2, .int .i64 y.w), (3, .bool u), (5, .int .i64 y.left), (6, .int .i64 y.dn), (11, .ptr (.own y.x.nb 0 0 0)), (15, .int .i64 j), (16, .int .i64 0)], hp 0 y.bs) := by
  obtain ⟨⟨f, a, ⟨nl, li, n, m, c⟩, l, d, b⟩, C, sz, w, left, dn, sl, k⟩ := y
  cases nl
  · cases li <;> kernel_rfl
  · kernel_rfl
theorem d_a0 : codeOf 18 [] = .seq (codeOf 18 [false]) (codeOf 18 [true]) := by kernel_rfl
theorem d_a1 : codeOf 18 [true] = .seq (codeOf 18 [false, true]) (codeOf 18 [true, true]) := by kernel_rfl
theorem d_a2 : codeOf 18 [true, true] = .seq (codeOf 18 [false, true, true]) (codeOf 18 [true, true, true]) := by kernel_rfl
theorem d_a3 : codeOf 18 [true, true, true] = .seq (codeOf 18 [false, true, true, true]) (codeOf 18 [true, true, true, true]) := by kernel_rfl
theorem d_a4 : codeOf 18 [false, true, true, true] = .seq (codeOf 18 [false, false, true, true, true]) (codeOf 18 [true, false, true, true, true]) := by kernel_rfl
theorem d_a5 : codeOf 18 [true, false, true, true, true] = .block 0 (codeOf 18 [false, true, false, true, true, true]) := by kernel_rfl
theorem d_a6 : codeOf 18 [false, true, false, true, true, true] = .loop (codeOf 18 [false, false, true, false, true, true, true]) := by kernel_rfl
theorem d_b0 : codeOf 18 [false, false, true, false, true, true, true] = .seq (codeOf 18 [false, false, false, true, false, true, true, true]) (codeOf 18 [true, false, false, true, false, true, true, true]) := by kernel_rfl
theorem d_b1 : codeOf 18 [true, false, false, true, false, true, true, true] = .seq (codeOf 18 [false, true, false, false, true, false, true, true, true]) (codeOf 18 [true, true, false, false, true, false, true, true, true]) := by kernel_rfl
theorem d_b2 : codeOf 18 [false, true, false, false, true, false, true, true, true] = .block 1 (codeOf 18 [false, false, true, false, false, true, false, true, true, true]) := by kernel_rfl
theorem d_c0 : codeOf 18 [false, false, true, false, false, true, false, true, true, true] = .seq (codeOf 18 [false, false, false, true, false, false, true, false, true, true, true]) (codeOf 18 [true, false, false, true, false, false, true, false, true, true, true]) := by kernel_rfl
theorem d_c1 : codeOf 18 [true, false, false, true, false, false, true, false, true, true, true] = .seq (codeOf 18 [false, true, false, false, true, false, false, true, false, true, true, true]) (codeOf 18 [true, true, false, false, true, false, false, true, false, true, true, true]) := by kernel_rfl
theorem d_c2 : codeOf 18 [false, true, false, false, true, false, false, true, false, true, true, true] = .seq (codeOf 18 [false, false, true, false, false, true, false, false, true, false, true, true, true]) (codeOf 18 [true, false, true, false, false, true, false, false, true, false, true, true, true]) := by kernel_rfl
theorem d_c3 : codeOf 18 [true, false, true, false, false, true, false, false, true, false, true, true, true] = .block 2 (codeOf 18 [false, true, false, true, false, false, true, false, false, true, false, true, true, true]) := by kernel_rfl
theorem d_c4 : codeOf 18 [false, true, false, true, false, false, true, false, false, true, false, true, true, true] = .loop (codeOf 18 [false, false, true, false, true, false, false, true, false, false, true, false, true, true, true]) := by kernel_rfl
theorem d_l0 : codeOf 18 [false, false, true, false, true, false, false, true, false, false, true, false, true, true, true] = .seq (codeOf 18 [false, false, false, true, false, true, false, false, true, false, false, true, false, true, true, true]) (codeOf 18 [true, false, false, true, false, true, false, false, true, false, false, true, false, true, true, true]) := by kernel_rfl
theorem d_l1 : codeOf 18 [true, false, false, true, false, true, false, false, true, false, false, true, false, true, true, true] = .seq (codeOf 18 [false, true, false, false, true, false, true, false, false, true, false, false, true, false, true, true, true]) (codeOf 18 [true, true, false, false, true, false, true, false, false, true, false, false, true, false, true, true, true]) := by kernel_rfl
end Go.Proofs.Ytgkejpfahpbnkaa
