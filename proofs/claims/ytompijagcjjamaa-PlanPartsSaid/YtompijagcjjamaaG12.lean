/- Parts of the walk: the nodes' spots: brute force over lengths; facts of a plan that is fine; facts of a plan that is fine, by columns; facts of a plan that is fine: its nodes, notes, the columns in[]; what a spoilt copy gives; the columns in[]; the piece behind drafted gives true, for any shape; the law, from its draft on; the law's whole call, as a tree, for any draft; the law's whole call, by what is given and by shape; a draft's plan is fine; the law's call of any draft. -/
import Derived.Test.YtompijagcjjamaaG10
import Derived.Test.YtompijagcjjamaaG11
import Derived.Test.YtompijagcjjamaaG06
import Derived.Test.YtompijagcjjamaaE06

set_option linter.unusedSimpArgs false
set_option linter.unusedVariables false
namespace Go.Proofs.Ytompijagcjjamaa
open Ab
def bare (a : Nd) : Nd := ⟨a.s, a.i, z4⟩
def zs (n : Nat) : List O4 := List.replicate n z4
def spots (t : Bool) (n0 n1 n2 : Nat) : List Nd := itemsAt 0 0 (zs n0) ++ ⟨1, 0, z4⟩ :: (itemsAt 1 1 (zs n1) ++ cond t (⟨2, 0, z4⟩ :: itemsAt 2 1 (zs n2)) [])
theorem itemsAt_bare (s : Int) : ∀ (l : List O4) (j : Nat), (itemsAt s j l).map bare = itemsAt s j (zs l.length)
  | [], _ => rfl
  | x :: l, j => by
    show bare ⟨s, j, x⟩ :: (itemsAt s (j + 1) l).map bare = itemsAt s j (List.replicate (l.length + 1) z4)
    rw [itemsAt_bare s l (j + 1)]; rfl
theorem nodes_bare (h : Sh) (p : Pl) : (nodesT (p.T h)).map bare = spots h.t p.pre.length p.q1.length p.q2.length := by
  obtain ⟨e, f, t, u⟩ := h
  cases t
  · simp only [nodesT, Pl.T, stItems, spots, List.map_append, itemsAt_bare, List.map_cons, cond_false, List.append_nil]
    rfl
  · simp only [nodesT, Pl.T, stItems, spots, List.map_append, itemsAt_bare, List.map_cons, cond_true, List.append_nil]
    rfl
theorem ok_bare (r : Rt) (a : Nd) : r.ok (bare a) = r.ok a := by cases r <;> rfl
theorem idxs_bare (r : Rt) : ∀ (L : List Nd) (n : Int), idxs r (L.map bare) n = idxs r L n
  | [], _ => rfl
  | a :: L, n => by
    simp only [List.map_cons, idxs, ok_bare, idxs_bare r L (n + 1)]
theorem sgAt_bare : ∀ (L : List Nd) (c : Int), sgAt (L.map bare) c = sgAt L c
  | [], _ => rfl
  | a :: L, c => by
    simp only [List.map_cons, sgAt, sgAt_bare L (c - 1)]
    rfl
def noteS (t : Bool) (n0 n1 n2 : Nat) : List Int := idxs .pr (spots t n0 n1 n2) 0 ++ (idxs (.po 1) (spots t n0 n1 n2) 0 ++ cond t (idxs (.po 2) (spots t n0 n1 n2) 0) [])
def inS (t : Bool) (n0 n1 n2 : Nat) : List Int :=
  let N := (spots t n0 n1 n2).length
  let a := (List.replicate N (0 : Int)).set n0 1
  cond t (a.set (n0 + 1 + n1) 1) a
def mono : Nat → List Nd → Bool
  | 0, _ => true
  | n + 1, L => decide (n = 0) || (decide (sgAt L ((n : Int) - 1) ≤ sgAt L n) && mono n L)
def eqI (a b : List Int) : Bool := decide (a = b)
def tbl (t : Bool) (n0 n1 n2 : Nat) : Bool :=
  let L := spots t n0 n1 n2
  eqI (idxs (.st 1) L 0) [(n0 : Int)] && (eqI (idxs (.st 2) L 0) (cond t [(n0 : Int) + 1 + n1] []) &&
  (eqI (incs (inS t n0 n1 n2) (noteS t n0 n1 n2)) (List.replicate L.length 1) &&
  (decide ((noteS t n0 n1 n2).length ≤ 12) && (decide (L.length ≤ 14) && ((noteS t n0 n1 n2).all (fun n => decide (0 ≤ n) && decide (n < L.length)) &&
  (decide (sgAt L n0 = 1) && ((!t || decide (sgAt L ((n0 : Int) + 1 + n1) = 2)) && (mono L.length L &&
  (decide ((idxs .pr L 0).length = n0) && (decide ((idxs (.po 1) L 0).length = n1) && (!t || decide ((idxs (.po 2) L 0).length = n2))))))))))))
theorem tbl_all : ((List.range 5).all fun a => (List.range 5).all fun b => (List.range 5).all fun c => tbl true a b c && tbl false a b c) = true := by kernel_rfl
theorem tbl_ok (t : Bool) {n0 n1 n2 : Nat} (h0 : n0 ≤ 4) (h1 : n1 ≤ 4) (h2 : n2 ≤ 4) : tbl t n0 n1 n2 = true := by
  have := tbl_all
  simp only [List.all_eq_true, List.mem_range, Bool.and_eq_true] at this
  have := this n0 (by omega) n1 (by omega) n2 (by omega)
  cases t
  · exact this.2
  · exact this.1
end Go.Proofs.Ytompijagcjjamaa

namespace Go.Proofs.Ytompijagcjjamaa
open Ab
structure Fine (h : Sh) (p : Pl) : Prop where
  full : fullB h p = true
  nums : numsOk p = true
  pre : ∀ x ∈ p.pre, mayB x = true ∧ classE x = 0
  q1 : ∀ x ∈ p.q1, mayB x = true ∧ classE x = 0
  q2 : ∀ x ∈ p.q2, mayB x = true ∧ classE x = 0
  o1 : mayB p.o1 = true ∧ ¬ classE p.o1 = 0
  o2 : h.t = true → mayB p.o2 = true ∧ ¬ classE p.o2 = 0
def good (a : Nd) : Prop := checkE a.x = 0 ∧ (classE a.x = 0 ↔ ¬ (0 < a.s ∧ a.i = 0))
theorem good_err {a : Nd} (h : good a) : ndErr a = 0 := by
  obtain ⟨h1, h2⟩ := h
  by_cases hc : 0 < a.s ∧ a.i = 0
  · exact nd0 (b := true) h1 (by simp [hc]) (by simpa using fun h => (h2.1 h) hc)
  · exact nd0 (b := false) h1 (by simpa using hc) (by simpa using h2.2 hc)
theorem items_x {s : Int} {a : Nd} : ∀ {l : List O4} {j : Nat}, a ∈ itemsAt s j l → a.x ∈ l
  | [], _, h => by cases h
  | x :: l, j, h => by
    simp only [itemsAt, List.mem_cons] at h
    rcases h with rfl | h
    · exact List.mem_cons_self
    · exact List.mem_cons_of_mem _ (items_x h)
theorem good_items {s : Int} {j : Nat} {l : List O4} (hs : s ≤ 0 ∨ 1 ≤ j) (hl : ∀ x ∈ l, mayB x = true ∧ classE x = 0) {a : Nd} (ha : a ∈ itemsAt s j l) : good a := by
  obtain ⟨m1, m2⟩ := itemsAt_mem ha
  obtain ⟨c1, c2⟩ := hl _ (items_x ha)
  refine ⟨(e0 c1).symm, ⟨fun _ => ?_, fun _ => c2⟩⟩
  omega
theorem good_stage {s : Int} {x : O4} (hs : 0 < s) (h : mayB x = true ∧ ¬ classE x = 0) : good ⟨s, 0, x⟩ :=
  ⟨(e0 h.1).symm, ⟨fun hc => absurd hc h.2, fun hn => absurd ⟨hs, rfl⟩ hn⟩⟩
theorem good_nodes {h : Sh} {p : Pl} (k : Fine h p) : ∀ a ∈ nodesT (p.T h), good a := by
  intro a ha
  obtain ⟨e, f, t, u⟩ := h
  cases t
  · simp only [nodesT, Pl.T, stItems, List.mem_append, List.mem_cons, List.append_nil] at ha
    rcases ha with ha | rfl | ha
    · exact good_items (.inl (by omega)) k.pre ha
    · exact good_stage (by decide) k.o1
    · exact good_items (.inr (by omega)) k.q1 ha
  · simp only [nodesT, Pl.T, stItems, List.mem_append, List.mem_cons, List.append_nil] at ha
    rcases ha with ha | rfl | ha | rfl | ha
    · exact good_items (.inl (by omega)) k.pre ha
    · exact good_stage (by decide) k.o1
    · exact good_items (.inr (by omega)) k.q1 ha
    · exact good_stage (by decide) (k.o2 rfl)
    · exact good_items (.inr (by omega)) k.q2 ha
theorem ckFind_good : ∀ (L : List Nd) (n : Int), (∀ a ∈ L, good a) → ckFind L n = ⟨-1, 0⟩
  | [], _, _ => rfl
  | a :: L, n, h => by
    simp only [ckFind, good_err (h a List.mem_cons_self), decide_true]
    exact ckFind_good L (n + 1) fun b hb => h b (List.mem_cons_of_mem _ hb)
theorem ck_fine {h : Sh} {p : Pl} (k : Fine h p) : ckRes h p = ⟨-1, 0⟩ := ckFind_good _ _ (good_nodes k)
theorem idxs_mem {r : Rt} {c : Int} : ∀ {L : List Nd} {n : Int}, c ∈ idxs r L n → ∃ a ∈ L, r.ok a = true ∧ ∃ i : Nat, c = n + i ∧ L[i]? = some a
  | [], _, h => by cases h
  | a :: L, n, h => by
    cases hr : r.ok a with
    | true =>
      simp only [idxs, hr, List.mem_cons] at h
      rcases h with rfl | h
      · exact ⟨a, List.mem_cons_self, hr, 0, by omega, rfl⟩
      · obtain ⟨b, h1, h2, i, h3, h4⟩ := idxs_mem h
        exact ⟨b, List.mem_cons_of_mem _ h1, h2, i + 1, by omega, h4⟩
    | false =>
      simp only [idxs, hr] at h
      obtain ⟨b, h1, h2, i, h3, h4⟩ := idxs_mem h
      exact ⟨b, List.mem_cons_of_mem _ h1, h2, i + 1, by omega, h4⟩
theorem col_get (g : O4 → Int) (hg : g z4 = 0) (l : List O4) (i : Nat) : (l.map g).getD i 0 = g (l.getD i z4) := by
  simp only [List.getD_eq_getElem?_getD, List.getElem?_map]
  cases l[i]? with
  | none => exact hg.symm
  | some => rfl
theorem nds_get (h : Sh) (p : Pl) (i : Nat) : (⟨(k4 (ndsOf h p)).getD i 0, (a4 (ndsOf h p)).getD i 0, (b4 (ndsOf h p)).getD i 0, (g4 (ndsOf h p)).getD i 0⟩ : O4) = (ndsOf h p).getD i z4 := by
  simp only [k4, a4, b4, g4, col_get O4.k rfl, col_get O4.a rfl, col_get O4.b rfl, col_get O4.g rfl]
theorem idxs_class {h : Sh} {p : Pl} (k : Fine h p) {r : Rt} (hr : ∀ a, r.ok a = true → ¬ (0 < a.s ∧ a.i = 0)) {c : Int} (hc : c ∈ idxs r (nodesT (p.T h)) 0) : 0 ≤ c ∧ c < (ndsOf h p).length ∧ classE ((ndsOf h p).getD c.toNat z4) = 0 := by
  obtain ⟨a, h1, h2, i, h3, h4⟩ := idxs_mem hc
  have hi : i < (nodesT (p.T h)).length := (List.getElem?_eq_some_iff.1 h4).1
  have hg := good_nodes k a h1
  have e1 : (ndsOf h p).getD c.toNat z4 = a.x := by
    have : c.toNat = i := by omega
    rw [this, ndsOf, List.getD_eq_getElem?_getD, List.getElem?_map, h4]; rfl
  refine ⟨by omega, ?_, ?_⟩
  · rw [ndsOf, List.length_map]; omega
  · rw [e1]; exact hg.2.2 (hr a h2)
theorem pr_list (a : Nd) (h : Rt.ok .pr a = true) : ¬ (0 < a.s ∧ a.i = 0) := by
  simp only [Rt.ok, decide_eq_true_eq] at h; omega
theorem po_list (q : Int) (a : Nd) (h : Rt.ok (.po q) a = true) : ¬ (0 < a.s ∧ a.i = 0) := by
  simp only [Rt.ok, Bool.and_eq_true, decide_eq_true_eq, Bool.not_eq_true', decide_eq_false_iff_not] at h; omega
end Go.Proofs.Ytompijagcjjamaa

namespace Go.Proofs.Ytompijagcjjamaa
open Ab
theorem full_lens {h : Sh} {p : Pl} (hf : fullB h p = true) : p.pre.length ≤ 4 ∧ p.q1.length ≤ 4 ∧ p.q2.length ≤ 4 := by
  simp only [fullB, lens4, Bool.and_eq_true, decide_eq_true_eq] at hf
  exact ⟨hf.2.1.1, hf.2.1.2.1, hf.2.1.2.2⟩
theorem idx_spots (h : Sh) (p : Pl) (r : Rt) : idxs r (nodesT (p.T h)) 0 = idxs r (spots h.t p.pre.length p.q1.length p.q2.length) 0 := by
  rw [← nodes_bare, idxs_bare]
theorem sg_spots (h : Sh) (p : Pl) (c : Int) : sgN h p c = sgAt (spots h.t p.pre.length p.q1.length p.q2.length) c := by
  rw [← nodes_bare, sgAt_bare]; rfl
theorem nds_len (h : Sh) (p : Pl) : (ndsOf h p).length = (spots h.t p.pre.length p.q1.length p.q2.length).length := by
  rw [← nodes_bare, List.length_map, ndsOf, List.length_map]
structure Tb (t : Bool) (n0 n1 n2 : Nat) : Prop where
  s1 : idxs (.st 1) (spots t n0 n1 n2) 0 = [(n0 : Int)]
  s2 : idxs (.st 2) (spots t n0 n1 n2) 0 = cond t [(n0 : Int) + 1 + n1] []
  inc : incs (inS t n0 n1 n2) (noteS t n0 n1 n2) = List.replicate (spots t n0 n1 n2).length 1
  nl : (noteS t n0 n1 n2).length ≤ 12
  ll : (spots t n0 n1 n2).length ≤ 14
  g1 : sgAt (spots t n0 n1 n2) n0 = 1
  g2 : t = true → sgAt (spots t n0 n1 n2) ((n0 : Int) + 1 + n1) = 2
  mo : mono (spots t n0 n1 n2).length (spots t n0 n1 n2) = true
  lp : (idxs .pr (spots t n0 n1 n2) 0).length = n0
  l1 : (idxs (.po 1) (spots t n0 n1 n2) 0).length = n1
  l2 : t = true → (idxs (.po 2) (spots t n0 n1 n2) 0).length = n2
theorem tb (t : Bool) {n0 n1 n2 : Nat} (h0 : n0 ≤ 4) (h1 : n1 ≤ 4) (h2 : n2 ≤ 4) : Tb t n0 n1 n2 := by
  have := tbl_ok t h0 h1 h2
  simp only [tbl, eqI, Bool.and_eq_true, decide_eq_true_eq, Bool.or_eq_true, Bool.not_eq_true'] at this
  obtain ⟨a1, a2, a3, a4, a5, _, a7, a8, a9, b1, b2, b3⟩ := this
  exact ⟨a1, a2, a3, a4, a5, a7, fun ht => a8.resolve_left (by simp [ht]), a9, b1, b2, fun ht => b3.resolve_left (by simp [ht])⟩
theorem mono_at {L : List Nd} : ∀ {n : Nat}, mono n L = true → ∀ i : Nat, 1 ≤ i → i < n → sgAt L ((i : Int) - 1) ≤ sgAt L i
  | 0, _, i, _, h => by omega
  | n + 1, hm, i, h1, h2 => by
    simp only [mono, Bool.or_eq_true, Bool.and_eq_true, decide_eq_true_eq] at hm
    rcases hm with h | ⟨a, b⟩
    · omega
    · by_cases hi : i = n
      · subst hi; exact a
      · exact mono_at b i h1 (by omega)
section
variable {h : Sh} {p : Pl}
theorem Fine.lens (k : Fine h p) : p.pre.length ≤ 4 ∧ p.q1.length ≤ 4 ∧ p.q2.length ≤ 4 := full_lens k.full
theorem Fine.tb (k : Fine h p) : Tb h.t p.pre.length p.q1.length p.q2.length := by
  obtain ⟨a, b, c⟩ := k.lens
  exact Proofs.Ytompijagcjjamaa.tb h.t a b c
theorem Fine.wf (k : Fine h p) : wfOk h (Pc.of p) = true := by
  simp only [wfOk, Pc.of_wf, Pc.of_pl, full_sound k.full, Bool.and_self]
theorem Fine.fullOk (k : Fine h p) : fullOk h (Pc.of p) = true := by
  simp only [Proofs.Ytompijagcjjamaa.fullOk, Pc.of_wf, Pc.of_pl, k.full, Bool.and_self]
theorem Fine.ckOk (k : Fine h p) : ckOk h (Pc.of p) = true := by
  simp only [Proofs.Ytompijagcjjamaa.ckOk, chD, Pc.of_wf, Pc.of_pl, full_sound k.full, k.nums, Bool.and_self]
theorem Fine.ckN (k : Fine h p) : ckNc h (Pc.of p) = -1 := by
  rw [ckNc, Pc.of_pl, ck_fine k]
theorem Fine.ckE (k : Fine h p) : ckEc h (Pc.of p) = 0 := by
  rw [ckEc, Pc.of_pl, ck_fine k]
theorem Fine.of1 (k : Fine h p) : ofNc h (Pc.of p) 1 = (p.pre.length : Int) := by
  rw [ofNc, Pc.of_pl, ofN, thAll_eq, idx_spots, k.tb.s1]; rfl
theorem Fine.of2 (k : Fine h p) (ht : h.t = true) : ofNc h (Pc.of p) 2 = (p.pre.length : Int) + 1 + p.q1.length := by
  rw [ofNc, Pc.of_pl, ofN, thAll_eq, idx_spots, k.tb.s2, ht]; rfl
theorem Fine.ofOk1 (k : Fine h p) : ofOkc h ⟨Pc.of p, 1⟩ = true := by
  simp only [ofOkc, ofD, ofOk, Pc.of_wf, Pc.of_pl, full_sound k.full, thAll_eq, idx_spots, k.tb.s1, isNil, Bool.and_self, Bool.not_false]
theorem Fine.ofOk2 (k : Fine h p) (ht : h.t = true) : ofOkc h ⟨Pc.of p, 2⟩ = true := by
  have := k.tb.s2
  rw [ht] at this
  simp only [ofOkc, ofD, ofOk, Pc.of_wf, Pc.of_pl, full_sound k.full, thAll_eq, idx_spots, ht, this, cond_true, isNil, Bool.and_self, Bool.not_false]
theorem Fine.sg1 (k : Fine h p) : sgNc h (Pc.of p) (p.pre.length : Int) = 1 := by
  rw [sgNc, Pc.of_pl, sg_spots, k.tb.g1]
theorem Fine.sg2 (k : Fine h p) (ht : h.t = true) : sgNc h (Pc.of p) ((p.pre.length : Int) + 1 + p.q1.length) = 2 := by
  rw [sgNc, Pc.of_pl, sg_spots, k.tb.g2 ht]
theorem Fine.ndlen (k : Fine h p) : ((ndsC h (Pc.of p)).k.length : Int) = h.N p := by
  show ((k4 (ndsOf h (Pc.of p).pl)).length : Int) = _
  rw [k4_length, Pc.of_pl, ndsOf, List.length_map, ← List.length_map (f := bare), nodes_bare]
  obtain ⟨e, f, t, u⟩ := h
  cases t <;> simp [spots, Sh.N, itemsAt_length, zs] <;> omega
theorem Fine.ndlen14 (k : Fine h p) : (ndsC h (Pc.of p)).k.length ≤ 14 := by
  show (k4 (ndsOf h (Pc.of p).pl)).length ≤ 14
  rw [k4_length, Pc.of_pl, nds_len]
  exact k.tb.ll
end
end Go.Proofs.Ytompijagcjjamaa

namespace Go.Proofs.Ytompijagcjjamaa
open Ab
section
variable {h : Sh} {p : Pl}
theorem nds_eq (h : Sh) (p : Pl) : ndsOf h p = p.pre ++ p.o1 :: (p.q1 ++ cond h.t (p.o2 :: p.q2) []) := by
  obtain ⟨e, f, t, u⟩ := h
  have hx : ∀ (s : Int) (l : List O4) (j : Nat), (itemsAt s j l).map Nd.x = l := by
    intro s l
    induction l with
    | nil => intro j; rfl
    | cons x l ih => intro j; simp only [itemsAt, List.map_cons, ih]
  cases t <;> simp [ndsOf, nodesT, Pl.T, stItems, hx]
theorem nds_o1 (h : Sh) (p : Pl) : (ndsOf h p).getD p.pre.length z4 = p.o1 := by
  rw [nds_eq, List.getD_eq_getElem?_getD, List.getElem?_append_right (Nat.le_refl _), Nat.sub_self]; rfl
theorem nds_o2 (p : Pl) (ht : h.t = true) : (ndsOf h p).getD (p.pre.length + 1 + p.q1.length) z4 = p.o2 := by
  rw [nds_eq, ht, List.getD_eq_getElem?_getD, List.getElem?_append_right (by omega), show p.pre.length + 1 + p.q1.length - p.pre.length = p.q1.length + 1 by omega, List.getElem?_cons_succ, List.getElem?_append_right (Nat.le_refl _), Nat.sub_self]; rfl
def ndAt (c : Cs) (i : Nat) : O4 := ⟨c.k.getD i 0, c.a.getD i 0, c.b.getD i 0, c.g.getD i 0⟩
theorem ndAt_eq (h : Sh) (p : Pl) (i : Nat) : ndAt (ndsC h (Pc.of p)) i = (ndsOf h p).getD i z4 := by
  rw [ndAt, ndsC, Pc.of_pl]
  exact nds_get h p i
theorem Fine.at1 (k : Fine h p) : ndAt (ndsC h (Pc.of p)) (0 + Int.toNat (ofNc h (Pc.of p) 1)) = p.o1 := by
  rw [ndAt_eq, k.of1, Nat.zero_add, Int.toNat_natCast, nds_o1]
theorem Fine.at2 (k : Fine h p) (ht : h.t = true) : ndAt (ndsC h (Pc.of p)) (0 + Int.toNat (ofNc h (Pc.of p) 2)) = p.o2 := by
  rw [ndAt_eq, k.of2 ht, Nat.zero_add, show ((p.pre.length : Int) + 1 + p.q1.length).toNat = p.pre.length + 1 + p.q1.length by omega, nds_o2 p ht]
theorem Fine.po1 (k : Fine h p) : (poNc h (Pc.of p) 1).length = p.q1.length := by
  rw [poNc, Pc.of_pl, poN, thAll_eq, idx_spots, k.tb.l1]
theorem Fine.po2 (k : Fine h p) (ht : h.t = true) : (poNc h (Pc.of p) 2).length = p.q2.length := by
  rw [poNc, Pc.of_pl, poN, thAll_eq, idx_spots, k.tb.l2 ht]
theorem Fine.pr (k : Fine h p) : (prC h (Pc.of p)).length = p.pre.length := by
  rw [prC, Pc.of_pl, prL, thAll_eq, idx_spots, k.tb.lp]
theorem isNil_len (l : List Int) : isNil l = decide (l.length = 0) := by cases l <;> simp [isNil]
theorem Fine.q1f (k : Fine h p) : (h.f = true → p.q1.length = 0) ∧ (h.f = false → 1 ≤ p.q1.length) := by
  have hf := k.full
  simp only [fullB, Bool.and_eq_true, Bool.or_eq_true, decide_eq_true_eq] at hf
  obtain ⟨n1, n2, n3, n4⟩ := normB_iff.1 hf.1
  exact ⟨fun he => by rw [n2 he]; rfl, fun he => hf.2.2.2.1.resolve_left (by simp [he])⟩
theorem Fine.q2f (k : Fine h p) : (h.u2 = true → p.q2.length = 0) ∧ (h.u2 = false → 1 ≤ p.q2.length) := by
  have hf := k.full
  simp only [fullB, Bool.and_eq_true, Bool.or_eq_true, decide_eq_true_eq] at hf
  obtain ⟨n1, n2, n3, n4⟩ := normB_iff.1 hf.1
  exact ⟨fun he => by rw [n3 he]; rfl, fun he => hf.2.2.2.2.resolve_left (by simp [he])⟩
theorem Fine.pref (k : Fine h p) : (h.e = true → p.pre.length = 0) ∧ (h.e = false → 1 ≤ p.pre.length) := by
  have hf := k.full
  simp only [fullB, Bool.and_eq_true, Bool.or_eq_true, decide_eq_true_eq] at hf
  obtain ⟨n1, n2, n3, n4⟩ := normB_iff.1 hf.1
  exact ⟨fun he => by rw [n1 he]; rfl, fun he => hf.2.2.1.resolve_left (by simp [he])⟩
theorem Fine.poN1 (k : Fine h p) (hf : h.f = true) : poOkN h ⟨Pc.of p, 1⟩ = true := by
  have := k.po1
  rw [k.q1f.1 hf, poNc, Pc.of_pl] at this
  simp only [poOkN, poCN, Pc.of_wf, Pc.of_pl, full_sound k.full, isNil_len, this, decide_true, Bool.and_self]
theorem Fine.poO1 (k : Fine h p) (hf : h.f = false) : poOkO h ⟨Pc.of p, 1⟩ = true := by
  have h1 := k.po1
  have h2 := k.q1f.2 hf
  rw [poNc, Pc.of_pl] at h1
  simp only [poOkO, poCO, Pc.of_wf, Pc.of_pl, full_sound k.full, isNil_len, Bool.true_and, Bool.not_eq_true', decide_eq_false_iff_not]
  omega
theorem Fine.poN2 (k : Fine h p) (ht : h.t = true) (hf : h.u2 = true) : poOkN h ⟨Pc.of p, 2⟩ = true := by
  have := k.po2 ht
  rw [k.q2f.1 hf, poNc, Pc.of_pl] at this
  simp only [poOkN, poCN, Pc.of_wf, Pc.of_pl, full_sound k.full, isNil_len, this, decide_true, Bool.and_self]
theorem Fine.poO2 (k : Fine h p) (ht : h.t = true) (hf : h.u2 = false) : poOkO h ⟨Pc.of p, 2⟩ = true := by
  have h1 := k.po2 ht
  have h2 := k.q2f.2 hf
  rw [poNc, Pc.of_pl] at h1
  simp only [poOkO, poCO, Pc.of_wf, Pc.of_pl, full_sound k.full, isNil_len, Bool.true_and, Bool.not_eq_true', decide_eq_false_iff_not]
  omega
theorem Fine.noteP (k : Fine h p) {r : Rt} (hr : ∀ a, r.ok a = true → ¬ (0 < a.s ∧ a.i = 0)) : okNote (ndsC h (Pc.of p)) (thAll ((Pc.of p).pl.T h) r) := by
  intro c hc
  rw [Pc.of_pl, thAll_eq] at hc
  obtain ⟨h1, h2, h3⟩ := idxs_class k hr hc
  refine ⟨h1, ?_, ?_⟩
  · show c < ((k4 (ndsOf h (Pc.of p).pl)).length : Int)
    rw [k4_length, Pc.of_pl]; exact h2
  · have := ndAt_eq h p c.toNat
    rw [← this] at h3
    exact h3
theorem okNote_app {l : Cs} {a b : List Int} (h1 : okNote l a) (h2 : okNote l b) : okNote l (a ++ b) := by
  intro c hc
  rcases List.mem_append.1 hc with hc | hc
  · exact h1 c hc
  · exact h2 c hc
theorem ck_bad {c : Pc} (hf : firstBad c) : ckEc h c = 13 := by
  have hb : ∀ s i : Int, ndErr ⟨s, i, bad⟩ = 13 := fun s i => nd13 (by simp [checkE, bad, mayB])
  have go : ∀ (a : Nd) (L : List Nd) (n : Int), ndErr a = 13 → (ckFind (a :: L) n).e = 13 := by
    intro a L n h; simp only [ckFind, h]; rfl
  rw [fb_iff, fstBad] at hf
  rw [ckEc, ckRes]
  generalize c.pl = q at hf
  obtain ⟨pre, o1, q1, o2, q2, la, ep⟩ := q
  obtain ⟨e, f, t, u⟩ := h
  cases pre with
  | nil =>
    simp only at hf
    subst hf
    cases t <;> exact go _ _ _ (hb _ _)
  | cons x l =>
    simp only at hf
    subst hf
    cases t <;> exact go _ _ _ (hb _ _)
end
end Go.Proofs.Ytompijagcjjamaa

namespace Go.Proofs.Ytompijagcjjamaa
open Ab
theorem rep0 (N a : Nat) : (List.replicate N (0 : Int)).getD a 0 = 0 := by
  rw [List.getD_eq_getElem?_getD, List.getElem?_replicate]
  split <;> rfl
theorem wr1 : wr .i64 ((0 : Int) + 1) = 1 := by rw [wr_in ⟨by omega, by omega⟩]; rfl
theorem set1 (N a : Nat) : (List.replicate N (0 : Int)).set a (wr .i64 ((List.replicate N (0 : Int)).getD a 0 + 1)) = (List.replicate N (0 : Int)).set a 1 := by
  rw [rep0, wr1]
theorem set2 (N : Nat) {a b : Nat} (hab : a ≠ b) : ((List.replicate N (0 : Int)).set a 1).set b (wr .i64 (((List.replicate N (0 : Int)).set a 1).getD b 0 + 1)) = ((List.replicate N (0 : Int)).set a 1).set b 1 := by
  have : ((List.replicate N (0 : Int)).set a 1).getD b 0 = 0 := by
    rw [List.getD_eq_getElem?_getD, List.getElem?_set_ne hab, ← List.getD_eq_getElem?_getD, rep0]
  rw [this, wr1]
section
variable {h : Sh} {p : Pl}
theorem Fine.ndlenS (k : Fine h p) : (ndsC h (Pc.of p)).k.length = (spots h.t p.pre.length p.q1.length p.q2.length).length := by
  show (k4 (ndsOf h (Pc.of p).pl)).length = _
  rw [k4_length, Pc.of_pl, nds_len]
def vOf (t : Bool) (N a b : Nat) : List Int := cond t (((List.replicate N (0 : Int)).set a 1).set b 1) ((List.replicate N (0 : Int)).set a 1)
theorem Fine.vS (k : Fine h p) : vOf h.t (ndsC h (Pc.of p)).k.length (ofNc h (Pc.of p) 1).toNat (ofNc h (Pc.of p) 2).toNat = inS h.t p.pre.length p.q1.length p.q2.length := by
  rw [k.of1, Int.toNat_natCast, k.ndlenS]
  cases ht : h.t
  · rfl
  · rw [k.of2 ht, show ((p.pre.length : Int) + 1 + p.q1.length).toNat = p.pre.length + 1 + p.q1.length by omega]; rfl
theorem vOf_len (t : Bool) (N a b : Nat) : (vOf t N a b).length = N := by cases t <;> simp [vOf]
theorem vOf_rng (t : Bool) (N a b : Nat) : ∀ c ∈ vOf t N a b, 0 ≤ c ∧ c ≤ 10 := by
  intro c hc
  cases t
  · rcases List.mem_or_eq_of_mem_set hc with hc | rfl
    · rw [(List.mem_replicate.1 hc).2]; omega
    · omega
  · rcases List.mem_or_eq_of_mem_set hc with hc | rfl
    · rcases List.mem_or_eq_of_mem_set hc with hc | rfl
      · rw [(List.mem_replicate.1 hc).2]; omega
      · omega
    · omega
def noteOf (h : Sh) (y : Pc) : List Int := prC h y ++ (poNc h y 1 ++ cond h.t (poNc h y 2) [])
theorem Fine.noteS (k : Fine h p) : noteOf h (Pc.of p) = noteS h.t p.pre.length p.q1.length p.q2.length := by
  simp only [noteOf, prC, poNc, prL, poN, Pc.of_pl, thAll_eq, idx_spots, Proofs.Ytompijagcjjamaa.noteS]
theorem Fine.okNote (k : Fine h p) : okNote (ndsC h (Pc.of p)) (noteOf h (Pc.of p)) := by
  refine okNote_app (k.noteP pr_list) (okNote_app (k.noteP (po_list 1)) ?_)
  cases h.t
  · intro c hc; cases hc
  · exact k.noteP (po_list 2)
theorem Fine.mb (k : Fine h p) : okMb h ⟨Pc.of p, ndsC h (Pc.of p), vOf h.t (ndsC h (Pc.of p)).k.length (ofNc h (Pc.of p) 1).toNat (ofNc h (Pc.of p) 2).toNat, noteOf h (Pc.of p)⟩ = true := by
  unfold okMb
  refine @decide_eq_true _ (_) ⟨k.okNote, ?_, ?_, ?_, ?_, ?_, k.wf⟩
  · show (noteOf h (Pc.of p)).length ≤ 100
    rw [k.noteS]; have := k.tb.nl; omega
  · have := k.ndlen14; show (ndsC h (Pc.of p)).k.length ≤ 100; omega
  · exact vOf_len _ _ _ _
  · exact vOf_rng _ _ _ _
  · intro hn
    simp only [Sh.nn] at hn
    obtain ⟨he, hf, hu⟩ : h.e = true ∧ h.f = true ∧ h.u2 = true := by
      cases h1 : h.e <;> cases h2 : h.f <;> cases h3 : h.u2 <;> simp [h1, h2, h3] at hn ⊢
    have l0 := k.pr
    have l1 := k.po1
    rw [k.pref.1 he] at l0
    rw [k.q1f.1 hf] at l1
    have e0 := List.length_eq_zero_iff.1 l0
    have e1 := List.length_eq_zero_iff.1 l1
    show noteOf h (Pc.of p) = []
    rw [noteOf, e0, e1]
    cases ht : h.t
    · rfl
    · have l2 := k.po2 ht
      rw [k.q2f.1 hu] at l2
      rw [List.length_eq_zero_iff.1 l2]; rfl
theorem Fine.mc (k : Fine h p) : okMc h ⟨Pc.of p, ndsC h (Pc.of p), incs (vOf h.t (ndsC h (Pc.of p)).k.length (ofNc h (Pc.of p) 1).toNat (ofNc h (Pc.of p) 2).toNat) (noteOf h (Pc.of p)), []⟩ = true := by
  unfold okMc
  refine @decide_eq_true _ (_) ⟨?_, ?_, ?_, k.wf⟩
  · show incs _ _ = _
    rw [k.vS, k.noteS, k.tb.inc, k.ndlenS]
  · have := k.ndlen14; show (ndsC h (Pc.of p)).k.length ≤ 100; omega
  · intro i h1 h2
    have h2 : i < (ndsC h (Pc.of p)).k.length := h2
    rw [k.ndlenS] at h2
    show sgNc h (Pc.of p) _ ≤ sgNc h (Pc.of p) _
    rw [sgNc, sgNc, Pc.of_pl, sg_spots, sg_spots]
    exact mono_at k.tb.mo i h1 h2
theorem Fine.md (k : Fine h p) : okMd h ⟨Pc.of p, ndsC h (Pc.of p), Pc.of p⟩ = true := by
  unfold okMd
  refine @decide_eq_true _ (_) ⟨k.wf, k.wf, ?_, ?_⟩
  · have := k.ndlen
    rw [show (Pc.of p).pl = p from Pc.of_pl _]; exact this
  · have := k.ndlen14; show (ndsC h (Pc.of p)).k.length ≤ 100; omega
theorem Fine.after (k : Fine h p) {l : Cs} {c : Pc} (ha : putAll h ⟨Pc.of p, l, Pc.of p⟩ c) : Proofs.Ytompijagcjjamaa.ckOk h c = true ∧ ckEc h c = 13 ∧ (h.e = true → c.pre = Cs.nil) ∧ (h.f = true → c.q1 = Cs.nil) ∧ (h.u2 = true → c.q2 = Cs.nil) ∧ (h.t = false → c.o2 = z4) := by
  obtain ⟨⟨hw, _, _, _, hl, he⟩, hb⟩ := ha
  refine ⟨?_, ck_bad hb, norm_pc hw⟩
  have hn := k.nums
  simp only [wfOk, Bool.and_eq_true] at hw
  simp only [Proofs.Ytompijagcjjamaa.ckOk, chD, Bool.and_eq_true]
  refine ⟨hw.1, hw.2, ?_⟩
  have e1 : c.pl.la = p.la := hl
  have e2 : c.pl.ep = p.ep := he
  simp only [numsOk, e1, e2] at hn ⊢
  exact hn
end
end Go.Proofs.Ytompijagcjjamaa

namespace Go.Proofs.Ytompijagcjjamaa
open Ab
section
variable {E : Nat → Nat → Seg} {ra : Nat → Nat → Nat × Nat} {base : Nat} {h : Sh}
theorem Fine.sgo {p : Pl} (k : Fine h p) {i : Int} (h1 : 0 ≤ i) (h2 : i ≤ 1000) : sgOkc h ⟨Pc.of p, i⟩ = true := sgOk_of k.wf h1 h2
theorem incs_len : ∀ (l v : List Int), (incs v l).length = v.length
  | [], _ => rfl
  | _ :: l, v => by rw [incs, incs_len l, List.length_set]
variable {Q : State → Prop} {y : Pc} {l : Cs} {t : TQ}
theorem kC_holds {us : List AVal} {c : Bool} (hc : c = true) (ht : t.holds Q) : (kC h y us c t).holds Q := ⟨eB_eq (ok_plB h 0 y), eV_eq us, hc, ht⟩
theorem br_no {c : Bool} {a b : TQ} (hc : c = false) (hb : b.holds Q) : (TreeQ.br c a b).holds Q := by
  subst hc; exact ⟨fun h => absurd h Bool.false_ne_true, fun _ => hb⟩
theorem eT_self {ts us : List (Nat × AVal)} {Bs Ds : List Blk} (h1 : ts = us) (h2 : Bs = Ds) (h3 : okBs Bs = true) : eT ts Bs us Ds = true := by
  subst h1; subst h2; simp only [eT, sameL_self, sameBl_self h3, Bool.and_self]
theorem ok_bsN {k : Bool} {n : Nat} {v note : List Int} : okBs (bsN h k y l n v note) = true := by
  have := ok_plB h (bdN k) y
  cases k <;> exact this
theorem ntT_holds {b : Bool} {n : Nat} {v note : List Int} (hn : n = v.length) (hp : okN h ⟨b, ⟨y, l, v, note⟩⟩ = true) (ht : t.holds Q) : (ntT h b y l n v note t).holds Q := by
  subst hn
  exact ⟨eT_self rfl rfl ok_bsN, hp, fun _ _ => ht⟩
theorem stT_holds {z K : Int} {o : O4} {n : Nat} (h1 : ofOkc h ⟨y, z⟩ = true) (h2 : 0 ≤ K) (h3 : K < l.k.length) (h4 : sgOkc h ⟨y, K⟩ = true) (h5 : sgNc h y K = z) (h6 : ¬ classE (nd1 l K) = 0) (h7 : nd1 l K = o) (h8 : n = l.k.length) (ht : t.holds Q) : (stT h y l z o n K t).holds Q := by
  subst h7; subst h8
  obtain ⟨i, rfl⟩ : ∃ i : Nat, K = i := ⟨K.toNat, (Int.toNat_of_nonneg h2).symm⟩
  have a1 := inL_of (i := i) (n := l.k.length) (by omega)
  have a2 := nL_of (i := i) (n := l.k.length) (by omega)
  refine kC_holds h1 (br_no (decide_eq_false (by omega)) (br_no (decide_eq_false (by omega)) (kC_holds h4 (br_no (by rw [h5]; simp) ⟨a1, a2, eV_eq _, br_no (decide_eq_false h6) ⟨a1, a2, br_no (by rw [same4_self]; rfl) ⟨a1, a2, a1, a2, ht⟩⟩⟩))))
theorem mmF_holds {p : Pl} (k : Fine h p) (ht : t.holds Q) : (mmF h (Pc.of p) (ndsC h (Pc.of p)) t).holds Q := by
  have n2 := k.ndlen14
  refine kC_holds k.ckOk (br_no (by rw [k.ckN]; rfl) (br_no (by rw [k.ckE]; rfl) (kC_holds k.wf ⟨?_, kC_holds k.fullOk ht⟩)))
  simp only [Bool.and_eq_true, decide_eq_true_eq]
  omega
theorem enT_holds {p : Pl} (k : Fine h p) {v note : List Int} {n : Nat} (hn : n = v.length) (hb : okMb h ⟨Pc.of p, ndsC h (Pc.of p), v, note⟩ = true) (hc : okMc h ⟨Pc.of p, ndsC h (Pc.of p), incs v note, []⟩ = true) : (enT h (Pc.of p) (ndsC h (Pc.of p)) n v note).holds fun x => x = (.ret, mkT 230 [(2, .bool true)], []) := by
  subst hn
  have n2 := k.ndlen14
  have okD : ∀ c, okBs ((dD h).blks ⟨Pc.of p, ndsC h (Pc.of p), c⟩) = true := by
    intro c
    obtain ⟨e, f, t, u⟩ := h
    cases e <;> cases f <;> cases t <;> cases u <;> rfl
  have okE : ∀ c, okBs ((eD h).blks ⟨ndsC h (Pc.of p), c⟩) = true := fun c => ok_plB h 3 c
  refine ⟨eT_self rfl rfl (by have := ok_bsN (h := h) (y := Pc.of p) (l := ndsC h (Pc.of p)) (k := h.nn) (n := v.length) (v := v) (note := note); exact this), hb, fun _ _ => ⟨eT_self (by simp only [cD, tsN, incs_len]) (by simp only [cD, bsN, nB, bdN, intsB, incs_len, cond_true]; rfl) ok_bsN, hc, fun _ _ => ?_⟩⟩
  refine kC_holds k.fullOk (kC_holds k.wf ⟨by simp, by simp, by simp, eT_self rfl rfl (okD _), k.md, fun c hc => ?_⟩)
  obtain ⟨a1, a2, _⟩ := k.after hc
  have hw : wfOk h c = true := hc.1.1
  rw [nrm_eq hw]
  refine kC_holds k.wf ⟨eT_self rfl rfl (okE c), ?_, fun _ _ => kC_holds a1 ?_⟩
  · simp only [okMe, Bool.and_eq_true]
    exact ⟨hw, decide_eq_true (by omega)⟩
  · show (_, _, _) = _
    rw [a2]; rfl
theorem nz_eq {b : Bool} {l : List Int} (h : b = true → l = []) : nz b l = l := by
  cases b
  · rfl
  · exact (h rfl).symm
theorem mt_ok (hE : Plain E) (hS : SumsOK Try.prog E ra base (SM h)) {p : Pl} (k : Fine h p) : Takes Try.prog E ra base 0 (codeOf 3 [true, true, true]) (mkT 230 [(3, .ptr (.own 0 0 0 0))]) (hp 0 (Pc.boxI (h.ids 1) h (Pc.of p) :: plB h 1 (Pc.of p))) fun x => x = (.ret, mkT 230 [(2, .bool true)], []) := by
  have n2 := k.ndlen14
  have n1 := k.ndlen
  have o1 := k.of1
  have le := k.lens
  have lp := k.pr
  have l1 := k.po1
  have r1 : 0 ≤ ofNc h (Pc.of p) 1 := by omega
  have r1' : ofNc h (Pc.of p) 1 < ((ndsC h (Pc.of p)).k.length : Int) := by
    rw [n1, o1]; simp only [Sh.N]; cases h.t <;> simp only [cond_true, cond_false] <;> omega
  have g1 := k.sg1
  rw [← o1] at g1
  have q1 := k.sgo r1 (by omega)
  have mb := k.mb
  have mc := k.mc
  have nrm := nrm_eq k.wf
  have z0 : no0 h (Pc.of p) = prC h (Pc.of p) := nz_eq fun he => List.length_eq_zero_iff.1 (lp.trans (k.pref.1 he))
  have p1n : h.f = true → poNc h (Pc.of p) 1 = [] := fun hf => List.length_eq_zero_iff.1 (l1.trans (k.q1f.1 hf))
  have v1 : v1O h (Pc.of p) (List.replicate (ndsC h (Pc.of p)).k.length (0 : Int)) = (List.replicate (ndsC h (Pc.of p)).k.length (0 : Int)).set (ofNc h (Pc.of p) 1).toNat 1 := by
    rw [v1O, inc1, Nat.zero_add, set1]
  have z1 : no1 h (Pc.of p) (ndsC h (Pc.of p)) (List.replicate (ndsC h (Pc.of p)).k.length (0 : Int)) = prC h (Pc.of p) ++ poNc h (Pc.of p) 1 := by
    have : ntOf h false ⟨Pc.of p, ndsC h (Pc.of p), v1O h (Pc.of p) (List.replicate (ndsC h (Pc.of p)).k.length (0 : Int)), no0 h (Pc.of p)⟩ = prC h (Pc.of p) ++ poNc h (Pc.of p) 1 := by
      rw [z0]
      simp only [ntOf, Sh.pn, Sh.ni, cond_false, zN]
      cases hf : h.f
      · cases he : h.e
        · rfl
        · rw [List.length_eq_zero_iff.1 (lp.trans (k.pref.1 he))]; rfl
      · rw [p1n hf, List.append_nil]; rfl
    rw [no1, this]
    refine nz_eq fun hn => ?_
    simp only [Sh.no, Sh.ni, Sh.pn, cond_false] at hn
    cases he : h.e
    · rw [he] at hn; cases hn
    · rw [he] at hn
      rw [p1n hn, List.length_eq_zero_iff.1 (lp.trans (k.pref.1 he))]; rfl
  have okn1 : okN h ⟨false, ⟨Pc.of p, ndsC h (Pc.of p), v1O h (Pc.of p) (List.replicate (ndsC h (Pc.of p)).k.length (0 : Int)), no0 h (Pc.of p)⟩⟩ = true := by
    rw [z0]
    simp only [okN, Bool.and_eq_true, decide_eq_true_eq, Sh.pn, cond_false, zN]
    refine ⟨k.wf, by omega, ?_, decide_eq_true (by omega), ?_⟩
    · cases hf : h.f
      · exact k.poO1 hf
      · exact k.poN1 hf
    · cases hf : h.f
      · have q := k.q1f.2 hf; rw [← l1] at q; exact decide_eq_true q
      · rfl
  cases ht : h.t
  · refine takes_of_treeQ hE (W_ok hS noL_ok) (MM_ok hE hS) (.inr (by kernel_rfl)) (hp_below _) (mm_one h ht E (Pc.of p)) ?_
    rw [nrm]
    refine mmF_holds k (stT_holds k.ofOk1 r1 r1' q1 g1 (by have := k.o1.2; rw [show nd1 (ndsC h (Pc.of p)) (ofNc h (Pc.of p) 1) = p.o1 from k.at1]; exact this) k.at1 rfl (ntT_holds (by rw [v1, List.length_set, List.length_replicate]) okn1 (enT_holds k rfl ?_ ?_)))
    · rw [z1, v1]
      simp only [vOf, noteOf, ht, cond_false, List.append_nil] at mb
      exact mb
    · rw [z1, v1]
      simp only [vOf, noteOf, ht, cond_false, List.append_nil] at mc
      exact mc
  · have o2 := k.of2 ht
    have l2 := k.po2 ht
    have r2 : 0 ≤ ofNc h (Pc.of p) 2 := by omega
    have r2' : ofNc h (Pc.of p) 2 < ((ndsC h (Pc.of p)).k.length : Int) := by
      rw [n1, o2]; simp only [Sh.N, ht, cond_true]; omega
    have g2 := k.sg2 ht
    rw [← o2] at g2
    have q2 := k.sgo r2 (by omega)
    have hne : (ofNc h (Pc.of p) 1).toNat ≠ (ofNc h (Pc.of p) 2).toNat := by omega
    have v2 : v2O h (Pc.of p) (List.replicate (ndsC h (Pc.of p)).k.length (0 : Int)) = ((List.replicate (ndsC h (Pc.of p)).k.length (0 : Int)).set (ofNc h (Pc.of p) 1).toNat 1).set (ofNc h (Pc.of p) 2).toNat 1 := by
      rw [v2O, v1, inc1, Nat.zero_add, set2 _ hne]
    have p2n : h.u2 = true → poNc h (Pc.of p) 2 = [] := fun hf => List.length_eq_zero_iff.1 (l2.trans (k.q2f.1 hf))
    have z2 : no2 h (Pc.of p) (ndsC h (Pc.of p)) (List.replicate (ndsC h (Pc.of p)).k.length (0 : Int)) = prC h (Pc.of p) ++ (poNc h (Pc.of p) 1 ++ poNc h (Pc.of p) 2) := by
      have e0 : h.ni true = true → prC h (Pc.of p) ++ poNc h (Pc.of p) 1 = [] := by
        intro hn
        simp only [Sh.ni, cond_true] at hn
        cases he : h.e
        · rw [he] at hn; cases hn
        · rw [he] at hn
          rw [p1n hn, List.length_eq_zero_iff.1 (lp.trans (k.pref.1 he))]; rfl
      have : ntOf h true ⟨Pc.of p, ndsC h (Pc.of p), v2O h (Pc.of p) (List.replicate (ndsC h (Pc.of p)).k.length (0 : Int)), no1 h (Pc.of p) (ndsC h (Pc.of p)) (List.replicate (ndsC h (Pc.of p)).k.length (0 : Int))⟩ = prC h (Pc.of p) ++ (poNc h (Pc.of p) 1 ++ poNc h (Pc.of p) 2) := by
        rw [z1, ← List.append_assoc]
        simp only [ntOf, Sh.pn, cond_true, zN]
        cases hf : h.u2
        · cases hn : h.ni true
          · rfl
          · rw [e0 hn]; rfl
        · rw [p2n hf, List.append_nil]; rfl
      rw [no2, this]
      refine nz_eq fun hn => ?_
      simp only [Sh.no, Sh.pn, cond_true] at hn
      cases hb : h.ni true
      · rw [hb] at hn; cases hn
      · rw [hb] at hn
        rw [← List.append_assoc, e0 hb, p2n hn]; rfl
    have okn2 : okN h ⟨true, ⟨Pc.of p, ndsC h (Pc.of p), v2O h (Pc.of p) (List.replicate (ndsC h (Pc.of p)).k.length (0 : Int)), no1 h (Pc.of p) (ndsC h (Pc.of p)) (List.replicate (ndsC h (Pc.of p)).k.length (0 : Int))⟩⟩ = true := by
      rw [z1]
      simp only [okN, Bool.and_eq_true, decide_eq_true_eq, Sh.pn, cond_true, zN, List.length_append]
      refine ⟨k.wf, by omega, ?_, decide_eq_true (by omega), ?_⟩
      · cases hf : h.u2
        · exact k.poO2 ht hf
        · exact k.poN2 ht hf
      · cases hf : h.u2
        · have q := k.q2f.2 hf; rw [← l2] at q; exact decide_eq_true q
        · rfl
    refine takes_of_treeQ hE (W_ok hS noL_ok) (MM_ok hE hS) (.inr (by kernel_rfl)) (hp_below _) (mm_two h ht E (Pc.of p)) ?_
    rw [nrm]
    refine mmF_holds k (stT_holds k.ofOk1 r1 r1' q1 g1 (by have := k.o1.2; rw [show nd1 (ndsC h (Pc.of p)) (ofNc h (Pc.of p) 1) = p.o1 from k.at1]; exact this) k.at1 rfl (ntT_holds (by rw [v1, List.length_set, List.length_replicate]) okn1
      (stT_holds (k.ofOk2 ht) r2 r2' q2 g2 (by have := (k.o2 ht).2; rw [show nd1 (ndsC h (Pc.of p)) (ofNc h (Pc.of p) 2) = p.o2 from k.at2 ht]; exact this) (k.at2 ht) (by rw [v1, List.length_set, List.length_replicate]) (ntT_holds (by rw [v1, v2, List.length_set, List.length_set, List.length_set]) okn2 (enT_holds k rfl ?_ ?_)))))
    · rw [z2, v2]
      simp only [vOf, noteOf, ht, cond_true] at mb
      exact mb
    · rw [z2, v2]
      simp only [vOf, noteOf, ht, cond_true] at mc
      exact mc
end
end Go.Proofs.Ytompijagcjjamaa

namespace Go.Proofs.Ytompijagcjjamaa
open Ab
def drC (h : Sh) (x : Dr) (y : Pc) : CDeal Unit where
  args _ := [x.v]
  blks _ := []
  pre _ := true
  out _ := y.vI (h.idc 0) h
  blks' _ := lsC h.e y.pre ++ (y.qs h ++ [y.stI (h.idc 0) h])
def SF (h : Sh) (x : Dr) (y : Pc) : Sums := sumF 5 (callG trueD fun _ _ => some ()) (sumF 6 (callG (drC h x y) fun _ _ => some ()) noS)
def mmD (h : Sh) (y : Pc) : RDeal Unit where
  ins _ := [(3, .ptr (.own 0 0 0 0))]
  blks _ := Pc.boxI (h.ids 1) h y :: plB h 1 y
  pre _ := true
  alts := [⟨Unit, .ret, fun _ _ => True, fun _ _ => [(2, .bool true)], fun _ _ => []⟩]
def TF (h : Sh) (y : Pc) : Tolds := sumT 3 [true, true, true] (toldR 230 (mmD h y) [3] fun _ _ => some ()) noT
end Go.Proofs.Ytompijagcjjamaa

namespace Go.Proofs.Ytompijagcjjamaa
open Ab
def viF (i : Nat) (b : Bool) (n : Nat) : Vi := match b with
  | true => ⟨true, 0, 0⟩
  | false => ⟨false, i, n⟩
theorem la_tree (h : Sh) (E : Nat → Nat → Seg) (b0 b1 b2 : Bool) (n0 n1 n2 : Nat) (a b : Int) (t : Bool) (l d : Int) (y : Pc) : (callT Try.prog E (W E (SF h ⟨viF 0 b0 n0, viF 1 b1 n1, viF 2 b2 n2, a, b, t, l, d⟩ y) noL) (TF h y) 0 3 [Dr.v ⟨viF 0 b0 n0, viF 1 b1 n1, viF 2 b2 n2, a, b, t, l, d⟩] ⟨hp 0 [], 0, [], []⟩).take 0 (csQ 5 (.n (.c (.c (.n (.c (.a (.i (.leaf [] 1)))))))) ) =
  .need (eV [Dr.v ⟨viF 0 b0 n0, viF 1 b1 n1, viF 2 b2 n2, a, b, t, l, d⟩]) (.need (sameBl (y.boxI (h.ids 1) h :: plB h 1 y) (y.boxI (h.ids 1) h :: plB h 1 y)) (.all Unit fun _ => .imp True (.leaf (.ret, mkT 1 [(0, .bool true)], [])))) := by
  obtain ⟨e, f, q, u⟩ := h
  cases e <;> cases f <;> cases q <;> cases u <;> cases b0 <;> cases b1 <;> cases b2 <;> kernel_rfl
end Go.Proofs.Ytompijagcjjamaa

namespace Go.Proofs.Ytompijagcjjamaa
open Ab
section
variable {E : Nat → Nat → Seg} {ra : Nat → Nat → Nat × Nat} {base : Nat}
theorem gives_canon {P : Program} (hE : Plain E) {k : Nat} {f : FuncId} {us : List AVal} {h H1 H2 : Log} {V V2 : AVal} {l : List Nat} (G : Gives P E ra base k f us h fun v h' => v = V ∧ h' = H1)
    (hc : canon k l 1 (.ret, [V]) H1 = some (true, (.ret, [V2], H2))) : Gives P E ra base k f us h fun v h' => v = V2 ∧ h' = H2 := by
  intro ι w as' H ha
  refine CallsIn.mono (G ι w as' H ha) ?_
  rintro e w' ⟨v, v', h', ι', rfl, ⟨rfl, rfl⟩, g1, g2, g3⟩
  have f' : Fit E ra base ι' h' w' 0 [v] { tmps := #[v'], defers := [] } := ⟨g2, .cons g1 .nil, .nil _ _ _ _, Nat.zero_le _⟩
  obtain ⟨ι'', f'', k''⟩ := canon_fit hE hc f'
  refine ⟨V2, v', H2, ι'', rfl, ⟨rfl, rfl⟩, ?_, f''.rel, g3.trans k''⟩
  have := f''.tmps
  cases this with | cons h1 _ => exact h1
theorem works_true {E : Nat → Nat → Seg} : evalTrue (callB Try.prog E noS (W E noS noL) 5 []) = true := by kernel_rfl
theorem SF_ok (hE : Plain E) {h : Sh} {x : Dr} {y : Pc} (g : Gives Try.prog E ra base 0 6 [x.v] (hp 0 []) fun v h' => v = y.vI (h.idc 0) h ∧ h' = hp 0 (lsC h.e y.pre ++ (y.qs h ++ [y.stI (h.idc 0) h]))) : SumsOK Try.prog E ra base (SF h x y) := by
  have gw := gives_of_eval hE (W_ok (ra := ra) (base := base) noS_ok noL_ok) noS_ok works_true
  exact sumG_deal hE (sumG_deal hE noS_ok ⟨_, Try.func6, by kernel_rfl⟩ fun _ _ => g) gw.1 fun _ _ => gw.2
theorem TF_ok {h : Sh} {y : Pc} (t : Takes Try.prog E ra base 0 (codeOf 3 [true, true, true]) (mkT 230 [(3, .ptr (.own 0 0 0 0))]) (hp 0 (Pc.boxI (h.ids 1) h y :: plB h 1 y)) fun x => x = (.ret, mkT 230 [(2, .bool true)], [])) : ToldsOK Try.prog E ra base 0 (TF h y) :=
  sumT_ok noT_ok rfl (toldR_ok (c := codeOf 3 [true, true, true]) (by kernel_rfl) fun x _ => t.mono fun y hy => ⟨(), trivial, hy⟩)
def Sh.at (h : Sh) : List Nat := rg 0 h.iS ++ (rg (h.iS + 1) (cond h.f 0 1 + cond h.u2 0 1) ++ [h.iS])
theorem cn_ok (h : Sh) (y : Pc) : canon 0 h.at 1 (.ret, [y.v h]) (hp 0 (plB h 0 y)) = some (true, (.ret, [y.vI (h.idc 0) h], hp 0 (lsC h.e y.pre ++ (y.qs h ++ [y.stI (h.idc 0) h])))) := by
  obtain ⟨e, f, t, u⟩ := h
  cases e <;> cases f <;> cases t <;> cases u <;> kernel_rfl
theorem ca_ok (hE : Plain E) {h : Sh} {b0 b1 b2 : Bool} {n0 n1 n2 : Nat} {a b : Int} {t : Bool} {l d : Int} {p : Pl} (m : Takes Try.prog E ra base 0 (codeOf 3 [true, true, true]) (mkT 230 [(3, .ptr (.own 0 0 0 0))]) (hp 0 (Pc.boxI (h.ids 1) h (Pc.of p) :: plB h 1 (Pc.of p))) fun x => x = (.ret, mkT 230 [(2, .bool true)], []))
    (g : Gives Try.prog E ra base 0 6 [Dr.v ⟨viF 0 b0 n0, viF 1 b1 n1, viF 2 b2 n2, a, b, t, l, d⟩] (hp 0 []) fun v h' => v = Pc.v h (Pc.of p) ∧ h' = hp 0 (plB h 0 (Pc.of p))) : Gives Try.prog E ra base 0 3 [Dr.v ⟨viF 0 b0 n0, viF 1 b1 n1, viF 2 b2 n2, a, b, t, l, d⟩] [] fun v _ => v = .bool true :=
  gives_of_treeQ hE (W_ok (SF_ok hE (gives_canon hE g (cn_ok h _))) noL_ok) (TF_ok m) (hp_below []) (la_tree h E b0 b1 b2 n0 n1 n2 a b t l d (Pc.of p)) (by
    simp only [TreeQ.holds, rf_eq, eV_eq, sameBl_self (ok_box (h.ids 1) h 1 (Pc.of p)), true_and]
    exact fun _ _ => ⟨_, rfl, rfl⟩)
end
end Go.Proofs.Ytompijagcjjamaa

namespace Go.Proofs.Ytompijagcjjamaa
open Ab
def Dr.sh (U : Nat → List Int) (x : Dr) : Sh := ⟨viNil U x.x0, viNil U x.x1, x.t, x.t && viNil U x.x2⟩
def Dr.np (U : Nat → List Int) (x : Dr) : Pl := match x.t with
  | true => x.pl U
  | false => ⟨slL (x.x0.l U), stOp x.a, slL (x.x1.l U), z4, [], x.la, 1 + x.ep⟩
theorem sl_all : ∀ n : Fin 256, (mayB (slOp (n.val : Int)) && decide (classE (slOp (n.val : Int)) = 0)) = true := by decide +kernel
theorem st_all : ∀ n : Fin 256, (mayB (stOp (n.val : Int)) && !decide (classE (stOp (n.val : Int)) = 0)) = true := by decide +kernel
theorem sl_good {v : Int} (h : 0 ≤ v ∧ v < 256) : mayB (slOp v) = true ∧ classE (slOp v) = 0 := by
  have := sl_all ⟨v.toNat, by omega⟩
  rw [show ((v.toNat : Nat) : Int) = v by omega] at this
  simp only [Bool.and_eq_true, decide_eq_true_eq] at this
  exact this
theorem st_good {v : Int} (h : 0 ≤ v ∧ v < 256) : mayB (stOp v) = true ∧ ¬ classE (stOp v) = 0 := by
  have := st_all ⟨v.toNat, by omega⟩
  rw [show ((v.toNat : Nat) : Int) = v by omega] at this
  simp only [Bool.and_eq_true, Bool.not_eq_true', decide_eq_false_iff_not] at this
  exact this
theorem sll_good {l : List Int} (h : ∀ v ∈ l, 0 ≤ v ∧ v < 256) : ∀ y ∈ slL l, mayB y = true ∧ classE y = 0 := by
  intro y hy
  simp only [slL, List.mem_map] at hy
  obtain ⟨v, hv, rfl⟩ := hy
  exact sl_good (h v (List.mem_of_mem_take hv))
theorem sll_len (l : List Int) : (slL l).length ≤ 4 := by simp only [slL, List.length_map, List.length_take]; omega
theorem sll_nil {l : List Int} : isNil l = isNilO (slL l) := by
  cases l with
  | nil => rfl
  | cons a l => rfl
theorem sll_pos {l : List Int} (h : isNil l = false) : 1 ≤ (slL l).length := by
  cases l with
  | nil => cases h
  | cons a l => simp only [slL, List.length_map, List.take_succ_cons, List.length_cons]; omega
section
variable {U : Nat → List Int} {x : Dr}
theorem vi_in (hU : Bytes U) (y : Vi) : ∀ v ∈ y.l U, 0 ≤ v ∧ v < 256 := by
  intro v hv
  obtain ⟨b, t, n⟩ := y
  cases b
  · exact hU t v hv
  · cases hv
theorem fine_np (hU : Bytes U) (hx : x.ok U = true) : Fine (x.sh U) (x.np U) := by
  obtain ⟨x0, x1, x2, a, b, t, la, ep⟩ := x
  simp only [Dr.ok, Bool.and_eq_true, decide_eq_true_eq] at hx
  obtain ⟨_, _, _, o0, o1, o2, a0, a1, c0, c1, l0, l1, p0, p1⟩ := hx
  have g0 := sll_good (vi_in hU x0)
  have g1 := sll_good (vi_in hU x1)
  have g2 := sll_good (vi_in hU x2)
  have nums : ∀ p : Pl, p.la = la → p.ep = 1 + ep → numsOk p = true := by
    intro p e1 e2
    simp only [numsOk, e1, e2, Bool.and_eq_true, decide_eq_true_eq]
    omega
  have pos : ∀ y : Vi, (viNil U y || decide (1 ≤ (slL (y.l U)).length)) = true := by
    intro y
    cases h : viNil U y
    · simp only [Bool.false_or, decide_eq_true_eq]; exact sll_pos h
    · rfl
  have nil : ∀ y : Vi, (!viNil U y || isNilO (slL (y.l U))) = true := by
    intro y
    rw [viNil, sll_nil]
    cases isNilO (slL (y.l U)) <;> rfl
  have in0 : isNilO [] = true := rfl
  have zz4 : zO z4 = true := rfl
  cases t
  · refine ⟨?_, nums _ rfl rfl, g0, g1, fun y hy => absurd hy List.not_mem_nil, st_good ⟨a0, a1⟩, fun h => absurd h Bool.false_ne_true⟩
    simp only [fullB, normB, lens4, Dr.sh, Dr.np, Sh.u2, Bool.false_and, Bool.not_false, Bool.or_true, Bool.true_or, in0, zz4, cond_true, cond_false, decide_true, Bool.and_self, Bool.and_true, Bool.true_and, nil, pos, Bool.and_eq_true, decide_eq_true_eq, sll_len, List.length_nil, Nat.zero_le, and_true, Bool.not_true, Bool.or_false]
    exact ⟨pos _, pos _⟩
  · refine ⟨?_, nums _ rfl rfl, g0, g1, g2, st_good ⟨a0, a1⟩, fun _ => st_good ⟨c0, c1⟩⟩
    simp only [fullB, normB, lens4, Dr.sh, Dr.np, Dr.pl, Sh.u2, cond_true, cond_false, Bool.true_and, Bool.not_true, Bool.or_false, Bool.true_or, nil, pos, Bool.and_eq_true, decide_eq_true_eq, sll_len, and_true, Bool.and_true, Bool.or_true, decide_true]
    exact ⟨pos _, pos _, pos _⟩
variable {ra : Nat → Nat → Nat × Nat} {base : Nat}
theorem drafted_np (hU : Bytes U) (hx : x.ok U = true) : Gives Try.prog (tabU U) ra base 0 6 [x.v] (hp 0 []) fun v h' => v = Pc.v (x.sh U) (Pc.of (x.np U)) ∧ h' = hp 0 (plB (x.sh U) 0 (Pc.of (x.np U))) := by
  refine (drafted_gives hU ⟨viNil U x.x0, viNil U x.x1, x.t, viNil U x.x2⟩ x (by simp only [drD, hx, Dr.is, decide_true, Bool.and_self])).mono ?_
  rintro v h' ⟨rfl, rfl⟩
  rw [Pc.v_pl (Pc.of_wf _), plB0 (Pc.of_wf _), Pc.of_pl]
  obtain ⟨x0, x1, x2, a, b, t, la, ep⟩ := x
  cases t <;> exact ⟨rfl, rfl⟩
theorem parts_gives (hU : Bytes U) (hx : x.ok U = true) : Gives Try.prog (tabU U) ra base 0 3 [x.v] [] fun v _ => v = .bool true := by
  have hE := tabU_plain U
  have k := fine_np hU hx
  have g := drafted_np (ra := ra) (base := base) hU hx
  generalize x.np U = p at k g
  have hs : x.sh U = x.sh U := rfl
  revert k g
  have e0 : (x.sh U).e = viNil U x.x0 := rfl
  have e1 : (x.sh U).f = viNil U x.x1 := rfl
  have e2 : (x.sh U).t = x.t := rfl
  have e3 : (x.sh U).u = (x.t && viNil U x.x2) := rfl
  generalize x.sh U = h at *
  obtain ⟨e, f, t', u⟩ := h
  simp only at e0 e1 e2 e3
  subst e2
  obtain ⟨⟨b0, t0, n0⟩, ⟨b1, t1, n1⟩, ⟨b2, t2, n2⟩, a, b, t, la, ep⟩ := x
  simp only [Dr.ok, Bool.and_eq_true] at hx
  obtain ⟨i0, i1, i2, o0, o1, o2, _⟩ := hx
  have nn : ∀ b t n, okId 0 ⟨b, t, n⟩ = true → True := fun _ _ _ _ => trivial
  have tt : ∀ (i : Nat) (b : Bool) (t n : Nat), okId i ⟨b, t, n⟩ = true → okVi U ⟨b, t, n⟩ = true → Vi.v ⟨b, t, n⟩ = Vi.v (viF i b n) := by
    intro i b t n h1 h2
    cases b
    · have : t = i := of_decide_eq_true h1
      subst this; rfl
    · rfl
  have q : Dr.v ⟨⟨b0, t0, n0⟩, ⟨b1, t1, n1⟩, ⟨b2, t2, n2⟩, a, b, t, la, ep⟩ = Dr.v ⟨viF 0 b0 n0, viF 1 b1 n1, viF 2 b2 n2, a, b, t, la, ep⟩ := by
    show AVal.agg [Vi.v _, Vi.v _, Vi.v _, _, _, _, _, _] = _
    rw [tt 0 b0 t0 n0 i0 o0, tt 1 b1 t1 n1 i1 o1, tt 2 b2 t2 n2 i2 o2]
    rfl
  rw [q]
  intro k g
  exact ca_ok hE (mt_ok hE (SM_ok hE (by
    cases t
    · exact .inr e3
    · exact .inl rfl)) k) g
end
end Go.Proofs.Ytompijagcjjamaa
