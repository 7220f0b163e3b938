/- Parts of the walk: sink: the end: what holds; sink: the end: rounds; sink: the end as a call; the law's frame: contracts; sink: the law: its beginning; sink: the law's beginning and end: trees; sink: the end, told as a call; the law gives true; sink: the law SinkKeeps gives true. -/
import Derived.Test.YtgkejpfahpbnkaaG06

set_option linter.unusedSimpArgs false
set_option linter.unusedVariables false
namespace Go.Proofs.Ytgkejpfahpbnkaa
open Ab
structure KB (sz w B : Int) (x : Sk) : Prop where
  hw : 1 ≤ w ∧ w ≤ 3
  hsz : 1 ≤ sz ∧ sz ≤ 50
  len : x.len = sz
  f : okFr x.f = true
  fn : x.f.n = w
  M : ∀ t ∈ x.f.l, 0 ≤ t ∧ t ≤ 1152921504606846976
  a : okAl x.a = true
  an : x.a.n = w
  am : x.a.m = 0
  al : 0 ≤ x.a.l ∧ x.a.l ≤ B
  hB : B ≤ 1000
  q : x.q.ok = true
  qn : x.q.len ≤ 500
  pend : ∀ r ∈ x.q.l, 0 ≤ r.t ∧ r.t ≤ 1000000 ∧ x.done ≤ ep sz r.t
structure SP (sz w B : Int) (C : List Bool) (i : Nat) (x : Sk) : Prop where
  k : KB sz w B x
  und : x.und = true
  p : ∀ j, j < w.toNat → x.a.p.getD j false = if j < i then true else C.getD j false
  fv : ∀ j, j < i → C.getD j false = false → x.f.l.getD j 0 = 1152921504606846976
theorem KB.ok {sz w B : Int} {x : Sk} (h : KB sz w B x) : okSk x = true := by
  simp only [okSk, Bool.and_eq_true]; exact ⟨h.f, h.a, h.q⟩
theorem KB.pl {sz w B : Int} {x : Sk} (h : KB sz w B x) : x.a.p.length = w.toNat ∧ x.f.l.length = w.toNat := by
  have h1 := (p_len h.a).1
  have h2 := l_len h.f
  rw [h.an] at h1; rw [h.fn] at h2
  omega
theorem SP.mk1 {sz w B : Int} {C : List Bool} {i : Nat} {x : Sk} (h : SP sz w B C i x) (hi : (i : Int) < w) (hc : C.getD i false = false) : markE x.f.l i 1152921504606846976 = 0 ∧ okFr (x.f.mark i 1152921504606846976) = true ∧ (x.f.mark i 1152921504606846976).l = x.f.l.set i 1152921504606846976 ∧ (x.f.mark i 1152921504606846976).n = x.f.n := by
  have hl := h.k.pl.2
  have hm : x.f.l.getD ((i : Int)).toNat 0 ≤ 1152921504606846976 := by
    rw [Int.toNat_natCast, getD_at (show i < x.f.l.length by omega)]
    exact (h.k.M _ (List.getElem_mem _)).2
  have := fr_mark h.k.f (i := (i : Int)) (v := 1152921504606846976) (by omega) (by rw [h.k.fn]; exact hi) hm (by omega)
  rw [Int.toNat_natCast] at this
  exact this
theorem SP.come {sz w B : Int} {C : List Bool} {i : Nat} {x : Sk} (h : SP sz w B C i x) (hi : (i : Int) < w) (hc : C.getD i false = false) : comeE x.a.p x.a.l i (wr .i64 (x.a.l + 1)) = 0 ∧ okAl (x.a.come i (wr .i64 (x.a.l + 1))) = true ∧ (x.a.come i (wr .i64 (x.a.l + 1))).p = x.a.p.set i true ∧ (x.a.come i (wr .i64 (x.a.l + 1))).n = x.a.n ∧ (x.a.come i (wr .i64 (x.a.l + 1))).l = x.a.l := by
  have hp : x.a.p.getD ((i : Int)).toNat false = false := by
    rw [Int.toNat_natCast, h.p i (by omega), if_neg (by omega)]; exact hc
  have hl := h.k.al
  have hB := h.k.hB
  have := al_come h.k.a (i := (i : Int)) (k := wr .i64 (x.a.l + 1)) (by omega) (by rw [h.k.an]; exact hi) hp (wr_back ⟨hl.1, by omega⟩)
  rw [Int.toNat_natCast] at this
  exact this
theorem SP.free {sz w B : Int} {C : List Bool} {i : Nat} {x : Sk} (h : SP sz w B C i x) (hi : (i : Int) < w) (hc : C.getD i false = false) : x.free i = true := by
  simp only [Sk.free, Bool.and_eq_true, decide_eq_true_eq, Bool.not_eq_true']
  refine ⟨by omega, by rw [h.k.fn]; exact hi, ?_⟩
  have : x.a.p.getD ((i : Int)).toNat false = false := by
    rw [Int.toNat_natCast, h.p i (by omega), if_neg (by omega)]; exact hc
  rw [isB, this, Bool.and_false, Bool.and_false]
theorem SP.skip {sz w B : Int} {C : List Bool} {i : Nat} {x : Sk} (h : SP sz w B C i x) (hc : C.getD i false = true) : SP sz w B C (i + 1) x := by
  refine ⟨h.k, h.und, fun j hj => ?_, fun j hj hcj => ?_⟩
  · rw [h.p j hj]
    by_cases h1 : j < i
    · rw [if_pos h1, if_pos (by omega)]
    · rw [if_neg h1]
      by_cases h2 : j = i
      · subst h2; rw [if_pos (by omega)]; exact hc
      · rw [if_neg (by omega)]
  · have : j ≠ i := fun e => by subst e; rw [hc] at hcj; cases hcj
    exact h.fv j (by omega) hcj
theorem SP.step {sz w B : Int} {C : List Bool} {i : Nat} {x : Sk} (h : SP sz w B C i x) (hi : (i : Int) < w) (hc : C.getD i false = false) : SP sz w B C (i + 1) (tk1 x i) := by
  obtain ⟨m1, m2, m3, m4⟩ := h.mk1 hi hc
  obtain ⟨c1, c2, c3, c4, c5⟩ := h.come hi hc
  obtain ⟨p1, p2⟩ := h.k.pl
  have k := h.k
  refine ⟨⟨k.hw, k.hsz, k.len, m2, m4.trans k.fn, fun t ht => ?_, c2, c4.trans k.an, k.am, ?_, k.hB, k.q, k.qn, k.pend⟩, h.und, fun j hj => ?_, fun j hj hcj => ?_⟩
  · replace ht : t ∈ (x.f.mark i 1152921504606846976).l := ht
    rw [m3] at ht
    rcases List.mem_or_eq_of_mem_set ht with ht | rfl
    · exact k.M t ht
    · omega
  · show 0 ≤ (x.a.come i _).l ∧ (x.a.come i _).l ≤ B
    rw [c5]; exact k.al
  · show (x.a.come i _).p.getD j false = _
    rw [c3]
    by_cases h2 : j = i
    · subst h2
      rw [if_pos (by omega), List.getD_eq_getElem?_getD, List.getElem?_set_self (by omega)]; rfl
    · rw [List.getD_eq_getElem?_getD, List.getElem?_set_ne (fun e => h2 e.symm), ← List.getD_eq_getElem?_getD, h.p j hj]
      by_cases h1 : j < i
      · rw [if_pos h1, if_pos (by omega)]
      · rw [if_neg h1, if_neg (by omega)]
  · show (x.f.mark i _).l.getD j 0 = _
    rw [m3]
    by_cases h2 : j = i
    · subst h2
      rw [List.getD_eq_getElem?_getD, List.getElem?_set_self (by omega)]; rfl
    · rw [List.getD_eq_getElem?_getD, List.getElem?_set_ne (fun e => h2 e.symm), ← List.getD_eq_getElem?_getD]
      exact h.fv j (by omega) hcj
def stp (C : List Bool) (x : Sk) : Nat → Sk
  | 0 => x
  | i + 1 => if C.getD i false = true then stp C x i else tk1 (stp C x i) i
theorem stp_sp {sz w B : Int} {C : List Bool} {x : Sk} (h : SP sz w B C 0 x) : ∀ i : Nat, (i : Int) ≤ w → SP sz w B C i (stp C x i)
  | 0, _ => h
  | i + 1, hi => by
    have ih := stp_sp h i (by omega)
    unfold stp
    cases hc : C.getD i false with
    | true => rw [if_pos rfl]; exact ih.skip hc
    | false => rw [if_neg (by decide)]; exact ih.step (by omega) hc
theorem stp_q (C : List Bool) (x : Sk) : ∀ i, (stp C x i).q = x.q ∧ (stp C x i).done = x.done
  | 0 => ⟨rfl, rfl⟩
  | i + 1 => by
    unfold stp
    split
    · exact stp_q C x i
    · exact stp_q C x i
theorem SP.rdy {sz w B : Int} {C : List Bool} {i : Nat} {x : Sk} (h : SP sz w B C i x) (hi : w.toNat ≤ i) : x.rdy = true := by
  have hp := h.k.pl.1
  have hw := h.k.hw
  have hall : ∀ b ∈ x.a.p, b = true := fun b hb => by
    obtain ⟨j, hj, rfl⟩ := List.getElem_of_mem hb
    have := h.p j (by omega)
    rw [if_pos (by omega), getD_at hj] at this
    exact this
  have e1 : allB x.a.p true = true := by
    rw [allB, List.all_eq_true]; intro b hb; rw [hall b hb]; rfl
  have e2 : allB x.a.p false = false := by
    cases hh : allB x.a.p false with
    | false => rfl
    | true =>
      rw [allB, List.all_eq_true] at hh
      have h0 : x.a.p[0]'(by omega) ∈ x.a.p := List.getElem_mem _
      have := hh _ h0
      rw [hall _ h0] at this; cases this
  have e3 : x.a.q = [] := by rw [Al.q, h.k.am]; rfl
  have hph : phaseL x.a.p x.a.q = 3 := by rw [phaseL, e3, e2, e1]; rfl
  rw [Sk.rdy, h.und, hph]; rfl
theorem cF_rep {C : List Bool} (h : C.length = 3) : cF C = List.replicate 3 false := set3 h
theorem SP.sld {sz w B : Int} {C : List Bool} {i : Nat} {x : Sk} (h : SP sz w B C i x) (hi : w.toNat ≤ i) (hB : B + 1 ≤ 1000) (hC : C.length = 3) : KB sz w (B + 1) x.sld ∧ x.sld.a.p = (cF C).take w.toNat ∧ x.sld.und = false ∧ x.sld.q.len = x.kpL.length ∧ x.goL.length + x.kpL.length = x.q.len := by
  have k := h.k
  have hr := h.rdy hi
  obtain ⟨q1, q2, q3, q4⟩ := sk_q k.q
  simp only [Sk.rdy, Bool.and_eq_true, decide_eq_true_eq] at hr
  obtain ⟨d1, d2, d3, d4, d5⟩ := al_done k.a hr.2
  have hlw : wr .i64 (x.a.l + 1) = x.a.l + 1 := by have := k.al; have := k.hB; exact wr_in ⟨by omega, by omega⟩
  have hqn := k.qn
  refine ⟨⟨k.hw, k.hsz, k.len, k.f, k.fn, k.M, d1, d2.trans k.an, d5.trans k.am, ?_, hB, q1, by rw [q3]; omega, fun r hr => ?_⟩, ?_, rfl, q3, q4⟩
  · show 0 ≤ x.a.done.l ∧ x.a.done.l ≤ B + 1
    rw [d3, hlw]; have := k.al; omega
  · replace hr : r ∈ x.sld.q.l := hr
    rw [q2] at hr
    obtain ⟨m1, m2⟩ := mem_kp hr
    have := k.pend r m1
    exact ⟨this.1, this.2.1, by rw [k.len] at m2; exact m2⟩
  · show x.a.done.p = _
    rw [d4, cF_rep hC, List.take_replicate, k.an]
    congr 1
    have := k.hw; omega
theorem SP.last {sz w B : Int} {C : List Bool} {i : Nat} {x : Sk} (h : SP sz w B C i x) (hi : w.toNat ≤ i) (hc : ∀ j, j < w.toNat → C.getD j false = false) : x.kpL = [] := by
  have k := h.k
  have hl := k.pl.2
  have hm : minF x.f = 1152921504606846976 := by
    have hmem := (minF_spec k.f).1
    obtain ⟨j, hj, e⟩ := List.getElem_of_mem hmem
    have := h.fv j (by omega) (hc j (by omega))
    rw [getD_at hj, e] at this
    exact this
  have ho : x.over = overL x.len x.done x.q.l := by rw [Sk.over, if_neg (by omega)]
  cases hk : x.kpL with
  | nil => rfl
  | cons r L =>
    have hr : r ∈ kp x.len x.over x.q.l := by show r ∈ x.kpL; rw [hk]; exact List.mem_cons_self ..
    obtain ⟨m1, m2⟩ := mem_kp hr
    have h1 := overL_gt x.len x.q.l x.done r m1
    have hp := k.pend r m1
    have he := ep_le (l := sz) k.hsz.1 hp.1 (by omega)
    rw [← k.len] at he
    rw [wr_in (v := ep x.len r.t + 1) ⟨by omega, by omega⟩, ← ho] at h1
    omega
end Go.Proofs.Ytgkejpfahpbnkaa

namespace Go.Proofs.Ytgkejpfahpbnkaa
open Ab
theorem nb_q {x x' : Sk} (h : x'.q.blk.length = x.q.blk.length) : x'.nb = x.nb := by
  show (x'.b0 1 2 3 :: x'.f.blk :: x'.a.blk :: x'.q.blk).length = (x.b0 1 2 3 :: x.f.blk :: x.a.blk :: x.q.blk).length
  simp only [List.length_cons, h]
theorem nb_stp (C : List Bool) (x : Sk) (i : Nat) : (stp C x i).nb = x.nb := nb_q (by rw [(stp_q C x i).1])
theorem rest_shape (q : Ql) (K : List Rc) : (q.rest K).nil = q.nil ∧ (q.rest K).lit = q.lit := by
  obtain ⟨nl, li, n, m, c⟩ := q
  cases nl <;> cases li <;> exact ⟨rfl, rfl⟩
theorem blk_shape {q q' : Ql} (h1 : q'.nil = q.nil) (h2 : q'.lit = q.lit) : q'.blk.length = q.blk.length := by
  obtain ⟨nl, li, n, m, c⟩ := q
  obtain ⟨nl', li', n', m', c'⟩ := q'
  simp only at h1 h2
  subst h1; subst h2
  cases nl' <;> cases li' <;> rfl
theorem nb_seal (x : Sk) : x.sld.nb = x.nb := nb_q (blk_shape (rest_shape x.q x.kpL).1 (rest_shape x.q x.kpL).2)
theorem tkk {P : Program} {E : Nat → Nat → Seg} {ra : Nat → Nat → Nat × Nat} {base k k' : Nat} {c : Code} {ts : Tmps} {h : Log} {Q : State → Prop} (e : k' = k) (t : Takes P E ra base k' c ts h Q) : Takes P E ra base k c ts h Q := e ▸ t
def En.at (y : En) (i : Nat) : En := { y with x := stp y.C y.x i }
theorem bsE (y : En) : y.bs.length = y.x.nb + 1 := by
  show (y.x.blks ++ [cmB y.C]).length = y.x.blks.length + 1
  rw [List.length_append]; rfl
theorem belowE (y : En) : Below (hp 0 y.bs) (y.x.nb + 1) := by rw [← bsE]; exact hp_below _
section
variable {E : Nat → Nat → Seg} {ra : Nat → Nat → Nat × Nat} {base : Nat}
theorem stK_ok {x : Sk} {sz w B : Int} {p : Bool} {t : Tree State} {Q : State → Prop} (hk : KB sz w B x) (hp : p = true) (ht : t.holds Q) : (stK x p t).holds Q :=
  ndT (eB_eq sk_blks) (ndT (by rw [hk.ok, hp]; rfl) ht)
theorem b1_takes (hE : Plain E) {y : En} {u : Bool} {B : Int} (hk : KB y.sz y.w B y.x) (hu : y.x.und = u) : Takes Try.prog E ra base y.x.nb (codeOf 18 qeB1) (mkT 97 (y.ts [(3, .bool u)])) (hp 0 y.bs) fun z => z = (.normal, mkT 97 (y.beg.ts []), hp 0 y.beg.bs) := by
  have W1 := wE (ra := ra) (base := base) hE (SN_ok hE)
  have hl : wr .i64 (wr .i64 (y.x.a.l + 1) - 1) = y.x.a.l := wr_back ⟨hk.al.1, by have := hk.al.2; have := hk.hB; omega⟩
  have go : ∀ {p : Bool}, p = true → u = false → (stK y.x p (.need (eB y.x.blks) (.need (eV [pS, .int .i64 (wr .i64 (y.x.a.l + 1))]) (.need (beginD.pre ⟨y.x, wr .i64 (y.x.a.l + 1), 0, 0⟩) (lfE y.beg []))))).holds fun z => z = (.normal, mkT 97 (y.beg.ts []), hp 0 y.beg.bs) := fun hp e => by
    refine stK_ok hk hp (ndT (eB_eq sk_blks) (ndT (eV_eq _) (ndT ?_ rfl)))
    simp only [beginD, Bool.and_eq_true, Bool.not_eq_true', decide_eq_true_eq]
    exact ⟨hk.ok, hu.trans e, hl⟩
  have no : u = true → (lfE y []).holds fun z => z = (.normal, mkT 97 (y.beg.ts []), hp 0 y.beg.bs) := fun e => by
    have : y.beg = y := by
      obtain ⟨⟨f, a, q, l, d, b⟩, C, sz, w, left, dn, sl, n⟩ := y
      simp only at hu
      rw [e] at hu; subst hu; rfl
    rw [this]; rfl
  rcases shape y.x.q with hq | ⟨hn, hl'⟩ | ⟨hn, hl'⟩
  · exact takes_of_tree hE W1 (f := 18) (.inr (by kernel_rfl)) (belowE y) (e_B1N E y u hq) ⟨fun hc => go (by simp [Ql.full, hq]) (by simpa using hc), fun hc => no (by simpa using hc)⟩
  · exact takes_of_tree hE W1 (f := 18) (.inr (by kernel_rfl)) (belowE y) (e_B1L E y u hn hl') ⟨fun hc => go (by simp [Ql.e1, Ql.none, hn, hl']) (by simpa using hc), fun hc => no (by simpa using hc)⟩
  · exact takes_of_tree hE W1 (f := 18) (.inr (by kernel_rfl)) (belowE y) (e_B1G E y u hn hl') ⟨fun hc => ⟨fun e => go e (by simpa using hc), fun e => go (full_of e) (by simpa using hc)⟩, fun hc => no (by simpa using hc)⟩
theorem l1_takes (hE : Plain E) {y : En} {B : Int} {i : Nat} (h : SP y.sz y.w B y.C i y.x) (hi : (i : Int) < y.w) (hC : y.C.length = 3) : Takes Try.prog E ra base y.x.nb (codeOf 18 qeL1) (mkT 97 (y.ts [(17, .int .i64 i)])) (hp 0 y.bs) fun z =>
    z = (.normal, mkT 97 (En.ts { y with x := if y.C.getD i false = true then y.x else tk1 y.x i } [(17, .int .i64 i)]), hp 0 (En.bs { y with x := if y.C.getD i false = true then y.x else tk1 y.x i })) := by
  have W1 := wE (ra := ra) (base := base) hE (SN_ok hE)
  have hw := h.k.hw
  have yes : y.C.getD ((i : Int)).toNat false = true → (lfE y [(17, .int .i64 i)]).holds fun z => z = (.normal, mkT 97 (En.ts { y with x := if y.C.getD i false = true then y.x else tk1 y.x i } [(17, .int .i64 i)]), hp 0 (En.bs { y with x := if y.C.getD i false = true then y.x else tk1 y.x i })) := fun e => by
    rw [Int.toNat_natCast] at e
    rw [if_pos e]; rfl
  have no : y.C.getD ((i : Int)).toNat false = false → (lfE (y.tk i) [(17, .int .i64 i)]).holds fun z => z = (.normal, mkT 97 (En.ts { y with x := if y.C.getD i false = true then y.x else tk1 y.x i } [(17, .int .i64 i)]), hp 0 (En.bs { y with x := if y.C.getD i false = true then y.x else tk1 y.x i })) := fun e => by
    rw [Int.toNat_natCast] at e
    rw [if_neg (by rw [e]; decide)]; rfl
  have in1 : inL (i : Int) 3 = true := inL_in ⟨by omega, by omega⟩
  have in2 : decide (((i : Int)).toNat < 3) = true := decide_eq_true (by omega)
  have pm : y.C.getD ((i : Int)).toNat false = false → tmD.pre ⟨y.x, i, 1152921504606846976, 1⟩ = true := fun e => by
    rw [Int.toNat_natCast] at e
    simp only [tmD, Bool.and_eq_true, decide_eq_true_eq]
    exact ⟨h.k.ok, h.free hi e, (h.mk1 hi e).1⟩
  have k1 : y.C.getD ((i : Int)).toNat false = false → KB y.sz y.w B (y.x1 i) := fun e => by
    rw [Int.toNat_natCast] at e
    obtain ⟨m1, m2, m3, m4⟩ := h.mk1 hi e
    have k := h.k
    refine ⟨k.hw, k.hsz, k.len, m2, m4.trans k.fn, fun t ht => ?_, k.a, k.an, k.am, k.al, k.hB, k.q, k.qn, k.pend⟩
    replace ht : t ∈ (y.x.f.mark i 1152921504606846976).l := ht
    rw [m3] at ht
    rcases List.mem_or_eq_of_mem_set ht with ht | rfl
    · exact k.M t ht
    · omega
  have pb : y.C.getD ((i : Int)).toNat false = false → tbD.pre ⟨y.x1 i, i, wr .i64 (y.x.a.l + 1), 2⟩ = true := fun e => by
    have k1 := k1 e
    rw [Int.toNat_natCast] at e
    have hf := h.free hi e
    simp only [tbD, Bool.and_eq_true, decide_eq_true_eq]
    refine ⟨k1.ok, ?_, h.und, (h.come hi e).1⟩
    obtain ⟨f1, f2, f3⟩ := free_facts hf
    simp only [Sk.free, Bool.and_eq_true, decide_eq_true_eq, Bool.not_eq_true']
    exact ⟨f1, by rw [k1.fn]; exact hi, f3⟩
  have go : ∀ {p : Bool}, p = true → y.C.getD ((i : Int)).toNat false = false → (stK (y.x1 i) p (.need (eB (y.x1 i).blks) (.need (eV (tbD.args ⟨y.x1 i, i, wr .i64 (y.x.a.l + 1), 2⟩)) (.need (tbD.pre ⟨y.x1 i, i, wr .i64 (y.x.a.l + 1), 2⟩) (lfE (y.tk i) [(17, .int .i64 i)]))))).holds fun z => z = (.normal, mkT 97 (En.ts { y with x := if y.C.getD i false = true then y.x else tk1 y.x i } [(17, .int .i64 i)]), hp 0 (En.bs { y with x := if y.C.getD i false = true then y.x else tk1 y.x i })) := fun hp e =>
    stK_ok (k1 e) hp (ndT (eB_eq sk_blks) (ndT (eV_eq _) (ndT (pb e) (no e))))
  rcases shape y.x.q with hq | ⟨hn, hl⟩ | ⟨hn, hl⟩
  · exact takes_of_tree hE W1 (f := 18) (.inr (by kernel_rfl)) (belowE y) (e_L1N E y i hq) (ndT in1 (ndT in2 ⟨yes, fun e => ndT (eB_eq sk_blks) (ndT (eV_eq _) (ndT (pm e) (go (by simp [Ql.full, hq]) e)))⟩))
  · exact takes_of_tree hE W1 (f := 18) (.inr (by kernel_rfl)) (belowE y) (e_L1L E y i hn hl) (ndT in1 (ndT in2 ⟨yes, fun e => ndT (eB_eq sk_blks) (ndT (eV_eq _) (ndT (pm e) (go (by simp [Ql.e1, Ql.none, hn, hl]) e)))⟩))
  · exact takes_of_tree hE W1 (f := 18) (.inr (by kernel_rfl)) (belowE y) (e_L1G E y i hn hl) (ndT in1 (ndT in2 ⟨yes, fun e => ndT (eB_eq sk_blks) (ndT (eV_eq _) (ndT (pm e) ⟨fun e1 => go e1 e, fun e1 => go (full_of e1) e⟩))⟩))
theorem l_takes (hE : Plain E) {y : En} {B : Int} (h : SP y.sz y.w B y.C 0 y.x) (hC : y.C.length = 3) : Takes Try.prog E ra base y.x.nb (codeOf 18 [false, true, false, false, true, false, false, true, false, true, true, true]) (mkT 97 (y.ts [])) (hp 0 y.bs) fun z => z = (.normal, mkT 97 ((y.at y.w.toNat).ts []), hp 0 (y.at y.w.toNat).bs) := by
  have W0 : ExecOK Try.prog E ra base (W E noS noL) := W_ok sumNone_ok noL_ok
  have hw := h.k.hw
  refine tk_next d_c2 (takes_of_tree hE W0 (f := 18) (.inr (by kernel_rfl)) (belowE y) (e_I0 E y) rfl) ?_
  refine tk_block d_c3 ?_
  rw [d_c4]
  refine takes_loop (fun j ts hh => ∃ i : Nat, i ≤ y.w.toNat ∧ j = y.w.toNat - i + 1 ∧ ts = mkT 97 ((y.at i).ts [(17, .int .i64 i)]) ∧ hh = hp 0 (y.at i).bs) (fun ts hh hx => by obtain ⟨i, _, hx, _⟩ := hx; omega) (fun j ts hh hx => ?_) (j := y.w.toNat + 1) ⟨0, Nat.zero_le _, rfl, rfl, rfl⟩
  obtain ⟨i, h1, h2, rfl, rfl⟩ := hx
  have hs := stp_sp h i (by omega)
  have e : (y.at i).x.nb = y.x.nb := nb_stp _ _ _
  refine tk_seq d_l0 (R := fun z => ((i : Int) < y.w ∧ z = (.normal, mkT 97 ((y.at i).ts [(17, .int .i64 i)]), hp 0 (y.at i).bs)) ∨ (i = y.w.toNat ∧ z = (.exit 2, mkT 97 ((y.at i).ts []), hp 0 (y.at i).bs))) (tkk e (takes_of_tree hE W0 (f := 18) (.inr (by kernel_rfl)) (belowE _) (e_L0 E (y.at i) i) (br_by (fun hc => .inl ⟨hc, rfl⟩) fun hc => .inr ⟨?_, rfl⟩))) ?_
  · have : ¬ (i : Int) < y.w := hc
    omega
  rintro z (⟨hi, rfl⟩ | ⟨hi, rfl⟩)
  · show Takes Try.prog E ra base y.x.nb _ (mkT 97 ((y.at i).ts [(17, .int .i64 i)])) (hp 0 (y.at i).bs) _
    have e2 : ({ (y.at i) with x := if y.C.getD i false = true then (y.at i).x else tk1 (y.at i).x i } : En) = y.at (i + 1) := rfl
    refine tk_next d_l1 (tkk e (l1_takes hE (y := y.at i) hs hi hC)) ?_
    have e3 : (y.at (i + 1)).x.nb = y.x.nb := nb_stp _ _ _
    refine tkk e3 (takes_of_tree hE W0 (f := 18) (.inr (by kernel_rfl)) (belowE _) (e_L2 E (y.at (i + 1)) i) ⟨i + 1, by omega, by omega, ?_, rfl⟩)
    rw [wr_one (by omega)]
  · subst hi; exact rfl
theorem s_takes (hE : Plain E) {y : En} {B : Int} {i : Nat} (h : SP y.sz y.w B y.C i y.x) (hi : y.w.toNat ≤ i) (hd : y.dn = y.x.done) : Takes Try.prog E ra base y.x.nb (codeOf 18 qeS) (mkT 97 (y.ts [])) (hp 0 y.bs) fun z => z = (.normal, mkT 97 ((y.sealed y.x.goL.length).ts [(3, .bool false)]), hp 0 (y.sealed y.x.goL.length).bs) := by
  have W1 := wE (ra := ra) (base := base) hE (SN_ok hE)
  have k := h.k
  obtain ⟨s1, s2⟩ := sk_s2 k.q (by rw [k.len]; exact k.hsz.1) (fun r hr => by rw [k.len]; exact (k.pend r hr).2.2)
  rw [k.len] at s1 s2
  have okse : okSe y.x = true := by
    rw [okSe, h.rdy hi, okOv, k.ok, k.len, ne0_of k.hsz.1]; rfl
  have done : (!decide (y.x.done = y.dn)) = false := by rw [hd, decide_eq_true rfl]; rfl
  have fE : y.x.goL.isEmpty = true → (Tree.need (eB y.x.blks) (.need (okSe y.x && y.x.goL.isEmpty) (.but (!decide (y.x.done = y.dn)) (.need (eV (sealedD.args ⟨y.x.se nilQ, y.sz⟩)) (.need (okS2 ⟨y.x.se nilQ, y.sz⟩) (lfE (y.sealed 0) [(3, .bool false)])))))).holds fun z => z = (.normal, mkT 97 ((y.sealed y.x.goL.length).ts [(3, .bool false)]), hp 0 (y.sealed y.x.goL.length).bs) := fun he => by
    refine ndT (eB_eq sk_blks) (ndT (by rw [okse, he]; rfl) (btT done (ndT (eV_eq _) (ndT s1 ?_))))
    rw [List.isEmpty_iff.1 he]; rfl
  have fG : y.x.goL.isEmpty = false → (Tree.need (eB y.x.blks) (.need (okSe y.x && !y.x.goL.isEmpty) (.but (!decide (y.x.done = y.dn)) (.need (eB (Ql.gr (isort y.x.goL)).blk) (.need (eV (sealedD.args ⟨y.x.se (Ql.gr (isort y.x.goL)), y.sz⟩)) (.need (okS2 ⟨y.x.se (Ql.gr (isort y.x.goL)), y.sz⟩) (lfE (y.sealed (isort y.x.goL).length) [(3, .bool false)]))))))).holds fun z => z = (.normal, mkT 97 ((y.sealed y.x.goL.length).ts [(3, .bool false)]), hp 0 (y.sealed y.x.goL.length).bs) := fun he => by
    refine ndT (eB_eq sk_blks) (ndT (by rw [okse, he]; rfl) (btT done (ndT (eB_eq (q_blk _)) (ndT (eV_eq _) (ndT s2 ?_)))))
    rw [isort_length]; rfl
  have nol : y.x.q.nil = true ∨ y.x.q.lit = true → y.x.goL.isEmpty = true := fun hh => by
    have : y.x.q.l = [] := by
      obtain ⟨⟨f, a, ⟨nl, li, n, m, c⟩, l, d, u⟩, C, sz, w, left, dn, sl, kk⟩ := y
      cases nl
      · cases li
        · simp at hh
        · rfl
      · rfl
    rw [Sk.goL, this]; rfl
  rcases shape y.x.q with hq | ⟨hn, hl⟩ | ⟨hn, hl⟩
  · exact takes_of_tree hE W1 (f := 18) (.inr (by kernel_rfl)) (belowE y) (e_SN E y hq) (fE (nol (.inl hq)))
  · exact takes_of_tree hE W1 (f := 18) (.inr (by kernel_rfl)) (belowE y) (e_SL E y hn hl) (fE (nol (.inr hl)))
  · exact takes_of_tree hE W1 (f := 18) (.inr (by kernel_rfl)) (belowE y) (e_SG E y hn hl) ⟨fE, fG⟩
def En.nx (y : En) : En := { ((y.beg.at y.w.toNat).sealed (y.beg.at y.w.toNat).x.goL.length) with n := wr .i64 (y.n + 1) }
structure EO (y : En) (u : Bool) (B : Int) : Prop where
  k : KB y.sz y.w B y.x
  C : y.C.length = 3
  ap : y.x.a.p = y.C.take y.w.toNat
  und : y.x.und = u
  dn : y.dn = y.x.done
  left : y.left = y.x.q.len
theorem EO.sp {y : En} {u : Bool} {B : Int} (h : EO y u B) : SP y.sz y.w B y.C 0 y.beg.x := by
  have k := h.k
  refine ⟨⟨k.hw, k.hsz, k.len, k.f, k.fn, k.M, k.a, k.an, k.am, k.al, k.hB, k.q, k.qn, k.pend⟩, rfl, fun j hj => ?_, fun j hj => by omega⟩
  show y.x.a.p.getD j false = _
  rw [h.ap, getD_take hj, if_neg (by omega)]
theorem EO.nx {y : En} {u : Bool} {B : Int} (h : EO y u B) (hB : B + 1 ≤ 1000) : EO y.nx false (B + 1) ∧ y.nx.C = cF y.C ∧ (y.nx.x.q.len = (y.beg.at y.w.toNat).x.kpL.length) ∧ y.nx.x.nb = y.x.nb := by
  have hs := stp_sp h.sp y.w.toNat (by have := h.k.hw; omega)
  obtain ⟨s1, s2, s3, s4, s5⟩ := hs.sld (Nat.le_refl _) hB h.C
  have hq : (stp y.C y.beg.x y.w.toNat).q = y.x.q := (stp_q _ _ _).1
  refine ⟨⟨s1, ?_, s2, s3, rfl, ?_⟩, rfl, s4, (nb_seal _).trans (nb_stp _ _ _)⟩
  · show (cF y.C).length = 3
    rw [cF_rep h.C]; rfl
  · show wr .i64 (y.left - ((stp y.C y.beg.x y.w.toNat).goL.length : Nat)) = (((stp y.C y.beg.x y.w.toNat).sld.q.len : Nat) : Int)
    rw [s4, h.left]
    have hqn := h.k.qn
    rw [hq] at s5
    rw [wr_in ⟨by omega, by omega⟩]; omega
theorem en_round (hE : Plain E) {y : En} {u : Bool} {B : Int} (h : EO y u B) (hn : y.n < y.sl) : Takes Try.prog E ra base y.x.nb (codeOf 18 [false, false, true, false, true, true, true]) (mkT 97 (y.ts [(3, .bool u)])) (hp 0 y.bs) fun z => z = (.normal, mkT 97 (y.nx.ts [(3, .bool false)]), hp 0 y.nx.bs) := by
  have W0 : ExecOK Try.prog E ra base (W E noS noL) := W_ok sumNone_ok noL_ok
  have hs := stp_sp h.sp y.w.toNat (by have := h.k.hw; omega)
  have e1 : (y.beg.at y.w.toNat).x.nb = y.x.nb := nb_stp _ _ _
  have hd : (y.beg.at y.w.toNat).dn = (y.beg.at y.w.toNat).x.done := by
    show y.dn = (stp y.C y.beg.x y.w.toNat).done
    rw [(stp_q _ _ _).2]; exact h.dn
  refine tk_next d_b0 (takes_of_tree hE W0 (f := 18) (.inr (by kernel_rfl)) (belowE y) (e_B0 E y u) (br_by (fun _ => rfl) fun hc => absurd hn hc)) ?_
  refine tk_next d_b1 (ts' := mkT 97 (((y.beg.at y.w.toNat).sealed (y.beg.at y.w.toNat).x.goL.length).ts [(3, .bool false)])) (h' := hp 0 ((y.beg.at y.w.toNat).sealed (y.beg.at y.w.toNat).x.goL.length).bs) ?_ ?_
  · refine tk_block d_b2 ?_
    have key : Takes Try.prog E ra base y.x.nb (codeOf 18 [false, false, true, false, false, true, false, true, true, true]) (mkT 97 (y.ts [(3, .bool u)])) (hp 0 y.bs) fun z => z = (.normal, mkT 97 (((y.beg.at y.w.toNat).sealed (y.beg.at y.w.toNat).x.goL.length).ts [(3, .bool false)]), hp 0 ((y.beg.at y.w.toNat).sealed (y.beg.at y.w.toNat).x.goL.length).bs) := by
      refine tk_next d_c0 (b1_takes hE h.k h.und) ?_
      refine tk_next d_c1 (l_takes hE (y := y.beg) h.sp h.C) ?_
      exact tkk e1 (s_takes hE (y := y.beg.at y.w.toNat) hs (Nat.le_refl _) hd)
    exact key.mono fun z hz => by subst hz; rfl
  · have e2 : ((y.beg.at y.w.toNat).sealed (y.beg.at y.w.toNat).x.goL.length).x.nb = y.x.nb := (nb_seal _).trans e1
    exact tkk e2 (takes_of_tree hE W0 (f := 18) (.inr (by kernel_rfl)) (belowE _) (e_N E ((y.beg.at y.w.toNat).sealed (y.beg.at y.w.toNat).x.goL.length) false) rfl)
theorem en_stop (hE : Plain E) {y : En} {u : Bool} (hn : ¬ y.n < y.sl) : Takes Try.prog E ra base y.x.nb (codeOf 18 [false, false, true, false, true, true, true]) (mkT 97 (y.ts [(3, .bool u)])) (hp 0 y.bs) fun z => z = (.exit 0, mkT 97 (y.ts []), hp 0 y.bs) := by
  have W0 : ExecOK Try.prog E ra base (W E noS noL) := W_ok sumNone_ok noL_ok
  refine tk_seq d_b0 (R := fun z => z = (.exit 0, mkT 97 (y.ts []), hp 0 y.bs)) (takes_of_tree hE W0 (f := 18) (.inr (by kernel_rfl)) (belowE y) (e_B0 E y u) (br_by (fun hc => absurd hc hn) fun _ => rfl)) ?_
  rintro z rfl
  exact rfl
end
end Go.Proofs.Ytgkejpfahpbnkaa

namespace Go.Proofs.Ytgkejpfahpbnkaa
open Ab
structure Ea where
  x : Sk
  sz : Int
  w : Int
  u : Bool
  c0 : Bool
  c1 : Bool
  c2 : Bool
  left : Int
  dn : Int
def Ea.C (y : Ea) : List Bool := [y.c0, y.c1, y.c2]
def Ea.en (y : Ea) (sl : Int) : En := ⟨y.x, y.C, y.sz, y.w, y.left, y.dn, sl, 0⟩
def Ea.fin (y : Ea) : En := if y.u = true then (y.en 2).nx.nx else (y.en 1).nx
def Sk.as (x e : Sk) : Sk := { e with q := ⟨x.q.nil, x.q.lit, e.q.n, e.q.m, e.q.c⟩ }
def Ql.nrm (q : Ql) : Ql := match q.nil, q.lit with
  | true, _ => nilQ
  | false, true => litQ
  | false, false => ⟨false, false, q.n, q.m, q.c⟩
def Ea.nrm (y : Ea) : Ea := { y with x := { y.x with q := y.x.q.nrm } }
def EP (y : Ea) : Prop := EO (y.en 2) y.u 500 ∧ (y.u = false → ∀ j, j < y.w.toNat → y.C.getD j false = false) ∧ y.nrm = y
open Classical in
noncomputable def okEa (y : Ea) : Bool := decide (EP y)
def Ea.args (y : Ea) : List AVal := [pS, .int .i64 y.sz, .int .i64 y.w, .bool y.u, .agg [.bool y.c0, .bool y.c1, .bool y.c2], .int .i64 y.left, .int .i64 y.dn]
def Ea.ins (y : Ea) : List (Nat × AVal) := [(0, pS), (1, .int .i64 y.sz), (2, .int .i64 y.w), (3, .bool y.u), (4, .agg [.bool y.c0, .bool y.c1, .bool y.c2]), (5, .int .i64 y.left), (6, .int .i64 y.dn)]
def eaO (us : List AVal) (Bs : List Blk) : Option Ea := match us, sk1 us Bs with
  | [_, .int _ sz, .int _ w, .bool u, .agg [.bool a, .bool b, .bool c], .int _ l, .int _ d], some x => some ⟨x, sz, w, u, a, b, c, l, d⟩
  | _, _ => none
noncomputable def eaD (k : Nat) : RDeal Ea where
  ins := Ea.ins
  blks y := y.x.blks
  pre y := okEa y && Nat.beq y.x.nb k
  alts := [⟨Unit, .ret, fun _ _ => True, fun _ _ => [(14, .bool true)], fun y _ => (y.x.as y.fin.x).blks⟩]
noncomputable def TEa (k : Nat) : Tolds := sumT 18 [] (toldR 97 (eaD k) [0, 1, 2, 3, 4, 5, 6] eaO) noT
noncomputable def endsD : CDeal Ea := ⟨Ea.args, fun y => y.x.blks, okEa, fun _ => .bool true, fun y => (y.x.as y.fin.x).blks⟩
noncomputable def SE : Sums := sumF 18 (callG endsD eaO) (sumF 5 (callG trueD fun _ _ => some ()) SN)
end Go.Proofs.Ytgkejpfahpbnkaa

namespace Go.Proofs.Ytgkejpfahpbnkaa
open Ab
structure In where
  nl : Bool
  n : Nat
  w : Int
  sz : Int
def zr (w : Int) : List Int := List.replicate w.toNat 0
def In.y (z : In) : Lw := ⟨⟨mkFr (zr z.w), newAl ⟨((zr z.w).length : Int), 0, 0⟩, nilQ, z.sz, 0, false⟩, zr z.w, [false, false, false], nilQ, z.n, z.w, z.sz, 0, false, 0, 0⟩
def In.V (z : In) : AVal := match z.nl with
  | true => .nils
  | false => .slice (.ro 0 0 0 0) z.n none
def In.ts (z : In) : List (Nat × AVal) := [(2, z.V), (7, .int .i64 z.w), (8, .int .i64 z.sz), (9, pS), (10, .slice (.own 1 0 0 1) z.w.toNat (some z.w.toNat)), (11, .int .i64 0), (12, .nils), (13, .bool false), (14, .ptr (.own 2 0 0 0)), (15, .int .i64 0)]
def In.bs (z : In) : List Blk := [z.y.x.b0 3 4 5, ilN z.w.toNat (zr z.w), cmB [false, false, false], z.y.x.f.blk, z.y.x.a.blk]
def okIn (N : Nat) (z : In) : Bool := decide (1 ≤ z.w) && (decide (z.w ≤ 3) && (decide (1 ≤ z.sz) && (decide (z.sz ≤ 50) && decide (z.nl = false → z.n = N))))
def inO (us : List AVal) (_ : List Blk) : Option In := match us with
  | [.nils, .int _ w, .int _ sz, _, _, _, _, _, _, _] => some ⟨true, 0, w, sz⟩
  | [.slice _ n _, .int _ w, .int _ sz, _, _, _, _, _, _, _] => some ⟨false, n, w, sz⟩
  | _ => none
def inD (N : Nat) : RDeal In where
  ins := In.ts
  blks := In.bs
  pre := okIn N
  alts := [⟨Unit, .ret, fun _ _ => True, fun _ _ => [(6, .bool true)], fun _ _ => []⟩]
def pIn : List Bool := [true, true, true, true, true, true, true, true, true, true, true, true]
def TIn (N : Nat) : Tolds := sumT 3 pIn (toldR 246 (inD N) [2, 7, 8, 9, 10, 11, 12, 13, 14, 15] inO) noT
def wOf (b : Int) : Int := wr .i64 (1 + wr .i64 (Int.tmod b 3))
def sOf (a : Int) : Int := wr .i64 (1 + wr .i64 (Int.tmod a 50))
end Go.Proofs.Ytgkejpfahpbnkaa

namespace Go.Proofs.Ytgkejpfahpbnkaa
open Ab
theorem mk_en (y : En) (u : Bool) (j : Int) : mkT 97 [(0, pS), (1, .int .i64 y.sz), (2, .int .i64 y.w), (3, .bool u), (5, .int .i64 y.left), (6, .int .i64 y.dn), (11, .ptr (.own y.x.nb 0 0 0)), (15, .int .i64 j), (16, .int .i64 0)] = mkT 97 (En.ts { y with sl := j, n := 0 } [(3, .bool u)]) := by kernel_rfl
theorem fg_en (y : En) : canon y.x.nb (rg 0 y.x.nb) 33 (.normal, mkT 97 (y.ts [])) (hp 0 y.bs) = some (true, (.normal, mkT 97 [(0, pS), (5, .int .i64 y.left)], hp 0 y.x.blks)) := by
  obtain ⟨⟨f, a, ⟨nl, li, n, m, c⟩, l, d, b⟩, C, sz, w, left, dn, sl, k⟩ := y
  cases nl
  · cases li <;> kernel_rfl
  · kernel_rfl
theorem ea_t (E : Nat → Nat → Seg) (y : Ea) : (callT Try.prog E (W E SN noL) (TEa y.x.nb) y.x.nb 18 y.args ⟨hp 0 y.x.blks, y.x.nb, [], []⟩).take y.x.nb (.c (.n (.n (.a (.i (.leaf (rg 0 y.x.nb) 1))))))
  = .need (eT 97 y.ins y.x.blks y.ins y.x.blks) (.need ((eaD y.x.nb).pre y.nrm) (.all Unit fun _ => .imp True (lfQ (.bool true) (y.nrm.x.as y.nrm.fin.x).blks))) := by
  obtain ⟨⟨f, a, ⟨nl, li, n, m, c⟩, l, d, b⟩, sz, w, u, c0, c1, c2, left, dn⟩ := y
  cases nl
  · cases li <;> kernel_rfl
  · kernel_rfl
def Lw.tf (y : Lw) : List (Nat × AVal) := [(7, .int .i64 y.w), (8, .int .i64 y.sz), (9, pS), (11, .int .i64 y.tk), (12, y.g.v (5 + y.nq)), (13, .bool y.un), (14, .ptr (.own 4 0 0 0)), (15, .int .i64 y.dn)]
def Lw.ea (y : Lw) : Ea := ⟨y.x, y.sz, y.w, y.un, y.C.getD 0 false, y.C.getD 1 false, y.C.getD 2 false, wr .i64 (y.tk - y.g.len), y.dn⟩
def pFin : List Bool := [true, true, true, true, true, true, true, true, true, true, true, true, true]
theorem fg_fin (y : Lw) (hg : y.g.gn = true) : canon 0 (rg 0 y.len) 64384 (.normal, mkT 246 (y.ts [])) (hp 0 y.bs) = some (true, (.normal, mkT 246 y.tf, hp 0 y.bs)) := by
  obtain ⟨⟨f, a, ⟨nl, li, n, m, c⟩, l, d, b⟩, M, C, ⟨gn, gl, g1, g2, gc⟩, N, w, sz, tk, un, dn, i⟩ := y
  cases gn
  · cases gl
    · cases nl
      · cases li <;> kernel_rfl
      · kernel_rfl
    · cases hg
  · cases nl
    · cases li <;> kernel_rfl
    · kernel_rfl
theorem t_fin (E : Nat → Nat → Seg) (y : Lw) (hg : y.g.gn = true) : ((W E SE noL 3 pFin false (codeOf 3 pFin) (mkT 246 y.tf)).full ⟨hp 0 y.bs, y.len, [], []⟩ leafS).take 0 (.n (.n (.n (.leaf [] 64))))
  = .need (eB y.x.blks) (.need (eV y.ea.args) (.need (okEa y.ea.nrm) (.leaf (.ret, mkT 246 [(6, .bool true)], [])))) := by
  obtain ⟨⟨f, a, ⟨nl, li, n, m, c⟩, l, d, b⟩, M, C, ⟨gn, gl, g1, g2, gc⟩, N, w, sz, tk, un, dn, i⟩ := y
  cases gn
  · cases gl
    · cases nl
      · cases li <;> kernel_rfl
      · kernel_rfl
    · cases hg
  · cases nl
    · cases li <;> kernel_rfl
    · kernel_rfl
def In.tp (z : In) : List (Nat × AVal) := [(2, z.V), (7, .int .i64 z.w), (8, .int .i64 z.sz), (9, pS), (10, .slice (.own 3 0 0 1) z.w.toNat (some z.w.toNat)), (11, .int .i64 0), (12, .nils), (13, .bool false), (14, .ptr (.own 4 0 0 0)), (15, .int .i64 0)]
theorem fg_in (z : In) : canon 0 [0, 3, 4, 1, 2] 65412 (.normal, mkT 246 z.ts) (hp 0 z.bs) = some (true, (.normal, mkT 246 z.tp, hp 0 z.y.bs)) := by
  obtain ⟨nl, n, w, sz⟩ := z
  cases nl <;> kernel_rfl
def pI0 : List Bool := [false, false, true, true, true, true, true, true, true, true, true, true, true, true]
def pIs : List Bool := [false, true, true, true, true, true, true, true, true, true, true, true, true]
theorem t_i0 (E : Nat → Nat → Seg) (n : Nat) (w sz : Int) : ((W E noS noL 3 pI0 false (codeOf 3 pI0) (mkT 246 (In.tp ⟨false, n, w, sz⟩))).full ⟨hp 0 (In.y ⟨false, n, w, sz⟩).bs, 5, [], []⟩ leafS).take 0 (.leaf [0, 1, 2, 3, 4] 130948)
  = .leaf (.normal, mkT 246 ((In.y ⟨false, n, w, sz⟩).ts []), hp 0 (In.y ⟨false, n, w, sz⟩).bs) := by kernel_rfl
theorem t_is (E : Nat → Nat → Seg) (n : Nat) (w sz : Int) : ((W E noS noL 3 pIs false (codeOf 3 pIs) (mkT 246 (In.tp ⟨true, n, w, sz⟩))).full ⟨hp 0 (In.y ⟨true, n, w, sz⟩).bs, 5, [], []⟩ leafS).take 0 (cs 4 (.leaf [0, 1, 2, 3, 4] 64384))
  = .leaf (.normal, mkT 246 (In.y ⟨true, n, w, sz⟩).tf, hp 0 (In.y ⟨true, n, w, sz⟩).bs) := by kernel_rfl
theorem c_in : codeOf 3 pIn = .seq (codeOf 3 pIs) (codeOf 3 pFin) := by kernel_rfl
theorem c_is : codeOf 3 pIs = .seq (codeOf 3 pI0) (codeOf 3 plp) := by kernel_rfl
def mkw (w : Int) : Bool := decide (0 ≤ w) && decide (w ≤ w) && decide (w ≤ 1099511627776)
def nw0 (w s : Int) : Nw := ⟨nilQ, zr w, some w.toNat, s, 0, 0⟩
def lwT (z : In) (N : Nat) : TreeQ State := .need (mkw z.w) (.need (eBB [ilN z.w.toNat (zr z.w)] [ilN (zr z.w).length (zr z.w)]) (.need (eVV [.int .i64 z.sz, .agg [.nils, .slice (.own 0 0 0 1) z.w.toNat (some z.w.toNat), .int .i64 0, .int .i64 0]] (nwG.args (nw0 z.w z.sz)))
  (.need (nwG.pre (nw0 z.w z.sz)) (.need (mkw z.w) (.need (eT 246 z.ts z.bs z.ts z.bs) (.need (okIn N z) (.all Unit fun _ => .imp True (.leaf (.ret, mkT 1 [(0, .bool true)], [])))))))))
theorem law_s (E : Nat → Nat → Seg) (a b : Int) (n N : Nat) : (callT Try.prog E (W E SE noL) (TIn N) 0 3 [.int .u8 a, .int .u8 b, .slice (.ro 0 0 0 0) n none] ⟨hp 0 [], 0, [], []⟩).take 0 (csQ 6 (.n (.c (.n (.n (.n (.c (.n (.c (.n (.n (.a (.i (.leaf [] 1))))))))))))))
  = lwT ⟨false, n, wOf b, sOf a⟩ N := by kernel_rfl
theorem law_n (E : Nat → Nat → Seg) (a b : Int) (N : Nat) : (callT Try.prog E (W E SE noL) (TIn N) 0 3 [.int .u8 a, .int .u8 b, .nils] ⟨hp 0 [], 0, [], []⟩).take 0 (csQ 6 (.n (.c (.n (.n (.n (.c (.n (.c (.n (.n (.a (.i (.leaf [] 1))))))))))))))
  = lwT ⟨true, 0, wOf b, sOf a⟩ N := by kernel_rfl
end Go.Proofs.Ytgkejpfahpbnkaa

namespace Go.Proofs.Ytgkejpfahpbnkaa
open Ab
theorem nrm_spec {q : Ql} (h : q.ok = true) : q.nrm.ok = true ∧ q.nrm.l = q.l ∧ q.nrm.len = q.len ∧ q.nrm.nrm = q.nrm := by
  obtain ⟨nl, li, n, m, c⟩ := q
  cases nl <;> cases li <;> first | exact ⟨h, rfl, rfl, rfl⟩ | exact ⟨rfl, rfl, rfl, rfl⟩
theorem as_eq {x e : Sk} (h1 : e.q.nil = x.q.nil) (h2 : e.q.lit = x.q.lit) : x.as e = e := by
  obtain ⟨f, a, ⟨nl, li, n, m, c⟩, l, d, u⟩ := e
  simp only at h1 h2
  subst h1; subst h2; rfl
theorem nx_shape (y : En) : y.nx.x.q.nil = y.x.q.nil ∧ y.nx.x.q.lit = y.x.q.lit := by
  have h := rest_shape (stp y.C y.beg.x y.w.toNat).q (stp y.C y.beg.x y.w.toNat).kpL
  rw [(stp_q y.C y.beg.x y.w.toNat).1] at h
  have e : y.nx.x.q = (stp y.C y.beg.x y.w.toNat).q.rest (stp y.C y.beg.x y.w.toNat).kpL := rfl
  rw [e, (stp_q y.C y.beg.x y.w.toNat).1]
  exact h
section
variable {E : Nat → Nat → Seg} {ra : Nat → Nat → Nat × Nat} {base : Nat}
theorem EO.sl {y : En} {u : Bool} {B : Int} (h : EO y u B) (s n : Int) : EO { y with sl := s, n := n } u B := ⟨h.k, h.C, h.ap, h.und, h.dn, h.left⟩
theorem e5_takes (hE : Plain E) {y : En} {u : Bool} {B : Int} (h : EO y u B) (hl : y.x.q.len = 0) : Takes Try.prog E ra base y.x.nb (codeOf 18 qeE5) (mkT 97 (y.ts [])) (hp 0 y.bs) fun z => z = (.ret, mkT 97 [(14, .bool true)], hp 0 y.x.blks) := by
  have W1 := wE (ra := ra) (base := base) hE (SN_ok hE)
  have h0 : y.left = 0 := by rw [h.left, hl]; rfl
  refine takes_canon hE (fg_en y) ?_
  rw [h0]
  rcases shape y.x.q with hq | ⟨hn, hl'⟩ | ⟨hn, hl'⟩
  · exact takes_of_tree hE W1 (f := 18) (.inr (by kernel_rfl)) (hp_below _) (e_E5N E y hq) (stK_ok h.k (by simp [Ql.full, hq]) rfl)
  · exact takes_of_tree hE W1 (f := 18) (.inr (by kernel_rfl)) (hp_below _) (e_E5L E y hn hl') (stK_ok h.k (by simp [Ql.e1, Ql.none, hn, hl']) rfl)
  · have he : y.x.q.e1 = true := by
      obtain ⟨⟨f, a, ⟨nl, li, n, m, c⟩, l, d, b⟩, C, sz, w, left, dn, sl, k⟩ := y
      simp only at hn hl'
      subst hn; subst hl'
      replace hl : n = 0 := hl
      subst hl; rfl
    exact takes_of_tree hE W1 (f := 18) (.inr (by kernel_rfl)) (hp_below _) (e_E5G E y hn hl') (ndT he (stK_ok h.k he rfl))
theorem EO.lst {y : En} {u : Bool} {B : Int} (h : EO y u B) (hB : B + 1 ≤ 1000) (hc : ∀ j, j < y.w.toNat → y.C.getD j false = false) : y.nx.x.q.len = 0 := by
  have hs := stp_sp h.sp y.w.toNat (by have := h.k.hw; omega)
  have hk := hs.last (Nat.le_refl _) hc
  rw [(h.nx hB).2.2.1]
  show ((stp y.C y.beg.x y.w.toNat).kpL).length = 0
  rw [hk]; rfl
theorem ends_body (hE : Plain E) {y : Ea} (h : EP y) : Takes Try.prog E ra base y.x.nb (codeOf 18 []) (mkT 97 y.ins) (hp 0 y.x.blks) fun z => z = (.ret, mkT 97 [(14, .bool true)], hp 0 y.fin.x.blks) := by
  have W0 : ExecOK Try.prog E ra base (W E noS noL) := W_ok sumNone_ok noL_ok
  obtain ⟨ho, hf, _⟩ := h
  refine tk_next d_a0 (takes_of_tree hE W0 (f := 18) (.inr (by kernel_rfl)) (hp_below _) (e_E0 E (y.en 2) y.u y.c0 y.c1 y.c2) rfl) ?_
  refine tk_next d_a1 (takes_of_tree hE W0 (f := 18) (.inr (by kernel_rfl)) (belowE (y.en 2)) (e_E1 E (y.en 2) y.u) rfl) ?_
  have loop : ∀ (sl : Int), (y.u = true ∧ sl = 2) ∨ (y.u = false ∧ sl = 1) → Takes Try.prog E ra base y.x.nb (codeOf 18 [true, true, true]) (mkT 97 [(0, pS), (1, .int .i64 y.sz), (2, .int .i64 y.w), (3, .bool y.u), (5, .int .i64 y.left), (6, .int .i64 y.dn), (11, .ptr (.own y.x.nb 0 0 0)), (15, .int .i64 sl)]) (hp 0 (y.en 2).bs) fun z => z = (.ret, mkT 97 [(14, .bool true)], hp 0 y.fin.x.blks) := fun sl hsl => by
    have hfin : ∃ u B, EO y.fin u B ∧ y.fin.x.q.len = 0 ∧ y.fin.x.nb = y.x.nb := by
      rcases hsl with ⟨e, _⟩ | ⟨e, _⟩
      · have h1 := ho.nx (by omega)
        have h2 := h1.1.nx (by omega)
        have hC : ∀ j, j < (y.en 2).nx.w.toNat → (y.en 2).nx.C.getD j false = false := fun j hj => by
          rw [h1.2.1, cF_rep ho.C, List.getD_eq_getElem?_getD, List.getElem?_replicate]
          split <;> rfl
        have hl := h1.1.lst (by omega) hC
        have ef : y.fin = (y.en 2).nx.nx := by rw [Ea.fin, if_pos e]
        rw [ef]
        exact ⟨false, _, h2.1, hl, h2.2.2.2.trans h1.2.2.2⟩
      · have ho1 : EO (y.en 1) y.u 500 := ho.sl 1 0
        have h1 := ho1.nx (by omega)
        have hl := ho1.lst (by omega) (hf e)
        have ef : y.fin = (y.en 1).nx := by rw [Ea.fin, if_neg (by rw [e]; decide)]
        rw [ef]
        exact ⟨false, _, h1.1, hl, h1.2.2.2⟩
    obtain ⟨uf, Bf, hof, hlf, hnf⟩ := hfin
    refine tk_next d_a3 (ts' := mkT 97 (y.fin.ts [])) (h' := hp 0 y.fin.bs) ?_ (tkk hnf (e5_takes hE hof hlf))
    refine tk_next d_a4 (takes_of_tree hE W0 (f := 18) (.inr (by kernel_rfl)) (belowE (y.en 2)) (e_E3 E (y.en 2) y.u sl) rfl) ?_
    refine tk_block d_a5 ?_
    rw [d_a6]
    have key : Takes Try.prog E ra base y.x.nb (.loop (codeOf 18 [false, false, true, false, true, true, true])) (mkT 97 ((y.en sl).ts [(3, .bool y.u)])) (hp 0 (y.en sl).bs) fun z => z = (.exit 0, mkT 97 (y.fin.ts []), hp 0 y.fin.bs) := by
      rcases hsl with ⟨e, rfl⟩ | ⟨e, rfl⟩
      · have h1 := ho.nx (by omega)
        have h2 := h1.1.nx (by omega)
        have n1 : (y.en 2).nx.n = 1 := by show wr .i64 (0 + 1) = 1; rfl
        have n2 : (y.en 2).nx.nx.n = 2 := by show wr .i64 ((y.en 2).nx.n + 1) = 2; rw [n1]; rfl
        have ef : y.fin = (y.en 2).nx.nx := by rw [Ea.fin, if_pos e]
        rw [ef]
        refine takes_loop (fun j ts hh => (j = 3 ∧ ts = mkT 97 ((y.en 2).ts [(3, .bool y.u)]) ∧ hh = hp 0 (y.en 2).bs) ∨ (j = 2 ∧ ts = mkT 97 ((y.en 2).nx.ts [(3, .bool false)]) ∧ hh = hp 0 (y.en 2).nx.bs) ∨ (j = 1 ∧ ts = mkT 97 ((y.en 2).nx.nx.ts [(3, .bool false)]) ∧ hh = hp 0 (y.en 2).nx.nx.bs)) (fun ts hh hx => by rcases hx with ⟨e, _⟩ | ⟨e, _⟩ | ⟨e, _⟩ <;> omega) (fun j ts hh hx => ?_) (j := 3) (.inl ⟨rfl, rfl, rfl⟩)
        rcases hx with ⟨ej, rfl, rfl⟩ | ⟨ej, rfl, rfl⟩ | ⟨ej, rfl, rfl⟩
        · exact (en_round hE ho (show (0 : Int) < 2 by omega)).mono fun z hz => by subst hz; exact .inr (.inl ⟨by omega, rfl, rfl⟩)
        · exact tkk h1.2.2.2 ((en_round hE h1.1 (by rw [n1]; show (1 : Int) < 2; omega)).mono fun z hz => by subst hz; exact .inr (.inr ⟨by omega, rfl, rfl⟩))
        · exact tkk (h2.2.2.2.trans h1.2.2.2) ((en_stop hE (by rw [n2]; show ¬ (2 : Int) < 2; omega)).mono fun z hz => by subst hz; rfl)
      · have ho1 : EO (y.en 1) y.u 500 := ho.sl 1 0
        have h1 := ho1.nx (by omega)
        have n1 : (y.en 1).nx.n = 1 := by show wr .i64 (0 + 1) = 1; rfl
        have ef : y.fin = (y.en 1).nx := by rw [Ea.fin, if_neg (by rw [e]; decide)]
        rw [ef]
        refine takes_loop (fun j ts hh => (j = 2 ∧ ts = mkT 97 ((y.en 1).ts [(3, .bool y.u)]) ∧ hh = hp 0 (y.en 1).bs) ∨ (j = 1 ∧ ts = mkT 97 ((y.en 1).nx.ts [(3, .bool false)]) ∧ hh = hp 0 (y.en 1).nx.bs)) (fun ts hh hx => by rcases hx with ⟨e, _⟩ | ⟨e, _⟩ <;> omega) (fun j ts hh hx => ?_) (j := 2) (.inl ⟨rfl, rfl, rfl⟩)
        rcases hx with ⟨ej, rfl, rfl⟩ | ⟨ej, rfl, rfl⟩
        · exact (en_round hE ho1 (show (0 : Int) < 1 by omega)).mono fun z hz => by subst hz; exact .inr ⟨by omega, rfl, rfl⟩
        · exact tkk h1.2.2.2 ((en_stop hE (by rw [n1]; show ¬ (1 : Int) < 1; omega)).mono fun z hz => by subst hz; rfl)
    have em := mk_en (y.en sl) y.u sl
    have key2 := key.mono (Q' := InBlock 0 fun z => z = (.normal, mkT 97 (y.fin.ts []), hp 0 y.fin.bs)) fun z hz => by subst hz; rfl
    have em' : mkT 97 [(0, pS), (1, .int .i64 y.sz), (2, .int .i64 y.w), (3, .bool y.u), (5, .int .i64 y.left), (6, .int .i64 y.dn), (11, .ptr (.own y.x.nb 0 0 0)), (15, .int .i64 sl), (16, .int .i64 0)] = mkT 97 ((y.en sl).ts [(3, .bool y.u)]) := em
    show Takes Try.prog E ra base y.x.nb _ (mkT 97 [(0, pS), (1, .int .i64 y.sz), (2, .int .i64 y.w), (3, .bool y.u), (5, .int .i64 y.left), (6, .int .i64 y.dn), (11, .ptr (.own y.x.nb 0 0 0)), (15, .int .i64 sl), (16, .int .i64 0)]) (hp 0 (y.en 2).bs) _
    rw [em']
    exact key2
  refine tk_seq d_a2 (R := fun z => ∃ sl : Int, ((y.u = true ∧ sl = 2) ∨ (y.u = false ∧ sl = 1)) ∧ z = (.normal, mkT 97 [(0, pS), (1, .int .i64 y.sz), (2, .int .i64 y.w), (3, .bool y.u), (5, .int .i64 y.left), (6, .int .i64 y.dn), (11, .ptr (.own y.x.nb 0 0 0)), (15, .int .i64 sl)], hp 0 (y.en 2).bs)) (takes_of_tree hE W0 (f := 18) (.inr (by kernel_rfl)) (belowE (y.en 2)) (e_E2 E (y.en 2) y.u) ⟨fun e => ⟨2, .inl ⟨e, rfl⟩, rfl⟩, fun e => ⟨1, .inr ⟨e, rfl⟩, rfl⟩⟩) ?_
  rintro z ⟨sl, hsl, rfl⟩
  exact loop sl hsl
open Classical in
theorem okEa_iff {y : Ea} : okEa y = true ↔ EP y := by rw [okEa, decide_eq_true_eq]
theorem fin_as {y : Ea} : y.x.as y.fin.x = y.fin.x := by
  have h : y.fin.x.q.nil = y.x.q.nil ∧ y.fin.x.q.lit = y.x.q.lit := by
    unfold Ea.fin
    split
    · have h1 := nx_shape (y.en 2).nx
      have h2 := nx_shape (y.en 2)
      exact ⟨h1.1.trans h2.1, h1.2.trans h2.2⟩
    · exact nx_shape (y.en 1)
  exact as_eq h.1 h.2
theorem TEa_ok (hE : Plain E) (k : Nat) : ToldsOK Try.prog E ra base k (TEa k) := by
  refine sumT_ok noT_ok rfl (toldR_ok (c := codeOf 18 []) (by kernel_rfl) fun y hy => ?_)
  simp only [eaD, Bool.and_eq_true] at hy
  have hk := Nat.eq_of_beq_eq_true hy.2
  subst hk
  refine (ends_body hE (okEa_iff.1 hy.1)).mono fun z hz => ⟨(), trivial, ?_⟩
  show z = (.ret, mkT 97 [(14, .bool true)], hp 0 (y.x.as y.fin.x).blks)
  rw [fin_as]; exact hz
theorem ends_gives (hE : Plain E) (y : Ea) (h : okEa y = true) : Gives Try.prog E ra base y.x.blks.length 18 y.args (hp 0 y.x.blks) fun v h' => v = endsD.out y ∧ h' = hp 0 (endsD.blks' y) := by
  have hn : y.nrm = y := (okEa_iff.1 h).2.2
  refine gives_of_treeQ hE (wE hE (SN_ok hE)) (TEa_ok hE y.x.nb) (hp_below _) (ea_t E y) ?_
  refine ⟨eT_self rfl rfl sk_blks, ?_, fun _ _ => ?_⟩
  · rw [hn]
    show (okEa y && Nat.beq y.x.nb y.x.nb) = true
    rw [h, Nat.beq_refl]; rfl
  · refine lfQ_ok rfl ?_
    rw [hn]; rfl
theorem SE_ok (hE : Plain E) : SumsOK Try.prog E ra base SE :=
  sumG_deal hE (sumG_deal hE (SN_ok hE) ⟨_, Try.func5, by kernel_rfl⟩ fun _ _ => (gives_of_eval hE (W_ok sumNone_ok noL_ok) sumNone_ok works_true).2) ⟨_, Try.func18, by kernel_rfl⟩ fun y hy => ends_gives hE y hy
end
end Go.Proofs.Ytgkejpfahpbnkaa

namespace Go.Proofs.Ytgkejpfahpbnkaa
open Ab
theorem three {C : List Bool} (h : C.length = 3) : [C.getD 0 false, C.getD 1 false, C.getD 2 false] = C := by
  match C, h with
  | [a, b, c], _ => rfl
theorem LI.ep {y : Lw} (h : LI y 500) : EP y.ea.nrm := by
  obtain ⟨n1, n2, n3, n4⟩ := nrm_spec h.q
  have hC := three h.C
  have hql := h.qlen
  refine ⟨⟨⟨h.w, h.sz, h.len, h.f, h.fn, fun t ht => ?_, h.a, h.an, h.am, h.al, by omega, n1, ?_, fun r hr => ?_⟩, rfl, ?_, h.un, h.dn.1.symm, ?_⟩, fun hu j hj => ?_, ?_⟩
  · replace ht : t ∈ y.x.f.l := ht
    rw [h.fl] at ht
    have := h.M t ht; omega
  · show y.x.q.nrm.len ≤ 500
    rw [n3]; exact hql.1
  · replace hr : r ∈ y.x.q.nrm.l := hr
    rw [n2] at hr
    have := h.pend r hr
    have hd := h.dn.1
    exact ⟨this.1, by omega, by show y.x.done ≤ _; rw [hd]; exact this.2.2⟩
  · show y.x.a.p = [y.C.getD 0 false, y.C.getD 1 false, y.C.getD 2 false].take y.w.toNat
    rw [hC]; exact h.ap
  · show wr .i64 (y.tk - (y.g.len : Int)) = ((y.x.q.nrm.len : Nat) : Int)
    rw [n3]
    have := h.cnt
    rw [wr_in ⟨by omega, by omega⟩]; omega
  · show [y.C.getD 0 false, y.C.getD 1 false, y.C.getD 2 false].getD j false = false
    replace hj : j < y.w.toNat := hj
    rw [hC]
    have hp := h.free hu
    rw [h.ap] at hp
    have hl : j < (y.C.take y.w.toNat).length := by rw [List.length_take, h.C]; have := h.w; omega
    have := hp _ (List.getElem_mem hl)
    rw [← getD_at hl false, getD_take hj] at this
    exact this
  · show ({ y.ea.nrm with x := { y.ea.nrm.x with q := y.ea.nrm.x.q.nrm } } : Ea) = y.ea.nrm
    show ({ y.ea.nrm with x := { y.x with q := y.x.q.nrm.nrm } } : Ea) = { y.ea with x := { y.x with q := y.x.q.nrm } }
    rw [n4]; rfl
theorem zr_len {w : Int} (h : 1 ≤ w) : (zr w).length = w.toNat := List.length_replicate ..
theorem zr_ok {w : Int} (h : 1 ≤ w ∧ w ≤ 3) : okM (zr w) = true := by
  simp only [okM, zr, Bool.and_eq_true, decide_eq_true_eq, List.all_eq_true, List.length_replicate]
  refine ⟨by omega, by omega, fun t ht => ?_⟩
  have := (List.mem_replicate.1 ht).2
  omega
theorem LI.start {z : In} (hw : 1 ≤ z.w ∧ z.w ≤ 3) (hs : 1 ≤ z.sz ∧ z.sz ≤ 50) : LI z.y 0 := by
  obtain ⟨m1, m2⟩ := mkFr_spec (zr_ok hw)
  have hl : ((zr z.w).length : Int) = z.w := by rw [zr_len hw.1]; omega
  have mem : ∀ t ∈ zr z.w, t = 0 := fun t ht => (List.mem_replicate.1 ht).2
  have hp : (newAl ⟨((zr z.w).length : Int), 0, 0⟩).p = List.replicate (min z.w.toNat 16) false := by
    show (List.replicate 16 false).take ((zr z.w).length : Int).toNat = _
    rw [List.take_replicate, hl]
  refine ⟨hw, hs, rfl, m1, hl, m2, ?_, hl, rfl, ?_, rfl, ⟨Int.le_refl _, Int.le_refl _⟩, rfl, ⟨rfl, rfl⟩, fun t ht => ?_, ⟨Int.le_refl _, by omega⟩, rfl, fun _ c hc => ?_, ⟨rfl, Int.le_refl _⟩, fun t ht => ?_, fun r hr => ?_, ⟨rfl, Int.le_refl _⟩⟩
  · show (decide ((List.replicate 16 false).length = 16) && (decide ((List.replicate 16 false).length = 16) && (decide (0 ≤ ((zr z.w).length : Int)) && (decide (((zr z.w).length : Int) ≤ 16) && (decide ((0 : Int) ≤ 0) && decide ((0 : Int) ≤ 16)))))) = true
    rw [hl, decide_eq_true (show 0 ≤ z.w by omega), decide_eq_true (show z.w ≤ 16 by omega)]; rfl
  · show (newAl ⟨((zr z.w).length : Int), 0, 0⟩).p = [false, false, false].take z.w.toNat
    rw [hp, show [false, false, false] = List.replicate 3 false from rfl, List.take_replicate]
    congr 1; omega
  · have := mem t ht; omega
  · replace hc : c ∈ (newAl ⟨((zr z.w).length : Int), 0, 0⟩).p := hc
    rw [hp] at hc
    exact (List.mem_replicate.1 hc).2
  · have := mem t ht
    rw [this]
    exact (ep_le hs.1 (Int.le_refl 0) (by omega)).1
  · replace hr : r ∈ ([] : List Rc) := hr
    cases hr
section
variable {ta tb tc : List Int} {ra : Nat → Nat → Nat × Nat} {base : Nat}
theorem fin_takes {E : Nat → Nat → Seg} (hE : Plain E) {y : Lw} (h : LI y 500) : Takes Try.prog E ra base 0 (codeOf 3 pFin) (mkT 246 y.tf) (hp 0 y.bs) fun z => z = (.ret, mkT 246 [(6, .bool true)], hp 0 []) :=
  takes_of_tree hE (wE hE (SE_ok hE)) (f := 3) (.inr (by kernel_rfl)) (hp_below _) (t_fin E y h.g.1) (ndT (eB_eq sk_blks) (ndT (eV_eq _) (ndT (okEa_iff.2 h.ep) rfl)))
theorem LI.big {y : Lw} {b : Int} (h : LI y b) : LI y 500 := by
  have hb := h.bb
  have e1 := h.al
  have e2 := h.cnt
  exact ⟨h.w, h.sz, h.len, h.f, h.fn, h.fl, h.a, h.an, h.am, h.ap, h.C, ⟨e1.1, by omega⟩, h.q, h.g, fun t ht => ⟨(h.M t ht).1, by have := (h.M t ht).2; omega⟩, ⟨by omega, by omega⟩, h.un, h.free, h.dn, h.low, fun r hr => ⟨(h.pend r hr).1, by have := (h.pend r hr).2.1; omega, (h.pend r hr).2.2⟩, ⟨e2.1, by omega⟩⟩
theorem in_takes (hT : Tc ta tb tc) (z : In) (hz : okIn ta.length z = true) : Takes Try.prog (tabC ta tb tc) ra base 0 (codeOf 3 pIn) (mkT 246 z.ts) (hp 0 z.bs) fun y => y = (.ret, mkT 246 [(6, .bool true)], hp 0 []) := by
  have hE := tabC_plain ta tb tc
  have W0 : ExecOK Try.prog (tabC ta tb tc) ra base (W (tabC ta tb tc) noS noL) := W_ok sumNone_ok noL_ok
  simp only [okIn, Bool.and_eq_true, decide_eq_true_eq] at hz
  obtain ⟨w1, w2, s1, s2, hn⟩ := hz
  have h0 := LI.start (z := z) ⟨w1, w2⟩ ⟨s1, s2⟩
  refine takes_canon hE (fg_in z) ?_
  obtain ⟨nl, n, w, sz⟩ := z
  cases nl with
  | false =>
    have hn : n = ta.length := hn rfl
    refine tk_ex (β := { y : Lw // LI y 500 }) (T := fun y => mkT 246 y.1.tf) (H := fun y => hp 0 y.1.bs) c_in ?_ fun y => fin_takes hE y.2
    refine tk_next c_is (takes_of_tree hE W0 (f := 3) (.inr (by kernel_rfl)) (hp_below _) (t_i0 _ n w sz) rfl) ?_
    have key := law_loop (ra := ra) (base := base) hT (y := In.y ⟨false, n, w, sz⟩) (by exact h0) rfl hn
    intro ι ww nb a hf
    refine wpIn_mono (key ι ww nb a hf) ?_
    rintro e a' w' ⟨x, ι', h1, ⟨y', h2, rfl⟩, h3, h4⟩
    obtain ⟨ι'', f'', k''⟩ := canon_fit hE (fg_fin y' h2.1.g.1) h3
    exact ⟨(.normal, mkT 246 y'.tf, hp 0 y'.bs), ι'', h1, ⟨⟨y', h2.1⟩, rfl⟩, f'', h4.trans k''⟩
  | true =>
    refine tk_next c_in (takes_of_tree hE W0 (f := 3) (.inr (by kernel_rfl)) (hp_below _) (t_is _ n w sz) rfl) ?_
    exact fin_takes hE h0.big
theorem TIn_ok (hT : Tc ta tb tc) : ToldsOK Try.prog (tabC ta tb tc) ra base 0 (TIn ta.length) :=
  sumT_ok noT_ok rfl (toldR_ok (c := codeOf 3 pIn) (by kernel_rfl) fun z hz => (in_takes hT z hz).mono fun y hy => ⟨(), trivial, hy⟩)
theorem lwT_ok {z : In} {N : Nat} (hw : 1 ≤ z.w ∧ z.w ≤ 3) (hs : 1 ≤ z.sz ∧ z.sz ≤ 50) (hn : z.nl = false → z.n = N) : (lwT z N).holds fun x => ∃ v, x.2.1 = [v] ∧ (v = .bool true ∧ True) := by
  have hl : z.w.toNat = (zr z.w).length := (zr_len hw.1).symm
  have hk : mkw z.w = true := by rw [mkw, decide_eq_true (show 0 ≤ z.w by omega), decide_eq_true (Int.le_refl _), decide_eq_true (show z.w ≤ 1099511627776 by omega)]; rfl
  refine ndQ hk (ndQ ?_ (ndQ ?_ (ndQ ?_ (ndQ hk (ndQ (eT_self rfl rfl rfl) (ndQ ?_ fun _ _ => ⟨_, rfl, rfl, trivial⟩))))))
  · rw [eBB, hl]; exact eB_eq rfl
  · show (sameL [.int .i64 z.sz, .agg [.nils, .slice (.own 0 0 0 1) z.w.toNat (some z.w.toNat), .int .i64 0, .int .i64 0]] [.int .i64 z.sz, .agg [.nils, .slice (.own 0 0 0 1) (zr z.w).length (some z.w.toNat), .int .i64 0, .int .i64 0]] && true) = true
    rw [← hl]; exact eV_eq _
  · show (okNw (nw0 z.w z.sz) && true) = true
    have e1 : decide ((zr z.w).length ≤ 3) = true := decide_eq_true (by omega)
    show ((true && (okM (zr z.w) && (decide ((zr z.w).length ≤ 3) && (decide (1 ≤ z.sz) && (decide (z.sz ≤ 1073741824) && (decide ((0 : Int) ≤ 0) && (decide ((0 : Int) ≤ 1152921504606846976) && decide ((0 : Int) ≤ 0)))))))) && true) = true
    rw [zr_ok hw, e1, decide_eq_true hs.1, decide_eq_true (show z.sz ≤ 1073741824 by omega)]; rfl
  · simp only [okIn, Bool.and_eq_true, decide_eq_true_eq]
    exact ⟨hw.1, hw.2, hs.1, hs.2, hn⟩
theorem wOf_in {b : Int} (h : 0 ≤ b ∧ b ≤ 255) : 1 ≤ wOf b ∧ wOf b ≤ 3 := by
  have h1 := Int.tmod_nonneg 3 h.1
  have h2 := Int.tmod_lt_of_pos b (show (0 : Int) < 3 by omega)
  rw [wOf, wr_in (v := Int.tmod b 3) ⟨by omega, by omega⟩, wr_in ⟨by omega, by omega⟩]; omega
theorem sOf_in {a : Int} (h : 0 ≤ a ∧ a ≤ 255) : 1 ≤ sOf a ∧ sOf a ≤ 50 := by
  have h1 := Int.tmod_nonneg 50 h.1
  have h2 := Int.tmod_lt_of_pos a (show (0 : Int) < 50 by omega)
  rw [sOf, wr_in (v := Int.tmod a 50) ⟨by omega, by omega⟩, wr_in ⟨by omega, by omega⟩]; omega
def chV (nl : Bool) (n : Nat) : AVal := match nl with
  | true => .nils
  | false => .slice (.ro 0 0 0 0) n none
theorem keeps_gives (hT : Tc ta tb tc) {a b : Int} (ha : 0 ≤ a ∧ a ≤ 255) (hb : 0 ≤ b ∧ b ≤ 255) (nl : Bool) : Gives Try.prog (tabC ta tb tc) ra base 0 3 [.int .u8 a, .int .u8 b, chV nl ta.length] (hp 0 []) fun v _ => v = .bool true := by
  have hE := tabC_plain ta tb tc
  cases nl with
  | false =>
    refine (gives_of_treeQ (Q := fun v _ => v = .bool true ∧ True) hE (wE hE (SE_ok hE)) (TIn_ok hT) (hp_below []) (law_s _ a b ta.length ta.length) (lwT_ok (z := ⟨false, ta.length, wOf b, sOf a⟩) (wOf_in hb) (sOf_in ha) fun _ => rfl)).mono fun v h' hv => hv.1
  | true =>
    refine (gives_of_treeQ (Q := fun v _ => v = .bool true ∧ True) hE (wE hE (SE_ok hE)) (TIn_ok hT) (hp_below []) (law_n _ a b ta.length) (lwT_ok (z := ⟨true, 0, wOf b, sOf a⟩) (wOf_in hb) (sOf_in ha) fun e => (by cases e))).mono fun v h' hv => hv.1
end
end Go.Proofs.Ytgkejpfahpbnkaa
