/- Parts of the walk: sink: Begin, Ready, Take (a mark, a barrier), State: trees; sink: Begin, Ready, Take (a mark, a barrier), State keep their contracts; sink: epochs; what is over; closures; DeleteFunc; Seal: contracts; sink: what is over; IndexFunc, DeleteFunc: trees; sink: what is over; IndexFunc, DeleteFunc: contracts kept; sink: DeleteFunc keeps its contract; sink: Seal; whether it is in order: contracts; sink: Seal: trees; sink: Seal keeps its contract; sink: Seal as a sum; sealed, Make, New: contracts; sink: sealed, Make, New: trees; sink: sealed, Make, New keep their contracts; sink: the law's loop: what it has; sink: the law's loop: places; what its pieces leave; sink: the law's loop: trees (simple pieces). -/
import Derived.Test.YtgkejpfahpbnkaaG02
import Derived.Test.YtgkejpfahpbnkaaE06

set_option linter.unusedSimpArgs false
set_option linter.unusedVariables false
namespace Go.Proofs.Ytgkejpfahpbnkaa
open Ab
def lfS (v : AVal) (Bs : List Blk) : Tree State := .leaf (.ret, mkT 1 [(0, v)], hp 0 Bs)
theorem begin_t (E : Nat → Nat → Seg) (x : Sk) (b : Int) : ((callB Try.prog E SB (W E SB noL) 10 [pS, .int .i64 b]).full ⟨hp 0 x.blks, x.nb, [], []⟩ leafV).take x.nb (.c (.f (cs 6 (.n (.c (.n (.c (.f (.leaf x.ids 1)))))))))
  = .but x.und (.need (eB [x.a.blk]) (.need (okAl x.a) (.but (!decide (wr .i64 (b - 1) = x.a.l)) (lfS (.int .i64 0) (Sk.blks { x with und := true }))))) := by
  obtain ⟨f, a, ⟨nl, li, n, m, c⟩, l, d, u⟩ := x
  cases nl
  · cases li <;> kernel_rfl
  · kernel_rfl
theorem ready_t (E : Nat → Nat → Seg) (x : Sk) : ((callB Try.prog E SB (W E SB noL) 15 [pS]).full ⟨hp 0 x.blks, x.nb, [], []⟩ leafV).take x.nb (cs 5 (.x (cs 7 (.leaf x.ids 1)) (cs 4 (.n (.c (.n (.c (.x (.leaf x.ids 1) (.n (.c (.n (.leaf x.ids 1))))))))))))
  = .br (!x.und) (lfS (.tup [.int .i64 0, .bool false]) x.blks) (.need (eB [x.a.blk]) (.need (okAl x.a) (.br (!decide (phaseL x.a.p x.a.q = 3)) (lfS (.tup [.int .i64 0, .bool false]) x.blks)
    (.need (eB [x.a.blk]) (.need (okAl x.a) (lfS (.tup [.int .i64 (wr .i64 (x.a.l + 1)), .bool true]) x.blks)))))) := by
  obtain ⟨f, a, ⟨nl, li, n, m, c⟩, l, d, u⟩ := x
  cases nl
  · cases li <;> kernel_rfl
  · kernel_rfl
theorem tm_t (E : Nat → Nat → Seg) (x : Sk) (i t : Int) : ((callB Try.prog E SB (W E SB noL) 7 [pS, .int .i64 i, msgV 1 0 t z6]).full ⟨hp 0 x.blks, x.nb, [], []⟩ leafV).take x.nb (.c (.f (cs 5 (.n (.c (.n (.c (.c (.f (.n (.n (.n (.f (.c (.n (.n (.n (.c (.leaf x.ids 1)))))))))))))))))))
  = .but (decide (i < 0)) (.need (eB [x.f.blk]) (.need (okFr x.f) (.but (decide ((x.f.n.toNat : Int) ≤ i)) (.need (eB [x.a.blk]) (.need (eV [pS, .int .i64 i]) (.need (okAl x.a) (.but (isB x.a.p i)
    (.need (eB [x.f.blk]) (.need (eV [pS, .int .i64 i, .int .i64 t]) (.need (okFr x.f) (lfS (.int .i64 (markE x.f.l i t)) (Sk.blks { x with f := x.f.mark i t })))))))))))) := by
  obtain ⟨f, a, ⟨nl, li, n, m, c⟩, l, d, u⟩ := x
  cases nl
  · cases li <;> kernel_rfl
  · kernel_rfl
theorem tb_t (E : Nat → Nat → Seg) (x : Sk) (i t : Int) : ((callB Try.prog E SB (W E SB noL) 7 [pS, .int .i64 i, msgV 2 t 0 z6]).full ⟨hp 0 x.blks, x.nb, [], []⟩ leafV).take x.nb (.c (.f (cs 5 (.n (.c (.n (.c (.c (.f (.n (.n (.n (.f (.c (.f (.n (.n (.n (.c (.leaf x.ids 1))))))))))))))))))))
  = .but (decide (i < 0)) (.need (eB [x.f.blk]) (.need (okFr x.f) (.but (decide ((x.f.n.toNat : Int) ≤ i)) (.need (eB [x.a.blk]) (.need (eV [pS, .int .i64 i]) (.need (okAl x.a) (.but (isB x.a.p i)
    (.but (!x.und) (.need (eB [x.a.blk]) (.need (eV [pS, .int .i64 i, .int .i64 t]) (.need (okAl x.a) (lfS (.int .i64 (comeE x.a.p x.a.l i t)) (Sk.blks { x with a := x.a.come i t }))))))))))))) := by
  obtain ⟨f, a, ⟨nl, li, n, m, c⟩, l, d, u⟩ := x
  cases nl
  · cases li <;> kernel_rfl
  · kernel_rfl
def frAl (x : Sk) (t : Tree State) : Tree State := .need (eB [x.f.blk]) (.need (okFr x.f) (.need (eB [x.a.blk]) (.need (okAl x.a) t)))
theorem st_n (E : Nat → Nat → Seg) (f : Fr) (a : Al) (n m : Nat) (c : C6) (l d : Int) (u li : Bool) : ((callB Try.prog E SB (W E SB noL) 11 [pS]).full ⟨hp 0 (Sk.blks ⟨f, a, ⟨true, li, n, m, c⟩, l, d, u⟩), 3, [], []⟩ leafV).take 3 (cs 5 (.n (.c (.n (.n (.c (.n (.c (.leaf [0, 1, 2, 4] 1)))))))))
  = frAl ⟨f, a, ⟨true, li, n, m, c⟩, l, d, u⟩ (lfS (staG.out ⟨f, a, ⟨true, li, n, m, c⟩, l, d, u⟩) (staG.blks' ⟨f, a, ⟨true, li, n, m, c⟩, l, d, u⟩)) := by kernel_rfl
theorem st_l (E : Nat → Nat → Seg) (f : Fr) (a : Al) (n m : Nat) (c : C6) (l d : Int) (u : Bool) : ((callB Try.prog E SB (W E SB noL) 11 [pS]).full ⟨hp 0 (Sk.blks ⟨f, a, ⟨false, true, n, m, c⟩, l, d, u⟩), 4, [], []⟩ leafV).take 4 (cs 6 (.n (.c (.n (.n (.c (.n (.c (.leaf [0, 1, 2, 3, 5, 6] 1)))))))))
  = frAl ⟨f, a, ⟨false, true, n, m, c⟩, l, d, u⟩ (lfS (staE.out ⟨f, a, ⟨false, true, n, m, c⟩, l, d, u⟩) (staE.blks' ⟨f, a, ⟨false, true, n, m, c⟩, l, d, u⟩)) := by kernel_rfl
theorem st_g (E : Nat → Nat → Seg) (f : Fr) (a : Al) (n m : Nat) (c : C6) (l d : Int) (u : Bool) : ((callB Try.prog E SB (W E SB noL) 11 [pS]).full ⟨hp 0 (Sk.blks ⟨f, a, ⟨false, false, n, m, c⟩, l, d, u⟩), 4, [], []⟩ leafV).take 4 (.c (.c (.x (.n (.n (.n (.n (.c (.n (.n (.c (.n (.c (.leaf [0, 1, 2, 3, 5, 6] 1))))))))))) (.n (.n (.n (.n (.c (.n (.n (.c (.n (.c (.leaf [0, 1, 2, 3, 5, 6] 1))))))))))))))
  = .br (Ql.e1 ⟨false, false, n, m, c⟩) (.need (eB [c.blkN m]) (.need (eV [slN 0 n]) (.need (Ql.ok ⟨false, false, n, m, c⟩ && (true && Ql.none ⟨false, false, n, m, c⟩)) (frAl ⟨f, a, ⟨false, false, n, m, c⟩, l, d, u⟩ (lfS (staE.out ⟨f, a, ⟨false, false, n, m, c⟩, l, d, u⟩) (staE.blks' ⟨f, a, ⟨false, false, n, m, c⟩, l, d, u⟩))))))
    (.need (eB [c.blkN m]) (.need (eV [slN 0 n]) (.need (Ql.ok ⟨false, false, n, m, c⟩ && (true && (true && decide (1 ≤ n)))) (frAl ⟨f, a, ⟨false, false, n, m, c⟩, l, d, u⟩ (lfS (staG.out ⟨f, a, ⟨false, false, n, m, c⟩, l, d, u⟩) (staG.blks' ⟨f, a, ⟨false, false, n, m, c⟩, l, d, u⟩)))))) := by kernel_rfl
end Go.Proofs.Ytgkejpfahpbnkaa

namespace Go.Proofs.Ytgkejpfahpbnkaa
open Ab
theorem btT {α : Type} {Q : α → Prop} {c : Bool} {t : Tree α} (hc : c = false) (ht : t.holds Q) : (Tree.but c t).holds Q := ⟨hc, ht⟩
theorem ndT {α : Type} {Q : α → Prop} {c : Bool} {t : Tree α} (hc : c = true) (ht : t.holds Q) : (Tree.need c t).holds Q := ⟨hc, ht⟩
theorem lfS_ok {v w : AVal} {Bs Cs : List Blk} (h1 : v = w) (h2 : Bs = Cs) : (lfS v Bs).holds fun x => ∃ u, x.2.1 = [u] ∧ (u = w ∧ x.2.2 = hp 0 Cs) := ⟨_, rfl, h1, by rw [h2]⟩
theorem okSk_facts {x : Sk} (h : okSk x = true) : okFr x.f = true ∧ okAl x.a = true ∧ x.q.ok = true := by
  simpa only [okSk, Bool.and_eq_true] using h
theorem free_facts {x : Sk} {i : Int} (h : x.free i = true) : 0 ≤ i ∧ i < x.f.n ∧ isB x.a.p i = false := by
  simpa only [Sk.free, Bool.and_eq_true, decide_eq_true_eq, Bool.not_eq_true'] using h
section
variable {E : Nat → Nat → Seg} {ra : Nat → Nat → Nat × Nat} {base : Nat} {S : Sums}
theorem SB_ok (hE : Plain E) : SumsOK Try.prog E ra base SB := SF_ok hE (SA_ok hE (S32_ok hE sumNone_ok))
theorem begin_gives (hE : Plain E) (y : SkI) (h : beginD.pre y = true) : Gives Try.prog E ra base y.x.blks.length 10 (beginD.args y) (hp 0 y.x.blks) fun v h' => v = beginD.out y ∧ h' = hp 0 (beginD.blks' y) := by
  obtain ⟨x, i, t, k⟩ := y
  simp only [beginD, Bool.and_eq_true, Bool.not_eq_true', decide_eq_true_eq] at h
  obtain ⟨h1, h2, h3⟩ := h
  obtain ⟨k1, k2, k3⟩ := okSk_facts h1
  exact (gives_of_tree hE (wE hE (SB_ok hE)) (SB_ok hE) (hp_below _) (begin_t E x i) (btT h2 (ndT (eB_eq rfl) (ndT k2 (btT (by rw [h3, decide_eq_true rfl]; rfl) (lfS_ok rfl rfl)))))).2
theorem ready_gives (hE : Plain E) (x : Sk) (h : okSk x = true) : Gives Try.prog E ra base x.blks.length 15 [pS] (hp 0 x.blks) fun v h' => v = readyD.out x ∧ h' = hp 0 x.blks := by
  obtain ⟨k1, k2, k3⟩ := okSk_facts h
  refine (gives_of_tree hE (wE hE (SB_ok hE)) (SB_ok hE) (hp_below _) (ready_t E x) ?_).2
  refine ⟨fun c => lfS_ok ?_ rfl, fun c => ndT (eB_eq rfl) (ndT k2 ⟨fun d => lfS_ok ?_ rfl, fun d => ndT (eB_eq rfl) (ndT k2 (lfS_ok ?_ rfl))⟩)⟩
  · rw [Bool.not_eq_true'] at c
    simp only [readyD, Sk.rdy, c, Bool.false_and, cond_false]
  · rw [Bool.not_eq_true'] at d
    simp only [readyD, Sk.rdy, d, Bool.and_false, cond_false]
  · rw [Bool.not_eq_false'] at c d
    simp only [readyD, Sk.rdy, c, d, Bool.and_self, cond_true]
theorem tm_gives (hE : Plain E) (y : SkI) (h : tmD.pre y = true) : Gives Try.prog E ra base y.x.blks.length 7 (tmD.args y) (hp 0 y.x.blks) fun v h' => v = tmD.out y ∧ h' = hp 0 (tmD.blks' y) := by
  obtain ⟨x, i, t, k⟩ := y
  simp only [tmD, Bool.and_eq_true, decide_eq_true_eq] at h
  obtain ⟨h1, h2, h3⟩ := h
  obtain ⟨k1, k2, k3⟩ := okSk_facts h1
  obtain ⟨g1, g2, g3⟩ := free_facts h2
  obtain ⟨f1, f2, f3⟩ := okFr_facts k1
  refine (gives_of_tree hE (wE hE (SB_ok hE)) (SB_ok hE) (hp_below _) (tm_t E x i t) ?_).2
  refine btT (decide_eq_false (by omega)) (ndT (eB_eq rfl) (ndT k1 (btT (decide_eq_false (by omega)) (ndT (eB_eq rfl) (ndT (eV_eq _) (ndT k2 (btT g3 ?_)))))))
  exact ndT (eB_eq rfl) (ndT (eV_eq _) (ndT k1 (lfS_ok (by rw [h3]; rfl) rfl)))
theorem tb_gives (hE : Plain E) (y : SkI) (h : tbD.pre y = true) : Gives Try.prog E ra base y.x.blks.length 7 (tbD.args y) (hp 0 y.x.blks) fun v h' => v = tbD.out y ∧ h' = hp 0 (tbD.blks' y) := by
  obtain ⟨x, i, t, k⟩ := y
  simp only [tbD, Bool.and_eq_true, decide_eq_true_eq] at h
  obtain ⟨h1, h2, h3, h4⟩ := h
  obtain ⟨k1, k2, k3⟩ := okSk_facts h1
  obtain ⟨g1, g2, g3⟩ := free_facts h2
  obtain ⟨f1, f2, f3⟩ := okFr_facts k1
  refine (gives_of_tree hE (wE hE (SB_ok hE)) (SB_ok hE) (hp_below _) (tb_t E x i t) ?_).2
  refine btT (decide_eq_false (by omega)) (ndT (eB_eq rfl) (ndT k1 (btT (decide_eq_false (by omega)) (ndT (eB_eq rfl) (ndT (eV_eq _) (ndT k2 (btT g3 ?_)))))))
  exact btT (by rw [h3]; rfl) (ndT (eB_eq rfl) (ndT (eV_eq _) (ndT k2 (lfS_ok (by rw [h4]; rfl) rfl))))
theorem frAl_ok {x : Sk} {t : Tree State} {Q : State → Prop} (k1 : okFr x.f = true) (k2 : okAl x.a = true) (ht : t.holds Q) : (frAl x t).holds Q := ndT (eB_eq rfl) (ndT k1 (ndT (eB_eq rfl) (ndT k2 ht)))
theorem stE_gives (hE : Plain E) (x : Sk) (h : staE.pre x = true) : Gives Try.prog E ra base x.blks.length 11 [pS] (hp 0 x.blks) fun v h' => v = staE.out x ∧ h' = hp 0 (staE.blks' x) := by
  have hS := SB_ok (ra := ra) (base := base) hE
  simp only [staE, staD, Bool.and_eq_true] at h
  obtain ⟨k1, k2, k3⟩ := okSk_facts h.1
  obtain ⟨f, a, ⟨nl, li, n, m, c⟩, l, d, u⟩ := x
  have h2 := h.2
  cases nl
  · cases li
    · have h3 : Ql.none ⟨false, false, n, m, c⟩ = true := by simpa [Ql.e1] using h2
      refine (gives_of_tree hE (wE hE hS) hS (hp_below _) (st_g E f a n m c l d u) (brT_yes h2 (ndT (eB_eq rfl) (ndT (eV_eq _) (ndT ?_ (frAl_ok k1 k2 (lfS_ok rfl rfl))))))).2
      simp only at k3
      rw [k3, h3]; rfl
    · exact (gives_of_tree hE (wE hE hS) hS (hp_below _) (st_l E f a n m c l d u) (frAl_ok k1 k2 (lfS_ok rfl rfl))).2
  · simp [Ql.e1] at h2
theorem stG_gives (hE : Plain E) (x : Sk) (h : staG.pre x = true) : Gives Try.prog E ra base x.blks.length 11 [pS] (hp 0 x.blks) fun v h' => v = staG.out x ∧ h' = hp 0 (staG.blks' x) := by
  have hS := SB_ok (ra := ra) (base := base) hE
  simp only [staG, staD, Bool.and_eq_true] at h
  obtain ⟨k1, k2, k3⟩ := okSk_facts h.1
  obtain ⟨f, a, ⟨nl, li, n, m, c⟩, l, d, u⟩ := x
  have h2 := h.2
  cases nl
  · cases li
    · have h3 : 1 ≤ n := by simpa [Ql.full] using h2
      have e : Nat.beq n 0 = false := by
        cases h : Nat.beq n 0
        · rfl
        · have := Nat.eq_of_beq_eq_true h; omega
      refine (gives_of_tree hE (wE hE hS) hS (hp_below _) (st_g E f a n m c l d u) (brT_no ?_ (ndT (eB_eq rfl) (ndT (eV_eq _) (ndT ?_ (frAl_ok k1 k2 (lfS_ok rfl rfl))))))).2
      · simp only [Ql.e1, Ql.none, e]; rfl
      · simp only at k3
        rw [k3, decide_eq_true h3]; rfl
    · simp [Ql.full] at h2
  · exact (gives_of_tree hE (wE hE hS) hS (hp_below _) (st_n E f a n m c l d u li) (frAl_ok k1 k2 (lfS_ok rfl rfl))).2
theorem SK_ok (hE : Plain E) : SumsOK Try.prog E ra base SK := by
  refine sumNG_deal hE (sumG_deal hE (sumG_deal hE (sumNG_deal hE (SB_ok hE) ⟨_, Try.func11, by kernel_rfl⟩ (fun q hq => ?_) fun x hx => stG_gives hE x hx) ⟨_, Try.func15, by kernel_rfl⟩ fun x hx => ready_gives hE x hx) ⟨_, Try.func10, by kernel_rfl⟩ fun y hy => begin_gives hE y hy) ⟨_, Try.func7, by kernel_rfl⟩ (fun q hq => ?_) fun y hy => tb_gives hE y hy
  · simp only [List.mem_cons, List.not_mem_nil, or_false] at hq
    subst hq
    exact fun x hx => stE_gives hE x hx
  · simp only [List.mem_cons, List.not_mem_nil, or_false] at hq
    subst hq
    exact fun y hy => tm_gives hE y hy
end
end Go.Proofs.Ytgkejpfahpbnkaa

namespace Go.Proofs.Ytgkejpfahpbnkaa
open Ab
def ne0 (l : Int) : Bool := decide (¬ l = 0)
def ep (l t : Int) : Int := wr .i64 (Int.tdiv t l)
def mx (d e : Int) : Int := if d < e then e else d
def overL (l d : Int) (L : List Rc) : Int := L.foldl (fun d r => mx d (wr .i64 (ep l r.t + 1))) d
def Sk.over (x : Sk) : Int := if minF x.f < 1152921504606846976 then mx x.done (ep x.len (minF x.f)) else overL x.len x.done x.q.l
def Ql.len (q : Ql) : Nat := match q.nil, q.lit with
  | true, _ => 0
  | false, true => 0
  | false, false => q.n
def Ql.g (q : Ql) : Bool := !q.nil && !q.lit
structure Ov where
  x : Sk
  z : Int
def ovO (us : List AVal) (Bs : List Blk) : Option Ov := match us, sk1 us Bs with
  | [_, .int _ z], some x => some ⟨x, z⟩
  | _, _ => none
def okOv (x : Sk) : Bool := okSk x && ne0 x.len
def ovL : Deal Ov := ⟨fun y => [(0, pS), (3, .int .i64 y.z), (34, slN 3 y.x.q.n), (35, .int .i64 y.x.q.n), (36, .int .i64 0)], fun y => y.x.blks, fun y => okOv y.x && y.x.q.g, fun _ => .exit 0, fun y => [(3, .int .i64 (overL y.x.len y.z y.x.q.l))], fun y => y.x.blks⟩
def L35 : Loops := sumL 35 [false, true, false, true, true, true] (loopG 52 ovL [0, 3] ovO) noL
def overD : CDeal Sk := ⟨fun _ => [pS], Sk.blks, okOv, fun x => .int .i64 x.over, Sk.blks⟩
def Ql.gn (q : Ql) : Bool := q.nil || !q.lit
structure Se where
  n : Int
  fr : Int
  to : Int
  r : Ql
def Se.blk (k : Nat) (s : Se) : Blk := .segs [⟨1, 1, [.int .i64 [s.n]]⟩, ⟨1, 1, [.int .i64 [s.fr]]⟩, ⟨1, 1, [.int .i64 [s.to]]⟩, ⟨1, 1, [.val [s.r.v k]]⟩]
def boxB (j : Nat) : Blk := .segs [⟨1, 1, [.val [.ptr (.own j 0 0 0)]]⟩]
structure Dl where
  x : Sk
  s : Se
def Dl.blks (y : Dl) : List Blk := y.x.q.c.blkN y.x.q.m :: boxB 3 :: y.s.blk 4 :: y.x.b0 (4 + y.s.r.blk.length) (5 + y.s.r.blk.length) 0 :: (y.s.r.blk ++ [y.x.f.blk, y.x.a.blk])
def goneV : AVal := .fn 36 [.ptr (.own 1 0 0 0), .ptr (.own 2 0 0 0)]
def Dl.as (y : Dl) : List AVal := [slN 0 y.x.q.n, goneV]
def seOf (b : Blk) (R : List Blk) : Option (Se × List Blk) := match b with
  | .segs [⟨_, _, [.int _ [n]]⟩, ⟨_, _, [.int _ [f]]⟩, ⟨_, _, [.int _ [t]]⟩, ⟨_, _, [.val [v]]⟩] => match qlOf v R with
    | some (q, R) => some (⟨n, f, t, q⟩, R)
    | none => none
  | _ => none
def dlO (us : List AVal) (Bs : List Blk) : Option Dl := match us, Bs with
  | v :: _, p :: _ :: s :: b :: R => match seOf s R with
    | some (s, [f, a]) => match skO b f a [p] with
      | some x => some ⟨x, s⟩
      | none => none
    | _ => none
  | _, _ => none
def goneB (l T : Int) (r : Rc) : Bool := decide (ep l r.t < T)
def Dl.gone (y : Dl) : Rc → Bool := goneB y.x.len y.s.to
def okDl (y : Dl) : Bool := y.x.q.ok && (y.x.q.g && (ne0 y.x.len && y.s.r.gn))
def Dl.any (y : Dl) : Bool := y.x.q.l.any y.gone
def ixL1 : Deal Dl := ⟨fun y => [(0, slN 0 y.x.q.n), (1, goneV), (7, .int .i64 y.x.q.n), (8, .int .i64 0)], Dl.blks, fun y => okDl y && y.any, fun _ => .ret, fun y => [(4, .int .i64 (y.x.q.l.findIdx y.gone))], Dl.blks⟩
def ixL2 : Deal Dl := ⟨fun y => [(0, slN 0 y.x.q.n), (1, goneV), (7, .int .i64 y.x.q.n), (8, .int .i64 0)], Dl.blks, fun y => okDl y && !y.any, fun _ => .exit 0, fun _ => [], Dl.blks⟩
def L51 : Loops := sumL 51 [false, true, false, true] (loop2G 19 ixL1 ixL2 Dl.any [0, 1] dlO) noL
def ixD : CDeal Dl := ⟨Dl.as, Dl.blks, okDl, fun y => .int .i64 (cond y.any (y.x.q.l.findIdx y.gone) (-1)), Dl.blks⟩
def S51 : Sums := sumF 51 (callG ixD dlO) noS
def Dl.keep (y : Dl) : List Rc := y.x.q.l.filter fun r => !y.gone r
def Ql.put (q : Ql) (K B : List Rc) : Ql := ⟨false, false, q.n, q.m, cols (K ++ (B ++ (q.c.un q.m).drop q.n))⟩
def Dl.put (y : Dl) (K B : List Rc) : Dl := ⟨{ y.x with q := y.x.q.put K B }, y.s⟩
def Ql.del (q : Ql) (K : List Rc) : Ql := ⟨false, false, K.length, q.m, cols (K ++ (List.replicate (q.n - K.length) z6 ++ (q.c.un q.m).drop q.n))⟩
def Dl.setC (y : Dl) (c : C6) : Dl := ⟨{ y.x with q := ⟨false, false, y.x.q.n, y.x.q.m, c⟩ }, y.s⟩
structure Dm where
  y : Dl
  i : Int
  j : Int
def dmO (us : List AVal) (Bs : List Blk) : Option Dm := match us, dlO us Bs with
  | [_, _, .int _ i, .int _ j], some y => some ⟨y, i, j⟩
  | _, _ => none
def okDm (z : Dm) : Bool := okDl z.y && (z.y.any && (decide (z.i = z.y.x.q.l.findIdx z.y.gone) && decide (z.j = z.i + 1)))
def dmD (k : Nat) : RDeal Dm where
  ins z := [(0, slN 0 z.y.x.q.n), (1, goneV), (5, .int .i64 z.i), (6, .int .i64 z.j)]
  blks z := z.y.blks
  pre z := okDm z && Nat.beq z.y.blks.length k
  alts := [⟨List Rc, .exit 0, fun z B => z.y.keep.length + B.length = z.y.x.q.n, fun z _ => [(0, slN 0 z.y.x.q.n), (5, .int .i64 z.y.keep.length)], fun z B => (z.y.put z.y.keep B).blks⟩]
def delD : CDeal Dl := ⟨Dl.as, Dl.blks, okDl, fun y => slN 0 y.keep.length, fun y => (y.setC (y.x.q.del y.keep).c).blks⟩
def pO : List Bool := [false, false, true, false, true, true, true]
def pX : List Bool := [false, false, true, false, true]
def pD : List Bool := [false, false, true, false, true, true, true]
def TD (k : Nat) : Tolds := sumT 37 [false, true, false, true, true, true] (toldR 42 (dmD k) [0, 1, 5, 6] dmO) noT
def ovT (n : Nat) (z k i : Int) : List (Nat × AVal) := [(0, pS), (3, .int .i64 z), (34, slN 3 n), (35, .int .i64 k), (36, .int .i64 i)]
def ixT (n : Nat) (k i : Int) : List (Nat × AVal) := [(0, slN 0 n), (1, goneV), (7, .int .i64 k), (8, .int .i64 i)]
def dmT (n : Nat) (i j : Int) : List (Nat × AVal) := [(0, slN 0 n), (1, goneV), (5, .int .i64 i), (6, .int .i64 j)]
def nR (n m : Nat) (i : Int) (t : Tree State) : Tree State := .need (inL i n) (.need (nL i m) t)
def lfB (e : AExit) (n : Nat) (ts : List (Nat × AVal)) (Bs : List Blk) : Tree State := .leaf (e, mkT n ts, hp 0 Bs)
end Go.Proofs.Ytgkejpfahpbnkaa

namespace Go.Proofs.Ytgkejpfahpbnkaa
open Ab
theorem ov_tree (E : Nat → Nat → Seg) (f : Fr) (a : Al) (n m : Nat) (c : C6) (l d z k i : Int) (u : Bool) : ((W E noS noL 35 pO false (codeOf 35 pO) (mkT 52 (ovT n z k i))).full ⟨hp 0 (Sk.blks ⟨f, a, ⟨false, false, n, m, c⟩, l, d, u⟩), 4, [], []⟩ leafS).take 4 (.x (.n (.n (.n (.c (.leaf [0, 1, 2, 3] 120259084297))))) (.leaf [0, 1, 2, 3] 8))
  = .br (decide (i < k)) (nR n m i (.need (ne0 l) (lfB .normal 52 (ovT n (mx z (wr .i64 (ep l (c.at (ix i)).t + 1))) k (wr .i64 (i + 1))) (Sk.blks ⟨f, a, ⟨false, false, n, m, c⟩, l, d, u⟩)))) (lfB (.exit 0) 52 [(3, .int .i64 z)] (Sk.blks ⟨f, a, ⟨false, false, n, m, c⟩, l, d, u⟩)) := by kernel_rfl
def ovM (x : Sk) (t : Tree State) : Tree State := .need (eB [x.f.blk]) (.need (okFr x.f) (.br (decide (minF x.f < 1152921504606846976))
    (.need (eB [x.f.blk]) (.need (okFr x.f) (.need (ne0 x.len) (lfS (.int .i64 (mx x.done (ep x.len (minF x.f)))) x.blks)))) t))
theorem ov_n (E : Nat → Nat → Seg) (f : Fr) (a : Al) (n m : Nat) (c : C6) (l d : Int) (u li : Bool) : ((callB Try.prog E SB (W E SB noL) 35 [pS]).full ⟨hp 0 (Sk.blks ⟨f, a, ⟨true, li, n, m, c⟩, l, d, u⟩), 3, [], []⟩ leafV).take 3 (.n (.c (.n (.x (.n (.c (.n (.n (.c (.leaf [0, 1, 2] 1)))))) (.c (.leaf [0, 1, 2] 1))))))
  = ovM ⟨f, a, ⟨true, li, n, m, c⟩, l, d, u⟩ (lfS (.int .i64 d) (Sk.blks ⟨f, a, ⟨true, li, n, m, c⟩, l, d, u⟩)) := by kernel_rfl
theorem ov_l (E : Nat → Nat → Seg) (f : Fr) (a : Al) (n m : Nat) (c : C6) (l d : Int) (u : Bool) : ((callB Try.prog E SB (W E SB noL) 35 [pS]).full ⟨hp 0 (Sk.blks ⟨f, a, ⟨false, true, n, m, c⟩, l, d, u⟩), 4, [], []⟩ leafV).take 4 (.n (.c (.n (.x (.n (.c (.n (.n (.c (.leaf [0, 1, 2, 3] 1)))))) (.c (.leaf [0, 1, 2, 3] 1))))))
  = ovM ⟨f, a, ⟨false, true, n, m, c⟩, l, d, u⟩ (lfS (.int .i64 d) (Sk.blks ⟨f, a, ⟨false, true, n, m, c⟩, l, d, u⟩)) := by kernel_rfl
theorem ov_g (E : Nat → Nat → Seg) (f : Fr) (a : Al) (n m : Nat) (c : C6) (l d : Int) (u : Bool) : ((callB Try.prog E SB (W E SB L35) 35 [pS]).full ⟨hp 0 (Sk.blks ⟨f, a, ⟨false, false, n, m, c⟩, l, d, u⟩), 4, [], []⟩ leafV).take 4 (.n (.c (.n (.x (.n (.c (.n (.n (.c (.leaf [0, 1, 2, 3] 1)))))) (.n (.n (.n (.leaf [0, 1, 2, 3] 1))))))))
  = ovM ⟨f, a, ⟨false, false, n, m, c⟩, l, d, u⟩ (.need (eB (Sk.blks ⟨f, a, ⟨false, false, n, m, c⟩, l, d, u⟩)) (.need (eV [.int .i64 d, slN 3 n, .int .i64 n]) (.need (ovL.pre ⟨⟨f, a, ⟨false, false, n, m, c⟩, l, d, u⟩, d⟩) (lfS (.int .i64 (overL l d (Ql.l ⟨false, false, n, m, c⟩))) (Sk.blks ⟨f, a, ⟨false, false, n, m, c⟩, l, d, u⟩))))) := by kernel_rfl
def dlB (f : Fr) (a : Al) (n m : Nat) (c : C6) (l d : Int) (u : Bool) (s : Se) : List Blk := Dl.blks ⟨⟨f, a, ⟨false, false, n, m, c⟩, l, d, u⟩, s⟩
theorem ix_tree (E : Nat → Nat → Seg) (f : Fr) (a : Al) (n m : Nat) (c : C6) (l d k i : Int) (u : Bool) (s : Se) (hs : s.r.gn = true) : ((W E noS noL 51 pX false (codeOf 51 pX) (mkT 19 (ixT n k i))).full ⟨hp 0 (dlB f a n m c l d u s), (dlB f a n m c l d u s).length, [], []⟩ leafS).take (dlB f a n m c l d u s).length (.x (.n (.n (.n (.c (.x (.leaf (rg 0 (dlB f a n m c l d u s).length) 16) (.leaf (rg 0 (dlB f a n m c l d u s).length) 387)))))) (.leaf (rg 0 (dlB f a n m c l d u s).length) 16))
  = .br (decide (i < k)) (nR n m i (.need (ne0 l) (.br (goneB l s.to (c.at (ix i))) (lfB .ret 19 [(4, .int .i64 i)] (dlB f a n m c l d u s)) (lfB .normal 19 (ixT n k (wr .i64 (i + 1))) (dlB f a n m c l d u s))))) (lfB (.exit 0) 19 [] (dlB f a n m c l d u s)) := by
  obtain ⟨sn, sf, st, ⟨rn, rl, k1, k2, rc⟩⟩ := s
  cases rn
  · cases rl
    · kernel_rfl
    · cases hs
  · kernel_rfl
theorem ix_g (E : Nat → Nat → Seg) (f : Fr) (a : Al) (n m : Nat) (c : C6) (l d : Int) (u : Bool) (s : Se) (hs : s.r.gn = true) : ((callB Try.prog E noS (W E noS L51) 51 [slN 0 n, goneV]).full ⟨hp 0 (dlB f a n m c l d u s), (dlB f a n m c l d u s).length, [], []⟩ leafV).take (dlB f a n m c l d u s).length (.x (.n (.n (.n (.leaf (rg 0 (dlB f a n m c l d u s).length) 1)))) (.n (.n (.n (.leaf (rg 0 (dlB f a n m c l d u s).length) 1)))))
  = .br (Dl.any ⟨⟨f, a, ⟨false, false, n, m, c⟩, l, d, u⟩, s⟩) (.need (eB (dlB f a n m c l d u s)) (.need (eV [slN 0 n, .int .i64 n]) (.need (ixL1.pre ⟨⟨f, a, ⟨false, false, n, m, c⟩, l, d, u⟩, s⟩) (lfS (.int .i64 ((Ql.l ⟨false, false, n, m, c⟩).findIdx (goneB l s.to))) (dlB f a n m c l d u s)))))
    (.need (eB (dlB f a n m c l d u s)) (.need (eV [slN 0 n, .int .i64 n]) (.need (ixL2.pre ⟨⟨f, a, ⟨false, false, n, m, c⟩, l, d, u⟩, s⟩) (lfS (.int .i64 (-1)) (dlB f a n m c l d u s))))) := by
  obtain ⟨sn, sf, st, ⟨rn, rl, k1, k2, rc⟩⟩ := s
  cases rn
  · cases rl
    · kernel_rfl
    · cases hs
  · kernel_rfl
def dlY (f : Fr) (a : Al) (n m : Nat) (c : C6) (l d : Int) (u : Bool) (s : Se) : Dl := ⟨⟨f, a, ⟨false, false, n, m, c⟩, l, d, u⟩, s⟩
def lfQ (v : AVal) (Bs : List Blk) : TreeQ State := .leaf (.ret, mkT 1 [(0, v)], hp 0 Bs)
def C6.clr (i k : Nat) (c : C6) : C6 := ⟨c.k.take i ++ (List.replicate k 0 ++ c.k.drop (i + (List.replicate k (0 : Int)).length)), c.t.take i ++ (List.replicate k 0 ++ c.t.drop (i + (List.replicate k (0 : Int)).length)), c.v.take i ++ (List.replicate k 0 ++ c.v.drop (i + (List.replicate k (0 : Int)).length)), c.s.take i ++ (List.replicate k 0 ++ c.s.drop (i + (List.replicate k (0 : Int)).length)), c.e.take i ++ (List.replicate k false ++ c.e.drop (i + (List.replicate k false).length)), c.f.take i ++ (List.replicate k false ++ c.f.drop (i + (List.replicate k false).length))⟩
def Dl.ix (y : Dl) : Int := cond y.any (y.x.q.l.findIdx y.gone) (-1)
theorem dm_tree (E : Nat → Nat → Seg) (f : Fr) (a : Al) (n m : Nat) (c : C6) (l d : Int) (u : Bool) (s : Se) (i j : Int) (hs : s.r.gn = true) : ((W E noS noL 37 pD false (codeOf 37 pD) (mkT 42 (dmT n i j))).full ⟨hp 0 (dlB f a n m c l d u s), (dlB f a n m c l d u s).length, [], []⟩ leafS).take (dlB f a n m c l d u s).length (.x (.n (.n (.n (.c (.x (.n (.n (.leaf (rg 0 (dlB f a n m c l d u s).length) 99))) (.leaf (rg 0 (dlB f a n m c l d u s).length) 99)))))) (.leaf (rg 0 (dlB f a n m c l d u s).length) 33))
  = .br (decide (j < n)) (nR n m j (.need (ne0 l) (.br (!goneB l s.to (c.at (ix j))) (nR n m i (lfB .normal 42 (dmT n (wr .i64 (i + 1)) (wr .i64 (j + 1))) ((dlY f a n m c l d u s).setC (c.put (ix i) (c.at (ix j)))).blks)) (lfB .normal 42 (dmT n i (wr .i64 (j + 1))) (dlY f a n m c l d u s).blks)))) (lfB (.exit 0) 42 [(0, slN 0 n), (5, .int .i64 i)] (dlY f a n m c l d u s).blks) := by
  obtain ⟨sn, sf, st, ⟨rn, rl, k1, k2, rc⟩⟩ := s
  cases rn
  · cases rl
    · kernel_rfl
    · cases hs
  · kernel_rfl
theorem del_t (E : Nat → Nat → Seg) (f : Fr) (a : Al) (n m : Nat) (c : C6) (l d : Int) (u : Bool) (s : Se) (hs : s.r.gn = true) : (callT Try.prog E (W E S51 noL) (TD (dlB f a n m c l d u s).length) (dlB f a n m c l d u s).length 37 [slN 0 n, goneV] ⟨hp 0 (dlB f a n m c l d u s), (dlB f a n m c l d u s).length, [], []⟩).take (dlB f a n m c l d u s).length (.n (.n (.n (.x (.leaf (rg 0 (dlB f a n m c l d u s).length) 1) (.c (.n (.n (.a (.i (.n (.x (.n (.leaf (rg 0 (dlB f a n m c l d u s).length) 1)) (.n (.c (.n (.leaf (rg 0 (dlB f a n m c l d u s).length) 1)))))))))))))))
  = .need (eB (dlY f a n m c l d u s).blks) (.need (eV (dlY f a n m c l d u s).as) (.need (okDl (dlY f a n m c l d u s)) (.br (decide ((dlY f a n m c l d u s).ix = -1)) (lfQ (slN 0 n) (dlY f a n m c l d u s).blks)
    (.need (eT 42 (dmT n (dlY f a n m c l d u s).ix (wr .i64 ((dlY f a n m c l d u s).ix + 1))) (dlY f a n m c l d u s).blks (dmT n (dlY f a n m c l d u s).ix (wr .i64 ((dlY f a n m c l d u s).ix + 1))) (dlY f a n m c l d u s).blks) (.need ((dmD (dlB f a n m c l d u s).length).pre ⟨(dlY f a n m c l d u s), (dlY f a n m c l d u s).ix, wr .i64 ((dlY f a n m c l d u s).ix + 1)⟩) (.all (List Rc) fun B => .imp ((dlY f a n m c l d u s).keep.length + B.length = n) (.need (decide (((dlY f a n m c l d u s).keep.length : Int) ≤ n)) (.br (Nat.beq (n - (dlY f a n m c l d u s).keep.length) 0)
      (.need (decide (((dlY f a n m c l d u s).keep.length : Int) ≤ n)) (lfQ (slN 0 (dlY f a n m c l d u s).keep.length) ((dlY f a n m c l d u s).put (dlY f a n m c l d u s).keep B).blks))
      (.need (decide (0 + (dlY f a n m c l d u s).keep.length + (n - (dlY f a n m c l d u s).keep.length) ≤ m)) (.need (decide (((dlY f a n m c l d u s).keep.length : Int) ≤ n)) (lfQ (slN 0 (dlY f a n m c l d u s).keep.length) ((dlY f a n m c l d u s).setC (C6.clr (0 + (dlY f a n m c l d u s).keep.length) (n - (dlY f a n m c l d u s).keep.length) (cols ((dlY f a n m c l d u s).keep ++ (B ++ (c.un m).drop n))))).blks))))))))))) := by
  obtain ⟨sn, sf, st, ⟨rn, rl, k1, k2, rc⟩⟩ := s
  cases rn
  · cases rl
    · kernel_rfl
    · cases hs
  · kernel_rfl
end Go.Proofs.Ytgkejpfahpbnkaa

namespace Go.Proofs.Ytgkejpfahpbnkaa
open Ab
theorem L_len {m n : Nat} {c : C6} (h : n ≤ m) : ((c.un m).take n).length = n := by rw [List.length_take, un_len]; omega
theorem L_get {m n i : Nat} {c : C6} (h : n ≤ m) (hi : i < n) : ((c.un m).take n)[i]? = some (c.at (ix (i : Int))) := by
  rw [List.getElem?_take, if_pos hi, un_get m c (by omega), ix, Nat.zero_add, Int.toNat_natCast]
theorem L_snoc {m n i : Nat} {c : C6} (h : n ≤ m) (hi : i < n) : ((c.un m).take n).take (i + 1) = ((c.un m).take n).take i ++ [c.at (ix (i : Int))] := by
  rw [List.take_add_one, L_get h hi]; rfl
theorem L_drop {m n i : Nat} {c : C6} (h : n ≤ m) (hi : i < n) : ((c.un m).take n).drop i = c.at (ix (i : Int)) :: ((c.un m).take n).drop (i + 1) := by
  have hl := L_len (c := c) h
  rw [List.drop_eq_getElem_cons (by omega)]
  have := L_get (c := c) h hi
  rw [List.getElem?_eq_getElem (by omega)] at this
  rw [Option.some.inj this]
theorem overL_snoc (l z : Int) (L : List Rc) (r : Rc) : overL l z (L ++ [r]) = mx (overL l z L) (wr .i64 (ep l r.t + 1)) := by simp [overL, List.foldl_append]
theorem findIdx_at {p : Rc → Bool} {r : Rc} {B : List Rc} : ∀ {A : List Rc}, A.any p = false → p r = true → (A ++ r :: B).findIdx p = A.length
  | [], _, h => by simp [List.findIdx_cons, h]
  | a :: A, ha, h => by
    simp only [List.any_cons, Bool.or_eq_false_iff] at ha
    simp [List.findIdx_cons, ha.1, findIdx_at ha.2 h]
theorem nR_holds {n m : Nat} {i : Int} {t : Tree State} {Q : State → Prop} (h : 0 ≤ i ∧ i < n) (hm : n ≤ m) (ht : t.holds Q) : (nR n m i t).holds Q := ⟨inL_in h, nL_in ⟨h.1, by omega⟩, ht⟩
theorem q_facts {nl li : Bool} {n m : Nat} {c : C6} (h : Ql.ok ⟨nl, li, n, m, c⟩ = true) (hg : Ql.g ⟨nl, li, n, m, c⟩ = true) : nl = false ∧ li = false ∧ c.wf m = true ∧ n ≤ m ∧ m ≤ big := by
  cases nl <;> cases li <;> simp [Ql.g] at hg
  simp only [Ql.ok, Bool.and_eq_true, decide_eq_true_eq] at h
  exact ⟨rfl, rfl, h.1, h.2.1, h.2.2⟩
section
variable {E : Nat → Nat → Seg} {ra : Nat → Nat → Nat × Nat} {base : Nat} {S : Sums}
theorem ov_loop (hE : Plain E) {f : Fr} {a : Al} {n m : Nat} {c : C6} {l d : Int} {u : Bool} (hnm : n ≤ m) (hm : m ≤ big) (hl : ne0 l = true) (z : Int) :
    Takes Try.prog E ra base 4 (.loop (codeOf 35 pO)) (mkT 52 (ovT n z n 0)) (hp 0 (Sk.blks ⟨f, a, ⟨false, false, n, m, c⟩, l, d, u⟩)) fun y => y = (.exit 0, mkT 52 [(3, .int .i64 (overL l z ((c.un m).take n)))], hp 0 (Sk.blks ⟨f, a, ⟨false, false, n, m, c⟩, l, d, u⟩)) := by
  unfold big at hm
  refine takes_loop (fun j ts h => ∃ i : Nat, i ≤ n ∧ j = n - i + 1 ∧ ts = mkT 52 (ovT n (overL l z (((c.un m).take n).take i)) n i) ∧ h = hp 0 (Sk.blks ⟨f, a, ⟨false, false, n, m, c⟩, l, d, u⟩)) (fun ts h => by rintro ⟨i, _, h, _⟩; omega) (fun j ts h' => ?_) (j := n + 1) ⟨0, Nat.zero_le _, rfl, rfl, rfl⟩
  rintro ⟨i, h1, h2, rfl, rfl⟩
  refine takes_of_tree hE (W_ok sumNone_ok noL_ok) (f := 35) (.inr (by kernel_rfl)) (hp_below _) (ov_tree E f a n m c l d _ (n : Int) i u) ?_
  refine br_by (fun h => nR_holds ⟨by omega, h⟩ hnm ⟨hl, i + 1, by omega, by omega, ?_, rfl⟩) fun h => ?_
  · rw [L_snoc hnm (by omega), overL_snoc, wr_one (by omega)]
  · have : i = n := by omega
    subst this
    show _ = _
    rw [List.take_of_length_le (Nat.le_of_eq (L_len hnm))]
theorem L35_ok (hE : Plain E) : LoopsOK Try.prog E ra base L35 := by
  refine sumLG_deal hE noL_ok rfl (c := codeOf 35 pO) (by kernel_rfl) (fun _ => rfl) fun y hy => ?_
  obtain ⟨⟨f, a, ⟨nl, li, n, m, c⟩, l, d, u⟩, z⟩ := y
  simp only [ovL, okOv, Bool.and_eq_true] at hy
  obtain ⟨⟨h1, h2⟩, h3⟩ := hy
  obtain ⟨k1, k2, k3⟩ := okSk_facts h1
  obtain ⟨rfl, rfl, g1, g2, g3⟩ := q_facts k3 h3
  exact ov_loop hE g2 g3 h2 z
theorem ovM_ok {x : Sk} {t : Tree State} (h : okOv x = true) (ht : ¬ minF x.f < 1152921504606846976 → t.holds fun y => ∃ u, y.2.1 = [u] ∧ (u = overD.out x ∧ y.2.2 = hp 0 x.blks)) : (ovM x t).holds fun y => ∃ u, y.2.1 = [u] ∧ (u = overD.out x ∧ y.2.2 = hp 0 x.blks) := by
  simp only [okOv, Bool.and_eq_true] at h
  obtain ⟨k1, k2, k3⟩ := okSk_facts h.1
  refine ndT (eB_eq rfl) (ndT k1 (br_by (fun hh => ndT (eB_eq rfl) (ndT k1 (ndT h.2 (lfS_ok ?_ rfl)))) ht))
  show _ = AVal.int .i64 x.over
  rw [Sk.over, if_pos hh]
theorem over_gives (hE : Plain E) (x : Sk) (h : okOv x = true) : Gives Try.prog E ra base x.blks.length 35 [pS] (hp 0 x.blks) fun v h' => v = overD.out x ∧ h' = hp 0 x.blks := by
  have hS := SB_ok (ra := ra) (base := base) hE
  have h' := h
  simp only [okOv, Bool.and_eq_true] at h'
  obtain ⟨k1, k2, k3⟩ := okSk_facts h'.1
  have ho : ¬ minF x.f < 1152921504606846976 → x.over = overL x.len x.done x.q.l := fun hh => by rw [Sk.over, if_neg hh]
  obtain ⟨f, a, ⟨nl, li, n, m, c⟩, l, d, u⟩ := x
  cases nl
  · cases li
    · refine (gives_of_tree hE (W_ok hS (L35_ok hE)) hS (hp_below _) (ov_g E f a n m c l d u) (ovM_ok h fun hh => ?_)).2
      refine ndT (eB_eq rfl) (ndT (eV_eq _) (ndT ?_ (lfS_ok ?_ rfl)))
      · show (okOv _ && true) = true
        rw [h]; rfl
      · show _ = AVal.int .i64 (Sk.over _)
        rw [ho hh]
    · refine (gives_of_tree hE (wE hE hS) hS (hp_below _) (ov_l E f a n m c l d u) (ovM_ok h fun hh => lfS_ok ?_ rfl)).2
      show _ = AVal.int .i64 (Sk.over _)
      rw [ho hh]; rfl
  · refine (gives_of_tree hE (wE hE hS) hS (hp_below _) (ov_n E f a n m c l d u li) (ovM_ok h fun hh => lfS_ok ?_ rfl)).2
    show _ = AVal.int .i64 (Sk.over _)
    rw [ho hh]; rfl
theorem dl_facts {f : Fr} {a : Al} {nl li : Bool} {n m : Nat} {c : C6} {l d : Int} {u : Bool} {s : Se} (h : okDl ⟨⟨f, a, ⟨nl, li, n, m, c⟩, l, d, u⟩, s⟩ = true) : nl = false ∧ li = false ∧ c.wf m = true ∧ n ≤ m ∧ m ≤ big ∧ ne0 l = true ∧ s.r.gn = true := by
  simp only [okDl, Bool.and_eq_true] at h
  obtain ⟨h1, h2, h3, h4⟩ := h
  obtain ⟨k1, k2, k3, k4, k5⟩ := q_facts h1 h2
  exact ⟨k1, k2, k3, k4, k5, h3, h4⟩
theorem ix_loop (hE : Plain E) {f : Fr} {a : Al} {n m : Nat} {c : C6} {l d : Int} {u : Bool} {s : Se} (hnm : n ≤ m) (hm : m ≤ big) (hl : ne0 l = true) (hs : s.r.gn = true) :
    Takes Try.prog E ra base (dlB f a n m c l d u s).length (.loop (codeOf 51 pX)) (mkT 19 (ixT n n 0)) (hp 0 (dlB f a n m c l d u s)) fun y =>
      ((dlY f a n m c l d u s).any = true ∧ y = (.ret, mkT 19 [(4, .int .i64 (((c.un m).take n).findIdx (goneB l s.to)))], hp 0 (dlB f a n m c l d u s))) ∨ ((dlY f a n m c l d u s).any = false ∧ y = (.exit 0, mkT 19 [], hp 0 (dlB f a n m c l d u s))) := by
  unfold big at hm
  have hany : (dlY f a n m c l d u s).any = ((c.un m).take n).any (goneB l s.to) := rfl
  refine takes_loop (fun j ts h => ∃ i : Nat, i ≤ n ∧ j = n - i + 1 ∧ (((c.un m).take n).take i).any (goneB l s.to) = false ∧ ts = mkT 19 (ixT n n i) ∧ h = hp 0 (dlB f a n m c l d u s)) (fun ts h => by rintro ⟨i, _, h, _⟩; omega) (fun j ts h' => ?_) (j := n + 1) ⟨0, Nat.zero_le _, rfl, rfl, rfl, rfl⟩
  rintro ⟨i, h1, h2, h3, rfl, rfl⟩
  refine takes_of_tree hE (W_ok sumNone_ok noL_ok) (f := 51) (.inr (by kernel_rfl)) (hp_below _) (ix_tree E f a n m c l d (n : Int) i u s hs) ?_
  refine br_by (fun h => nR_holds ⟨by omega, h⟩ hnm ⟨hl, fun hg => .inl ⟨?_, ?_⟩, fun hg => ⟨i + 1, by omega, by omega, ?_, ?_, rfl⟩⟩) fun h => ?_
  · rw [hany, ← List.take_append_drop i ((c.un m).take n), List.any_append, L_drop hnm (by omega), List.any_cons, hg, Bool.true_or, Bool.or_true]
  · have key : ((c.un m).take n).findIdx (goneB l s.to) = i := by
      have := findIdx_at (B := ((c.un m).take n).drop (i + 1)) h3 hg
      rw [← L_drop hnm (by omega), List.take_append_drop, List.length_take, L_len hnm] at this
      omega
    show _ = _
    rw [key]
  · rw [L_snoc hnm (by omega), List.any_append, h3, List.any_cons, hg]; rfl
  · rw [wr_one (by omega)]
  · have : i = n := by omega
    subst this
    rw [List.take_of_length_le (Nat.le_of_eq (L_len hnm))] at h3
    exact .inr ⟨by rw [hany]; exact h3, rfl⟩
theorem L51_ok (hE : Plain E) : LoopsOK Try.prog E ra base L51 := by
  refine sum2L_deal hE noL_ok rfl (c := codeOf 51 pX) (by kernel_rfl) (fun _ => rfl) (fun _ => rfl) (fun y hy => ?_) (fun y hy => ?_)
  · obtain ⟨⟨f, a, ⟨nl, li, n, m, c⟩, l, d, u⟩, s⟩ := y
    simp only [ixL1, Bool.and_eq_true] at hy
    obtain ⟨rfl, rfl, g1, g2, g3, g4, g5⟩ := dl_facts hy.1
    refine (ix_loop hE g2 g3 g4 g5).mono ?_
    rintro z (⟨_, rfl⟩ | ⟨k, _⟩)
    · rfl
    · exact absurd (hy.2.symm.trans k) (by decide)
  · obtain ⟨⟨f, a, ⟨nl, li, n, m, c⟩, l, d, u⟩, s⟩ := y
    simp only [ixL2, Bool.and_eq_true, Bool.not_eq_true'] at hy
    obtain ⟨rfl, rfl, g1, g2, g3, g4, g5⟩ := dl_facts hy.1
    refine (ix_loop hE g2 g3 g4 g5).mono ?_
    rintro z (⟨k, _⟩ | ⟨_, rfl⟩)
    · exact absurd (hy.2.symm.trans k) (by decide)
    · rfl
theorem okDl_blks {f : Fr} {a : Al} {n m : Nat} {c : C6} {l d : Int} {u : Bool} {s : Se} (hs : s.r.gn = true) : okBs (Dl.blks ⟨⟨f, a, ⟨false, false, n, m, c⟩, l, d, u⟩, s⟩) = true := by
  obtain ⟨sn, sf, st, ⟨rn, rl, k1, k2, rc⟩⟩ := s
  cases rn
  · cases rl
    · rfl
    · cases hs
  · rfl
theorem ix_gives (hE : Plain E) (y : Dl) (h : okDl y = true) : Gives Try.prog E ra base y.blks.length 51 y.as (hp 0 y.blks) fun v h' => v = ixD.out y ∧ h' = hp 0 y.blks := by
  obtain ⟨⟨f, a, ⟨nl, li, n, m, c⟩, l, d, u⟩, s⟩ := y
  obtain ⟨rfl, rfl, g1, g2, g3, g4, g5⟩ := dl_facts h
  refine (gives_of_tree hE (W_ok sumNone_ok (L51_ok hE)) sumNone_ok (hp_below _) (ix_g E f a n m c l d u s g5) ?_).2
  refine ⟨fun hh => ndT (eB_eq (okDl_blks g5)) (ndT (eV_eq _) (ndT ?_ (lfS_ok ?_ rfl))), fun hh => ndT (eB_eq (okDl_blks g5)) (ndT (eV_eq _) (ndT ?_ (lfS_ok ?_ rfl)))⟩
  · show (okDl _ && Dl.any _) = true
    rw [h, hh]; rfl
  · show _ = AVal.int .i64 (cond (Dl.any _) _ _)
    rw [hh]; rfl
  · show (okDl _ && !Dl.any _) = true
    rw [h, hh]; rfl
  · show _ = AVal.int .i64 (cond (Dl.any _) _ _)
    rw [hh]; rfl
theorem S51_ok (hE : Plain E) : SumsOK Try.prog E ra base S51 := sumG_deal hE sumNone_ok ⟨_, Try.func51, by kernel_rfl⟩ fun y hy => ix_gives hE y hy
end
end Go.Proofs.Ytgkejpfahpbnkaa

namespace Go.Proofs.Ytgkejpfahpbnkaa
open Ab
def kp (l T : Int) (L : List Rc) : List Rc := L.filter fun r => !goneB l T r
theorem kp_snoc_no {l T : Int} {L : List Rc} {r : Rc} (h : goneB l T r = true) : kp l T (L ++ [r]) = kp l T L := by simp [kp, List.filter_append, h]
theorem kp_snoc_yes {l T : Int} {L : List Rc} {r : Rc} (h : goneB l T r = false) : kp l T (L ++ [r]) = kp l T L ++ [r] := by simp [kp, List.filter_append, h]
theorem kp_all {l T : Int} : ∀ {L : List Rc}, L.any (goneB l T) = false → kp l T L = L
  | [], _ => rfl
  | r :: L, h => by
    simp only [List.any_cons, Bool.or_eq_false_iff] at h
    have := kp_all h.2
    simp only [kp] at this
    simp [kp, List.filter_cons, h.1, this]
theorem kp_len (l T : Int) (L : List Rc) : (kp l T L).length ≤ L.length := List.length_filter_le _ _
theorem any_idx {p : Rc → Bool} : ∀ {L : List Rc}, L.any p = true → L.findIdx p < L.length ∧ (L.take (L.findIdx p)).any p = false
  | [], h => by simp at h
  | r :: L, h => by
    cases hr : p r with
    | true => simp [List.findIdx_cons, hr]
    | false =>
      simp only [List.any_cons, hr, Bool.false_or] at h
      obtain ⟨h1, h2⟩ := any_idx h
      simp only [List.findIdx_cons, hr, cond_false, List.length_cons, List.take_succ_cons, List.any_cons, Bool.false_or]
      exact ⟨by omega, h2⟩
theorem getD_idx {p : Rc → Bool} {L : List Rc} (h : L.any p = true) : p (L.getD (L.findIdx p) z6) = true := by
  have := (any_idx h).1
  rw [List.getD_eq_getElem?_getD, List.getElem?_eq_getElem this]
  exact List.findIdx_getElem
def mvL (K B D R : List Rc) : C6 := cols (K ++ (B ++ (D ++ R)))
theorem clr_col {β : Type} (g : Rc → β) (K B D : List Rc) : (List.map g (K ++ (B ++ D))).take (0 + K.length) ++ (List.replicate B.length (g z6) ++ (List.map g (K ++ (B ++ D))).drop (0 + K.length + (List.replicate B.length (g z6)).length)) = List.map g (K ++ (List.replicate B.length z6 ++ D)) := by
  have h1 : (0 + K.length) = (List.map g K).length := by simp
  have h2 : 0 + K.length + (List.replicate B.length (g z6)).length = (List.map g K ++ List.map g B).length := by simp
  have h3 : List.map g (K ++ (B ++ D)) = (List.map g K ++ List.map g B) ++ List.map g D := by simp
  rw [h2, h3, List.drop_left, h1, List.append_assoc, List.take_left]
  simp
theorem clr_cols (K B D : List Rc) : C6.clr (0 + K.length) B.length (cols (K ++ (B ++ D))) = cols (K ++ (List.replicate B.length z6 ++ D)) := by
  show C6.mk _ _ _ _ _ _ = C6.mk _ _ _ _ _ _
  congr 1
  · exact clr_col Rc.k K B D
  · exact clr_col Rc.t K B D
  · exact clr_col Rc.v K B D
  · exact clr_col Rc.s K B D
  · exact clr_col Rc.e K B D
  · exact clr_col Rc.f K B D
section
variable {E : Nat → Nat → Seg} {ra : Nat → Nat → Nat × Nat} {base : Nat} {S : Sums}
theorem dm_loop (hE : Plain E) {f : Fr} {a : Al} {n m : Nat} {L R : List Rc} {l d : Int} {u : Bool} {s : Se} (hL : L.length = n) (hR : n + R.length = m) (hm : m ≤ big) (hl : ne0 l = true) (hs : s.r.gn = true) {i0 : Nat} (hi0 : i0 < n) (h0 : kp l s.to (L.take i0) = L.take i0) (hg0 : kp l s.to (L.take (i0 + 1)) = L.take i0) (c0 : C6) :
    Takes Try.prog E ra base (dlB f a n m c0 l d u s).length (.loop (codeOf 37 pD)) (mkT 42 (dmT n i0 ((i0 + 1 : Nat) : Int))) (hp 0 (dlB f a n m (cols (L ++ R)) l d u s)) fun y =>
      ∃ B, (kp l s.to L).length + B.length = n ∧ y = (.exit 0, mkT 42 [(0, slN 0 n), (5, .int .i64 (kp l s.to L).length)], hp 0 (dlB f a n m (cols (kp l s.to L ++ (B ++ R))) l d u s)) := by
  unfold big at hm
  refine takes_loop (fun t ts h => ∃ (j : Nat) (B : List Rc), j ≤ n ∧ t = n - j + 1 ∧ (kp l s.to (L.take j)).length + B.length = j ∧ 1 ≤ B.length ∧ ts = mkT 42 (dmT n (kp l s.to (L.take j)).length j) ∧ h = hp 0 (dlB f a n m (mvL (kp l s.to (L.take j)) B (L.drop j) R) l d u s)) (fun ts h => by rintro ⟨i, _, _, h, _⟩; omega) (fun t ts h' => ?_) (j := n - (i0 + 1) + 1) ⟨i0 + 1, [L.getD i0 z6], by omega, rfl, by rw [hg0, List.length_take, List.length_singleton]; omega, by simp, by rw [hg0, List.length_take, Nat.min_eq_left (by omega)], ?_⟩
  · rintro ⟨j, B, h1, h2, h3, h4, rfl, rfl⟩
    have lt' : (L.take j).length = j := by rw [List.length_take]; omega
    have hlen : (dlB f a n m c0 l d u s).length = (dlB f a n m (mvL (kp l s.to (L.take j)) B (L.drop j) R) l d u s).length := rfl
    rw [hlen]
    refine takes_of_tree hE (W_ok sumNone_ok noL_ok) (f := 37) (.inr (by kernel_rfl)) (hp_below _) (dm_tree E f a n m (mvL (kp l s.to (L.take j)) B (L.drop j) R) l d u s ((kp l s.to (L.take j)).length : Int) (j : Int) hs) ?_
    refine br_by (fun h => ?_) fun h => ?_
    · have hj : j < n := by omega
      have hd : L.drop j = L.getD j z6 :: L.drop (j + 1) := drop_at (by omega)
      have ht : L.take (j + 1) = L.take j ++ [L.getD j z6] := by
        rw [List.take_add_one, List.getElem?_eq_getElem (by omega), List.getD_eq_getElem?_getD, List.getElem?_eq_getElem (by omega)]; rfl
      have hat : (mvL (kp l s.to (L.take j)) B (L.drop j) R).at (ix (j : Int)) = L.getD j z6 := by
        rw [mvL, at_cols, hd, show kp l s.to (L.take j) ++ (B ++ (L.getD j z6 :: L.drop (j + 1) ++ R)) = (kp l s.to (L.take j) ++ B) ++ L.getD j z6 :: (L.drop (j + 1) ++ R) by simp]
        exact getD_at' (by rw [ix, Nat.zero_add, Int.toNat_natCast, List.length_append]; omega)
      refine nR_holds ⟨by omega, h⟩ (by omega) ⟨hl, fun hg => nR_holds ⟨by omega, by omega⟩ (by omega) ?_, fun hg => ?_⟩
      · rw [hat, Bool.not_eq_true'] at hg
        have hk : kp l s.to (L.take (j + 1)) = kp l s.to (L.take j) ++ [L.getD j z6] := by rw [ht]; exact kp_snoc_yes hg
        obtain ⟨b, B', rfl⟩ : ∃ b B', B = b :: B' := by
          cases B with
          | nil => simp at h4
          | cons b B' => exact ⟨b, B', rfl⟩
        have hkl : (kp l s.to (L.take (j + 1))).length = (kp l s.to (L.take j)).length + 1 := by rw [hk, List.length_append]; rfl
        simp only [List.length_cons] at h3 h4
        refine ⟨j + 1, B' ++ [L.getD j z6], by omega, by omega, by rw [List.length_append, List.length_singleton]; omega, by rw [List.length_append, List.length_singleton]; omega, ?_, ?_⟩
        · rw [hkl, wr_one (by omega), wr_one (by omega)]
        · rw [hat]
          show hp 0 (dlB f a n m ((mvL _ _ _ _).put _ _) l d u s) = _
          rw [mvL, put_cols, hd, show ix ((kp l s.to (L.take j)).length : Int) = (kp l s.to (L.take j)).length by rw [ix, Nat.zero_add, Int.toNat_natCast], List.cons_append, set_mid, mvL, hk]
          congr 2; simp
      · rw [hat, Bool.not_eq_false'] at hg
        have hk : kp l s.to (L.take (j + 1)) = kp l s.to (L.take j) := by rw [ht]; exact kp_snoc_no hg
        refine ⟨j + 1, B ++ [L.getD j z6], by omega, by omega, by rw [hk, List.length_append, List.length_singleton]; omega, by rw [List.length_append, List.length_singleton]; omega, ?_, ?_⟩
        · rw [hk, wr_one (by omega)]
        · show hp 0 (dlB f a n m (mvL _ _ _ _) l d u s) = _
          rw [hk, mvL, mvL, hd]
          congr 2; simp
    · have : j = n := by omega
      subst this
      have e1 : L.take j = L := List.take_of_length_le (by omega)
      have e2 : L.drop j = [] := List.drop_of_length_le (by omega)
      rw [e1] at h3 ⊢
      refine ⟨B, h3, ?_⟩
      show _ = _
      rw [e2]; rfl
  · rw [hg0, mvL]
    have : L.take i0 ++ ([L.getD i0 z6] ++ (L.drop (i0 + 1) ++ R)) = L ++ R := by
      have hd : L.drop i0 = L.getD i0 z6 :: L.drop (i0 + 1) := drop_at (by omega)
      rw [← List.append_assoc [_], List.singleton_append, ← hd, ← List.append_assoc, List.take_append_drop]
    rw [this]
theorem TD_ok (hE : Plain E) (k : Nat) : ToldsOK Try.prog E ra base k (TD k) := by
  refine sumT_ok noT_ok rfl (toldR_ok (c := .loop (codeOf 37 pD)) (by kernel_rfl) fun z hz => ?_)
  obtain ⟨⟨⟨f, a, ⟨nl, li, n, m, c⟩, l, d, u⟩, s⟩, i, j⟩ := z
  simp only [dmD, okDm, Bool.and_eq_true, decide_eq_true_eq] at hz
  obtain ⟨⟨h1, h2, h3, h4⟩, h5⟩ := hz
  obtain ⟨rfl, rfl, g1, g2, g3, g4, g5⟩ := dl_facts h1
  have h5 := Nat.eq_of_beq_eq_true h5
  subst h5
  have hany : ((c.un m).take n).any (goneB l s.to) = true := h2
  obtain ⟨f1, f2⟩ := any_idx hany
  have f3 := getD_idx hany
  have hL := L_len (c := c) g2
  have hi : i = ((((c.un m).take n).findIdx (goneB l s.to) : Nat) : Int) := h3
  have hk0 := kp_all f2
  have e : c = cols ((c.un m).take n ++ (c.un m).drop n) := by rw [List.take_append_drop]; exact (cols_un g1).symm
  have key := dm_loop (ra := ra) (base := base) hE (f := f) (a := a) (n := n) (m := m) (L := (c.un m).take n) (R := (c.un m).drop n) (l := l) (d := d) (u := u) (s := s) hL (by rw [List.length_drop, un_len]; omega) g3 g4 g5 (i0 := ((c.un m).take n).findIdx (goneB l s.to)) (by omega) hk0 (by
    have : ((c.un m).take n).take (((c.un m).take n).findIdx (goneB l s.to) + 1) = ((c.un m).take n).take (((c.un m).take n).findIdx (goneB l s.to)) ++ [((c.un m).take n).getD (((c.un m).take n).findIdx (goneB l s.to)) z6] := by
      rw [List.take_add_one, List.getElem?_eq_getElem f1, List.getD_eq_getElem?_getD, List.getElem?_eq_getElem f1]; rfl
    rw [this, kp_snoc_no f3, hk0]) c
  rw [← e] at key
  rw [h4, hi]
  exact key.mono fun y ⟨B, hB, hy⟩ => ⟨B, hB, hy⟩
theorem del_gives (hE : Plain E) (y : Dl) (h : okDl y = true) : Gives Try.prog E ra base y.blks.length 37 y.as (hp 0 y.blks) fun v h' => v = delD.out y ∧ h' = hp 0 (delD.blks' y) := by
  obtain ⟨⟨f, a, ⟨nl, li, n, m, c⟩, l, d, u⟩, s⟩ := y
  obtain ⟨rfl, rfl, g1, g2, g3, g4, g5⟩ := dl_facts h
  have hS := S51_ok (ra := ra) (base := base) hE
  have hL := L_len (c := c) g2
  have hkl : (kp l s.to ((c.un m).take n)).length ≤ n := by have := kp_len l s.to ((c.un m).take n); omega
  have hD : ((c.un m).drop n).length = m - n := by rw [List.length_drop, un_len]
  have hkeep : (dlY f a n m c l d u s).keep = kp l s.to ((c.un m).take n) := rfl
  refine gives_of_treeQ hE (wE hE hS) (TD_ok hE _) (hp_below _) (del_t E f a n m c l d u s g5) ?_
  refine ⟨eB_eq (okDl_blks g5), eV_eq _, h, ?_⟩
  have fin : ∀ C : C6, C = cols (kp l s.to ((c.un m).take n) ++ (List.replicate (n - (kp l s.to ((c.un m).take n)).length) z6 ++ (c.un m).drop n)) → (lfQ (slN 0 (kp l s.to ((c.un m).take n)).length) (dlB f a n m C l d u s)).holds fun x => ∃ v, x.2.1 = [v] ∧ (v = delD.out ⟨⟨f, a, ⟨false, false, n, m, c⟩, l, d, u⟩, s⟩ ∧ x.2.2 = hp 0 (delD.blks' ⟨⟨f, a, ⟨false, false, n, m, c⟩, l, d, u⟩, s⟩)) := fun C hC => by
    subst hC
    exact ⟨_, rfl, rfl, rfl⟩
  have hany : (dlY f a n m c l d u s).any = ((c.un m).take n).any (goneB l s.to) := rfl
  cases hA : ((c.un m).take n).any (goneB l s.to) with
  | false =>
    have hix : (dlY f a n m c l d u s).ix = -1 := by rw [Dl.ix, hany, hA]; rfl
    have hK := kp_all hA
    rw [hix]
    refine br_yes rfl ?_
    have := fin c (by
      rw [hK, hL, Nat.sub_self, List.replicate_zero, List.nil_append, List.take_append_drop]; exact (cols_un g1).symm)
    rw [hK, hL] at this
    exact this
  | true =>
    obtain ⟨f1, f2⟩ := any_idx hA
    have hix : (dlY f a n m c l d u s).ix = ((((c.un m).take n).findIdx (goneB l s.to) : Nat) : Int) := by rw [Dl.ix, hany, hA]; rfl
    have hbig : m ≤ 1099511627776 := g3
    have hw : wr .i64 ((dlY f a n m c l d u s).ix + 1) = (dlY f a n m c l d u s).ix + 1 := by rw [hix, wr_one (by omega)]; rfl
    refine br_no (decide_eq_false (by rw [hix]; omega)) ⟨eT_self rfl rfl (okDl_blks g5), ?_, fun B hB => ?_⟩
    · show (okDm _ && Nat.beq _ _) = true
      rw [Bool.and_eq_true]
      refine ⟨?_, Nat.beq_refl _⟩
      simp only [okDm, Bool.and_eq_true, decide_eq_true_eq]
      exact ⟨h, hany.trans hA, hix, hw⟩
    · rw [hkeep] at hB ⊢
      refine ⟨decide_eq_true (by omega), fun hb => ⟨decide_eq_true (by omega), ?_⟩, fun hb => ⟨decide_eq_true (by omega), decide_eq_true (by omega), ?_⟩⟩
      · have hz := Nat.eq_of_beq_eq_true hb
        have : B = [] := List.length_eq_zero_iff.1 (by omega)
        subst this
        exact fin _ (by rw [hz]; rfl)
      · refine fin _ ?_
        rw [show n - (kp l s.to ((c.un m).take n)).length = B.length by omega]
        exact clr_cols _ _ _
end
end Go.Proofs.Ytgkejpfahpbnkaa

namespace Go.Proofs.Ytgkejpfahpbnkaa
open Ab
structure Sl where
  x : Sk
  s : Se
def goneW : AVal := .fn 36 [.ptr (.own 4 0 0 0), .ptr (.own 6 0 0 0)]
def noSe : Se := ⟨0, 0, 0, nilQ⟩
def seO (n : Nat) : List (Nat × AVal) := [(1, .ptr (.own 4 0 0 0)), (2, .ptr (.own 5 0 0 0)), (6, .ptr (.own 6 0 0 0)), (7, goneW)]
def seT (n : Nat) (k i : Int) : List (Nat × AVal) := seO n ++ [(33, slN 3 n), (34, .int .i64 k), (35, .int .i64 i)]
def Sl.blks (y : Sl) : List Blk := y.x.blks ++ (boxB 0 :: Se.blk 0 noSe :: y.s.blk 7 :: y.s.r.blk)
def slOf (_ : List AVal) (Bs : List Blk) : Option Sl := match Bs with
  | b :: f :: a :: p :: _ :: _ :: s :: R => match skO b f a [p], seOf s R with
    | some x, some (s, _) => some ⟨x, s⟩
    | _, _ => none
  | _ => none
def go (l T : Int) (L : List Rc) : List Rc := L.filter (goneB l T)
def Sl.go (y : Sl) : List Rc := Go.Proofs.Ytgkejpfahpbnkaa.go y.x.len y.s.to y.x.q.l
def Sl.wr (y : Sl) (q : Ql) : Sl := ⟨y.x, { y.s with r := q }⟩
def okSl (y : Sl) : Bool := y.x.q.ok && (y.x.q.g && (ne0 y.x.len && y.s.r.nil))
def seD : RDeal Sl where
  ins y := seT y.x.q.n y.x.q.n 0
  blks y := y.blks
  pre := okSl
  alts := [⟨Unit, .exit 0, fun y _ => y.go = [], fun y _ => seO y.x.q.n, fun y _ => y.blks⟩, ⟨Unit, .exit 0, fun y _ => y.go ≠ [], fun y _ => seO y.x.q.n, fun y _ => (y.wr (Ql.gr y.go)).blks⟩]
def pSe : List Bool := [false, false, true, false, true, true, true, true, true, true]
def TSe : Tolds := sumT 16 [false, true, false, true, true, true, true, true, true] (toldR 76 seD [1, 2, 6, 7, 33, 34, 35] slOf) noT
def SZ0 : Sums := sumF 35 (callK overD sk1) SK
def SZ : Sums := sumF 37 (callW delD dlO) SZ0
def C6.snoc (p : Nat) (c : C6) (r : Rc) : C6 := ⟨List.take p (List.drop 0 c.k) ++ [r.k], List.take p (List.drop 0 c.t) ++ [r.t], List.take p (List.drop 0 c.v) ++ [r.v], List.take p (List.drop 0 c.s) ++ [r.s], List.take p (List.drop 0 c.e) ++ [r.e], List.take p (List.drop 0 c.f) ++ [r.f]⟩
def Sk.goL (x : Sk) : List Rc := go x.len x.over x.q.l
def Sk.kpL (x : Sk) : List Rc := kp x.len x.over x.q.l
def Ql.rest (q : Ql) (K : List Rc) : Ql := match q.nil, q.lit with
  | true, _ => q
  | false, true => q
  | false, false => q.del K
def Sk.sld (x : Sk) : Sk := { x with a := x.a.done, q := x.q.rest x.kpL, done := x.over, und := false }
def Sk.se (x : Sk) (r : Ql) : Se := ⟨cond x.rdy (Ab.wr .i64 (x.a.l + 1)) 0, x.done, x.over, r⟩
def Se.v (k : Nat) (s : Se) : AVal := .agg [.int .i64 s.n, .int .i64 s.fr, .int .i64 s.to, s.r.v k]
def okSe (x : Sk) : Bool := okOv x && x.rdy
def sealN : CDeal Sk := ⟨fun _ => [pS], Sk.blks, fun x => okSe x && x.goL.isEmpty, fun x => .tup [(x.se nilQ).v x.nb, .int .i64 0], fun x => x.sld.blks⟩
def sealG : CDeal Sk := ⟨fun _ => [pS], Sk.blks, fun x => okSe x && !x.goL.isEmpty, fun x => .tup [(x.se (Ql.gr (isort x.goL))).v x.nb, .int .i64 0], fun x => x.sld.blks ++ (Ql.gr (isort x.goL)).blk⟩
end Go.Proofs.Ytgkejpfahpbnkaa

namespace Go.Proofs.Ytgkejpfahpbnkaa
open Ab
theorem se_r0 (E : Nat → Nat → Seg) (f : Fr) (a : Al) (n m : Nat) (c : C6) (l d : Int) (u : Bool) (p : Nat) (c2 : C6) (N F T k i : Int) : ((W E noS noL 16 pSe false (codeOf 16 pSe) (mkT 76 (seT n k i))).full ⟨hp 0 (Sl.blks ⟨⟨f, a, ⟨false, false, n, m, c⟩, l, d, u⟩, ⟨N, F, T, nilQ⟩⟩), 7, [], []⟩ leafS).take 4 (.x (.n (.n (.n (.c (.x (.c (.c (.c (.leaf [0, 1, 2, 3, 4, 5, 6, 10] 60129542342)))) (.leaf [0, 1, 2, 3, 4, 5, 6] 60129542342)))))) (.leaf [0, 1, 2, 3, 4, 5, 6] 198))
  = .br (decide (i < k)) (nR n m i (.need (ne0 l) (.br (goneB l T (c.at (ix i))) (lfB .normal 76 (seT n k (wr .i64 (i + 1))) (Sl.blks ⟨⟨f, a, ⟨false, false, n, m, c⟩, l, d, u⟩, ⟨N, F, T, ⟨false, false, 1, 1, cols [c.at (ix i)]⟩⟩⟩)) (lfB .normal 76 (seT n k (wr .i64 (i + 1))) (Sl.blks ⟨⟨f, a, ⟨false, false, n, m, c⟩, l, d, u⟩, ⟨N, F, T, nilQ⟩⟩))))) (lfB (.exit 0) 76 (seO n) (Sl.blks ⟨⟨f, a, ⟨false, false, n, m, c⟩, l, d, u⟩, ⟨N, F, T, nilQ⟩⟩)) := by kernel_rfl
theorem se_rg (E : Nat → Nat → Seg) (f : Fr) (a : Al) (n m : Nat) (c : C6) (l d : Int) (u : Bool) (p : Nat) (c2 : C6) (N F T k i : Int) : ((W E noS noL 16 pSe false (codeOf 16 pSe) (mkT 76 (seT n k i))).full ⟨hp 0 (Sl.blks ⟨⟨f, a, ⟨false, false, n, m, c⟩, l, d, u⟩, ⟨N, F, T, ⟨false, false, p, p, c2⟩⟩⟩), 8, [], []⟩ leafS).take 4 (.x (.n (.n (.n (.c (.x (.n (.n (.c (.c (.leaf [0, 1, 2, 3, 4, 5, 6, 11] 60129542342))))) (.leaf [0, 1, 2, 3, 4, 5, 6, 7] 60129542342)))))) (.leaf [0, 1, 2, 3, 4, 5, 6, 7] 198))
  = .br (decide (i < k)) (nR n m i (.need (ne0 l) (.br (goneB l T (c.at (ix i))) (.need (decide ((p + 1) * 32 ≤ 35184372088832)) (.need (decide (0 + p ≤ p)) (lfB .normal 76 (seT n k (wr .i64 (i + 1))) (Sl.blks ⟨⟨f, a, ⟨false, false, n, m, c⟩, l, d, u⟩, ⟨N, F, T, ⟨false, false, p + 1, p + 1, c2.snoc p (c.at (ix i))⟩⟩⟩)))) (lfB .normal 76 (seT n k (wr .i64 (i + 1))) (Sl.blks ⟨⟨f, a, ⟨false, false, n, m, c⟩, l, d, u⟩, ⟨N, F, T, ⟨false, false, p, p, c2⟩⟩⟩))))) (lfB (.exit 0) 76 (seO n) (Sl.blks ⟨⟨f, a, ⟨false, false, n, m, c⟩, l, d, u⟩, ⟨N, F, T, ⟨false, false, p, p, c2⟩⟩⟩)) := by kernel_rfl
def seM (x : Sk) (t : Tree State) : Tree State := .need (eB x.blks) (.need (okSk x) (.but (!x.rdy) (.need (eB x.blks) (.need (okOv x) (.need (eB [x.a.blk]) (.need (okAl x.a) t))))))
def seV (x : Sk) (r : AVal) : AVal := .tup [.agg [.int .i64 (cond x.rdy (wr .i64 (x.a.l + 1)) 0), .int .i64 x.done, .int .i64 x.over, r], .int .i64 (if phaseL x.a.p x.a.q = 3 then 0 else 7)]
theorem seal_n (E : Nat → Nat → Seg) (f : Fr) (a : Al) (n m : Nat) (c : C6) (l d : Int) (u li : Bool) : ((callB Try.prog E SZ0 (W E SZ0 noL) 16 [pS]).full ⟨hp 0 (Sk.blks ⟨f, a, ⟨true, li, n, m, c⟩, l, d, u⟩), 3, [], []⟩ leafV).take 3 (.c (.n (.c (.n (.f (.n (.c (.n (cs 10 (.n (.c (.n (.c (.leaf [0, 1, 2] 1))))))))))))))
  = seM ⟨f, a, ⟨true, li, n, m, c⟩, l, d, u⟩ (lfS (seV ⟨f, a, ⟨true, li, n, m, c⟩, l, d, u⟩ .nils) (Sk.sld ⟨f, a, ⟨true, li, n, m, c⟩, l, d, u⟩).blks) := by kernel_rfl
theorem seal_l (E : Nat → Nat → Seg) (f : Fr) (a : Al) (n m : Nat) (c : C6) (l d : Int) (u li : Bool) : ((callB Try.prog E SZ0 (W E SZ0 noL) 16 [pS]).full ⟨hp 0 (Sk.blks ⟨f, a, ⟨false, true, n, m, c⟩, l, d, u⟩), 4, [], []⟩ leafV).take 4 (.c (.n (.c (.n (.f (.n (.c (.n (cs 10 (.n (.c (.n (.c (.leaf [0, 1, 2, 3] 1))))))))))))))
  = seM ⟨f, a, ⟨false, true, n, m, c⟩, l, d, u⟩ (lfS (seV ⟨f, a, ⟨false, true, n, m, c⟩, l, d, u⟩ .nils) (Sk.sld ⟨f, a, ⟨false, true, n, m, c⟩, l, d, u⟩).blks) := by kernel_rfl
def seR (x : Sk) (t : TreeQ State) : TreeQ State := .need (eB x.blks) (.need (okSk x) (.but (!x.rdy) (.need (eB x.blks) (.need (okOv x) t))))
def seD1 (x : Sk) (r : Ql) (t : TreeQ State) : TreeQ State := .need (eB (Dl.blks ⟨x, x.se r⟩)) (.need (eV (Dl.as ⟨x, x.se r⟩)) (.need (okDl ⟨x, x.se r⟩) (.need (eB [x.a.blk]) (.need (okAl x.a) t))))
theorem seal_g (E : Nat → Nat → Seg) (f : Fr) (a : Al) (n m : Nat) (c : C6) (l d : Int) (u li : Bool) : (callT Try.prog E (W E SZ noL) TSe 4 16 [pS] ⟨hp 0 (Sk.blks ⟨f, a, ⟨false, false, n, m, c⟩, l, d, u⟩), 4, [], []⟩).take 4 (.c (.n (.c (.n (.f (.n (.c (.n (.c (.c (.n (.n (.b (.a (.i (csQ 4 (.n (.n (.n (.c (.c (.c (.n (.c (.n (.c (.leaf [0, 1, 2, 3] 1)))))))))))))) (.a (.i (.c (.f (.n (.n (.n (.n (.n (.n (.c (.c (.c (.n (.c (.n (.c (.leaf [0, 1, 2, 3, 8] 1)))))))))))))))))))))))))))))))
  = seR ⟨f, a, ⟨false, false, n, m, c⟩, l, d, u⟩ (.need (eT 76 (seT n n 0) (Sl.blks ⟨⟨f, a, ⟨false, false, n, m, c⟩, l, d, u⟩, Sk.se ⟨f, a, ⟨false, false, n, m, c⟩, l, d, u⟩ nilQ⟩) (seT n n 0) (Sl.blks ⟨⟨f, a, ⟨false, false, n, m, c⟩, l, d, u⟩, Sk.se ⟨f, a, ⟨false, false, n, m, c⟩, l, d, u⟩ nilQ⟩)) (.need (okSl ⟨⟨f, a, ⟨false, false, n, m, c⟩, l, d, u⟩, Sk.se ⟨f, a, ⟨false, false, n, m, c⟩, l, d, u⟩ nilQ⟩) (.both
    (.all Unit fun _ => .imp (Sk.goL ⟨f, a, ⟨false, false, n, m, c⟩, l, d, u⟩ = []) (seD1 ⟨f, a, ⟨false, false, n, m, c⟩, l, d, u⟩ nilQ (lfQ (seV ⟨f, a, ⟨false, false, n, m, c⟩, l, d, u⟩ .nils) (Sk.sld ⟨f, a, ⟨false, false, n, m, c⟩, l, d, u⟩).blks)))
    (.all Unit fun _ => .imp (Sk.goL ⟨f, a, ⟨false, false, n, m, c⟩, l, d, u⟩ ≠ []) (.but (Ql.e1 (Ql.gr (Sk.goL ⟨f, a, ⟨false, false, n, m, c⟩, l, d, u⟩))) (.need (eB [(cols (Sk.goL ⟨f, a, ⟨false, false, n, m, c⟩, l, d, u⟩)).blkN (Sk.goL ⟨f, a, ⟨false, false, n, m, c⟩, l, d, u⟩).length]) (.need (eV [slN 0 (Sk.goL ⟨f, a, ⟨false, false, n, m, c⟩, l, d, u⟩).length]) (.need (Ql.ok (Ql.gr (Sk.goL ⟨f, a, ⟨false, false, n, m, c⟩, l, d, u⟩)) && (true && (true && decide (1 ≤ (Sk.goL ⟨f, a, ⟨false, false, n, m, c⟩, l, d, u⟩).length))))
      (seD1 ⟨f, a, ⟨false, false, n, m, c⟩, l, d, u⟩ ⟨false, false, (Sk.goL ⟨f, a, ⟨false, false, n, m, c⟩, l, d, u⟩).length, (Sk.goL ⟨f, a, ⟨false, false, n, m, c⟩, l, d, u⟩).length, cols (isort (Ql.gr (Sk.goL ⟨f, a, ⟨false, false, n, m, c⟩, l, d, u⟩)).l)⟩ (lfQ (seV ⟨f, a, ⟨false, false, n, m, c⟩, l, d, u⟩ (slN 4 (Sk.goL ⟨f, a, ⟨false, false, n, m, c⟩, l, d, u⟩).length)) ((Sk.sld ⟨f, a, ⟨false, false, n, m, c⟩, l, d, u⟩).blks ++ [(cols (isort (Ql.gr (Sk.goL ⟨f, a, ⟨false, false, n, m, c⟩, l, d, u⟩)).l)).blkN (Sk.goL ⟨f, a, ⟨false, false, n, m, c⟩, l, d, u⟩).length]))))))))))) := by kernel_rfl
end Go.Proofs.Ytgkejpfahpbnkaa

namespace Go.Proofs.Ytgkejpfahpbnkaa
open Ab
def Ql.lay (F : List Rc) : Ql := match F with
  | [] => nilQ
  | _ :: _ => Ql.gr F
theorem lay_ne {F : List Rc} (h : F ≠ []) : Ql.lay F = Ql.gr F := by
  cases F with
  | nil => exact absurd rfl h
  | cons a F => rfl
theorem gr_l (F : List Rc) : (Ql.gr F).l = F := by
  show ((cols F).un F.length).take F.length = F
  rw [un_cols, List.take_length]
theorem gr_ok {F : List Rc} (h : F.length ≤ big) : (Ql.gr F).ok = true := by
  show ((cols F).wf F.length && (decide (F.length ≤ F.length) && decide (F.length ≤ big))) = true
  rw [cols_wf, decide_eq_true (Nat.le_refl _), decide_eq_true h]; rfl
theorem go_snoc_no {l T : Int} {L : List Rc} {r : Rc} (h : goneB l T r = false) : go l T (L ++ [r]) = go l T L := by simp [go, List.filter_append, h]
theorem go_snoc_yes {l T : Int} {L : List Rc} {r : Rc} (h : goneB l T r = true) : go l T (L ++ [r]) = go l T L ++ [r] := by simp [go, List.filter_append, h]
theorem go_len (l T : Int) (L : List Rc) : (go l T L).length ≤ L.length := List.length_filter_le _ _
theorem snoc_cols (F : List Rc) (r : Rc) : C6.snoc F.length (cols F) r = cols (F ++ [r]) := by
  simp [C6.snoc, cols, ← List.map_take]
section
variable {E : Nat → Nat → Seg} {ra : Nat → Nat → Nat × Nat} {base : Nat} {S : Sums}
theorem se_loop (hE : Plain E) {f : Fr} {a : Al} {n m : Nat} {c : C6} {l d : Int} {u : Bool} {N F0 T : Int} (hnm : n ≤ m) (hm : m ≤ big) (hl : ne0 l = true) :
    Takes Try.prog E ra base 4 (.loop (codeOf 16 pSe)) (mkT 76 (seT n n 0)) (hp 0 (Sl.blks ⟨⟨f, a, ⟨false, false, n, m, c⟩, l, d, u⟩, ⟨N, F0, T, nilQ⟩⟩)) fun y =>
      y = (.exit 0, mkT 76 (seO n), hp 0 (Sl.blks ⟨⟨f, a, ⟨false, false, n, m, c⟩, l, d, u⟩, ⟨N, F0, T, Ql.lay (go l T ((c.un m).take n))⟩⟩)) := by
  unfold big at hm
  refine takes_loop (fun j ts h => ∃ i : Nat, i ≤ n ∧ j = n - i + 1 ∧ ts = mkT 76 (seT n n i) ∧ h = hp 0 (Sl.blks ⟨⟨f, a, ⟨false, false, n, m, c⟩, l, d, u⟩, ⟨N, F0, T, Ql.lay (go l T (((c.un m).take n).take i))⟩⟩)) (fun ts h => by rintro ⟨i, _, h, _⟩; omega) (fun j ts h' => ?_) (j := n + 1) ⟨0, Nat.zero_le _, rfl, rfl, rfl⟩
  rintro ⟨i, h1, h2, rfl, rfl⟩
  have hfl : (go l T (((c.un m).take n).take i)).length ≤ i := by
    have := go_len l T (((c.un m).take n).take i)
    rw [List.length_take] at this; omega
  by_cases hF : go l T (((c.un m).take n).take i) = []
  · rw [hF]
    refine takes_of_tree hE (W_ok sumNone_ok noL_ok) (f := 16) (.inr (by kernel_rfl)) (hp_below _) (se_r0 E f a n m c l d u 0 c N F0 T (n : Int) i) ?_
    refine br_by (fun h => nR_holds ⟨by omega, h⟩ hnm ⟨hl, fun hg => ⟨i + 1, by omega, by omega, by rw [wr_one (by omega)], ?_⟩, fun hg => ⟨i + 1, by omega, by omega, by rw [wr_one (by omega)], ?_⟩⟩) fun h => ?_
    · rw [L_snoc hnm (by omega), go_snoc_yes hg, hF]; rfl
    · rw [L_snoc hnm (by omega), go_snoc_no hg, hF]; rfl
    · have : i = n := by omega
      subst this
      rw [List.take_of_length_le (Nat.le_of_eq (L_len hnm))] at hF
      rw [hF]; rfl
  · rw [lay_ne hF]
    refine takes_of_tree hE (W_ok sumNone_ok noL_ok) (f := 16) (.inr (by kernel_rfl)) (hp_below _) (se_rg E f a n m c l d u (go l T (((c.un m).take n).take i)).length (cols (go l T (((c.un m).take n).take i))) N F0 T (n : Int) i) ?_
    refine br_by (fun h => nR_holds ⟨by omega, h⟩ hnm ⟨hl, fun hg => ⟨decide_eq_true (by omega), decide_eq_true (by omega), i + 1, by omega, by omega, by rw [wr_one (by omega)], ?_⟩, fun hg => ⟨i + 1, by omega, by omega, by rw [wr_one (by omega)], ?_⟩⟩) fun h => ?_
    · rw [L_snoc hnm (by omega), go_snoc_yes hg, lay_ne (by simp), Ql.gr, snoc_cols, List.length_append, List.length_singleton]
    · rw [L_snoc hnm (by omega), go_snoc_no hg, lay_ne hF]; rfl
    · have : i = n := by omega
      subst this
      show _ = _
      rw [List.take_of_length_le (Nat.le_of_eq (L_len hnm))] at hF ⊢
      rw [lay_ne hF]; rfl
theorem TSe_ok (hE : Plain E) : ToldsOK Try.prog E ra base 4 TSe := by
  refine sumT_ok noT_ok rfl (toldR_ok (c := .loop (codeOf 16 pSe)) (by kernel_rfl) fun y hy => ?_)
  obtain ⟨⟨f, a, ⟨nl, li, n, m, c⟩, l, d, u⟩, ⟨sn, sf, st, ⟨rn, rl, k1, k2, rc⟩⟩⟩ := y
  simp only [seD, okSl, Bool.and_eq_true] at hy
  obtain ⟨h1, h2, h3, h4⟩ := hy
  obtain ⟨rfl, rfl, g1, g2, g3⟩ := q_facts h1 h2
  subst h4
  refine (se_loop (N := sn) (F0 := sf) (T := st) hE g2 g3 h3).mono fun y hy => ?_
  by_cases hF : go l st ((c.un m).take n) = []
  · rw [hF] at hy
    exact .inl ⟨(), hF, hy⟩
  · rw [lay_ne hF] at hy
    exact .inr ⟨(), hF, hy⟩
theorem SZ0_ok (hE : Plain E) : SumsOK Try.prog E ra base SZ0 := sumK_deal hE (SK_ok hE) ⟨_, Try.func35, by kernel_rfl⟩ fun x hx => over_gives hE x hx
theorem SZ_ok (hE : Plain E) : SumsOK Try.prog E ra base SZ := by
  refine sumW_deal hE (SZ0_ok hE) ⟨_, Try.func37, by kernel_rfl⟩ (fun y hy => ?_) fun y hy => del_gives hE y hy
  obtain ⟨⟨f, a, ⟨nl, li, n, m, c⟩, l, d, u⟩, s⟩ := y
  obtain ⟨rfl, rfl, _⟩ := dl_facts hy
  exact ⟨_, _, _, rfl, rfl⟩
theorem sk_blks {x : Sk} : okBs x.blks = true := by
  obtain ⟨f, a, ⟨nl, li, n, m, c⟩, l, d, u⟩ := x
  cases nl
  · cases li <;> rfl
  · rfl
theorem okSe_facts {x : Sk} (h : okSe x = true) : okOv x = true ∧ okSk x = true ∧ ne0 x.len = true ∧ x.rdy = true ∧ phaseL x.a.p x.a.q = 3 ∧ x.und = true := by
  simp only [okSe, okOv, Bool.and_eq_true] at h
  have hr := h.2
  simp only [Sk.rdy, Bool.and_eq_true, decide_eq_true_eq] at hr
  exact ⟨by rw [okOv, h.1.1, h.1.2]; rfl, h.1.1, h.1.2, h.2, hr.2, hr.1⟩
theorem seV_eq {x : Sk} (h : phaseL x.a.p x.a.q = 3) (r : AVal) : seV x r = .tup [.agg [.int .i64 (cond x.rdy (wr .i64 (x.a.l + 1)) 0), .int .i64 x.done, .int .i64 x.over, r], .int .i64 0] := by rw [seV, if_pos h]
theorem seM_ok {x : Sk} {t : Tree State} {Q : State → Prop} (h : okSe x = true) (ht : t.holds Q) : (seM x t).holds Q := by
  obtain ⟨h1, h2, h3, h4, h5, h6⟩ := okSe_facts h
  obtain ⟨k1, k2, k3⟩ := okSk_facts h2
  exact ndT (eB_eq sk_blks) (ndT h2 (btT (by rw [h4]; rfl) (ndT (eB_eq sk_blks) (ndT h1 (ndT (eB_eq rfl) (ndT k2 ht))))))
theorem btQ {α : Type} {Q : α → Prop} {c : Bool} {t : TreeQ α} (hc : c = false) (ht : t.holds Q) : (TreeQ.but c t).holds Q := ⟨hc, ht⟩
theorem ndQ {α : Type} {Q : α → Prop} {c : Bool} {t : TreeQ α} (hc : c = true) (ht : t.holds Q) : (TreeQ.need c t).holds Q := ⟨hc, ht⟩
theorem seR_ok {x : Sk} {t : TreeQ State} {Q : State → Prop} (h : okSe x = true) (ht : t.holds Q) : (seR x t).holds Q := by
  obtain ⟨h1, h2, h3, h4, h5, h6⟩ := okSe_facts h
  exact ndQ (eB_eq sk_blks) (ndQ h2 (btQ (by rw [h4]; rfl) (ndQ (eB_eq sk_blks) (ndQ h1 ht))))
theorem seD1_ok {x : Sk} {r : Ql} {t : TreeQ State} {Q : State → Prop} (h : okSe x = true) (hg : x.q.g = true) (hr : r.gn = true) (ht : t.holds Q) : (seD1 x r t).holds Q := by
  obtain ⟨h1, h2, h3, h4, h5, h6⟩ := okSe_facts h
  obtain ⟨k1, k2, k3⟩ := okSk_facts h2
  obtain ⟨f, a, ⟨nl, li, n, m, c⟩, l, d, u⟩ := x
  obtain ⟨rfl, rfl, g1, g2, g3⟩ := q_facts k3 hg
  refine ndQ (eB_eq (okDl_blks hr)) (ndQ (eV_eq _) (ndQ ?_ (ndQ (eB_eq rfl) (ndQ k2 ht))))
  simp only [okDl, Bool.and_eq_true]
  exact ⟨k3, rfl, h3, hr⟩
theorem lfQ_ok {v w : AVal} {Bs Cs : List Blk} (h1 : v = w) (h2 : Bs = Cs) : (lfQ v Bs).holds fun x => ∃ u, x.2.1 = [u] ∧ (u = w ∧ x.2.2 = hp 0 Cs) := ⟨_, rfl, h1, by rw [h2]⟩
theorem seal_both (hE : Plain E) (x : Sk) (h : okSe x = true) : Gives Try.prog E ra base x.blks.length 16 [pS] (hp 0 x.blks) fun v h' =>
    (x.goL = [] ∧ v = sealN.out x ∧ h' = hp 0 (sealN.blks' x)) ∨ (x.goL ≠ [] ∧ v = sealG.out x ∧ h' = hp 0 (sealG.blks' x)) := by
  obtain ⟨h1, h2, h3, h4, h5, h6⟩ := okSe_facts h
  obtain ⟨k1, k2, k3⟩ := okSk_facts h2
  obtain ⟨f, a, ⟨nl, li, n, m, c⟩, l, d, u⟩ := x
  cases nl
  · cases li
    · have hS := SZ_ok (ra := ra) (base := base) hE
      refine gives_of_treeQ hE (wE hE hS) (TSe_ok hE) (hp_below _) (seal_g E f a n m c l d u false) ?_
      refine seR_ok h (ndQ (eT_self rfl rfl rfl) (ndQ ?_ ⟨fun _ hg => seD1_ok h rfl rfl ?_, fun _ hg => ?_⟩))
      · simp only [okSl, Bool.and_eq_true]
        exact ⟨k3, rfl, h3, rfl⟩
      · exact ⟨_, rfl, .inl ⟨hg, seV_eq h5 _, rfl⟩⟩
      · obtain ⟨r, F, hF⟩ : ∃ r F, Sk.goL ⟨f, a, ⟨false, false, n, m, c⟩, l, d, u⟩ = r :: F := by
          cases hh : Sk.goL ⟨f, a, ⟨false, false, n, m, c⟩, l, d, u⟩ with
          | nil => exact absurd hh hg
          | cons r F => exact ⟨r, F, rfl⟩
        have hgl := gr_l (Sk.goL ⟨f, a, ⟨false, false, n, m, c⟩, l, d, u⟩)
        have hlen : (Sk.goL ⟨f, a, ⟨false, false, n, m, c⟩, l, d, u⟩).length ≤ big := by
          have q1 := go_len l (Sk.over ⟨f, a, ⟨false, false, n, m, c⟩, l, d, u⟩) ((c.un m).take n)
          obtain ⟨_, _, g1, g2, g3⟩ := q_facts k3 rfl
          have q2 := L_len (c := c) g2
          exact Nat.le_trans q1 (by omega)
        have hpos : 1 ≤ (Sk.goL ⟨f, a, ⟨false, false, n, m, c⟩, l, d, u⟩).length := by rw [hF]; simp
        refine btQ ?_ (ndQ (eB_eq rfl) (ndQ (eV_eq _) (ndQ ?_ (seD1_ok h rfl rfl ?_))))
        · rw [hF]; rfl
        · rw [decide_eq_true hpos, gr_ok hlen]; rfl
        · refine ⟨_, rfl, .inr ⟨hg, ?_, ?_⟩⟩
          · rw [seV_eq h5]
            show _ = AVal.tup [.agg [_, _, _, slN 4 (isort _).length], _]
            rw [isort_length]; rfl
          · show hp 0 _ = hp 0 (_ ++ [(cols (isort _)).blkN (isort _).length])
            rw [hgl, isort_length]
    · have hS := SZ0_ok (ra := ra) (base := base) hE
      exact (gives_of_tree hE (wE hE hS) hS (hp_below _) (seal_l E f a n m c l d u false) (seM_ok h ⟨_, rfl, .inl ⟨rfl, seV_eq h5 _, rfl⟩⟩)).2
  · have hS := SZ0_ok (ra := ra) (base := base) hE
    exact (gives_of_tree hE (wE hE hS) hS (hp_below _) (seal_n E f a n m c l d u li) (seM_ok h ⟨_, rfl, .inl ⟨rfl, seV_eq h5 _, rfl⟩⟩)).2
end
end Go.Proofs.Ytgkejpfahpbnkaa

namespace Go.Proofs.Ytgkejpfahpbnkaa
open Ab
def SS : Sums := sumF 16 (callNG [(fun x => x.goL.isEmpty, sealN)] sealG sk1) SZ0
structure Sx2 where
  s : Se
  l : Int
def inE (l F T : Int) (r : Rc) : Bool := decide (F ≤ ep l r.t) && decide (ep l r.t < T)
def tmS (L : List Rc) : Prop := L.Pairwise fun a b => a.t ≤ b.t
instance (L : List Rc) : Decidable (tmS L) := by unfold tmS; infer_instance
def okS2 (y : Sx2) : Bool := y.s.r.gn && (y.s.r.ok && (ne0 y.l && (y.s.r.l.all (inE y.l y.s.fr y.s.to) && decide (tmS y.s.r.l))))
def sealedD : CDeal Sx2 := ⟨fun y => [y.s.v 0, .int .i64 y.l], fun y => y.s.r.blk, okS2, fun _ => .bool true, fun y => y.s.r.blk⟩
def s2O (us : List AVal) (Bs : List Blk) : Option Sx2 := match us with
  | [.agg [.int _ n, .int _ f, .int _ t, v], .int _ l] => match qlOf v Bs with
    | some (q, _) => some ⟨⟨n, f, t, q⟩, l⟩
    | none => none
  | _ => none
def sdT (l i : Int) : List (Nat × AVal) := [(1, .int .i64 l), (2, .ptr (.own 1 0 0 0)), (5, .int .i64 i)]
structure Sx3 where
  s : Se
  l : Int
  i : Int
def sdD : RDeal Sx3 where
  ins y := sdT y.l y.i
  blks y := y.s.r.blk ++ [y.s.blk 0]
  pre y := okS2 ⟨y.s, y.l⟩ && (y.s.r.g && decide (y.i = 0))
  alts := [⟨Unit, .exit 0, fun _ _ => True, fun _ _ => [], fun y _ => y.s.r.blk ++ [y.s.blk 0]⟩]
def s3O (us : List AVal) (Bs : List Blk) : Option Sx3 := match us, Bs with
  | [.int _ l, _, .int _ i], [R, b] => match seOf b [R] with
    | some (s, _) => some ⟨s, l, i⟩
    | none => none
  | _, _ => none
def pSd : List Bool := [false, false, true, false, true]
def TSd : Tolds := sumT 17 [false, true, false, true] (toldR 52 sdD [1, 2, 5] s3O) noT
structure Mv where
  M : List Int
  cap : Option Nat
def okM (M : List Int) : Bool := decide (1 ≤ M.length) && (decide (M.length ≤ 16) && M.all fun t => decide (0 ≤ t) && decide (t ≤ 1152921504606846976))
def frM' (M : List Int) (i : Nat) : Fr := ⟨M.take i ++ List.replicate (16 - i) 0, M.length, 0⟩
def mkFr (M : List Int) : Fr := ⟨M ++ List.replicate (16 - M.length) 0, M.length, 0⟩
def makeD : CDeal Mv := ⟨fun y => [.slice (.own 0 0 0 1) y.M.length y.cap, .int .i64 0], fun y => [ilN y.M.length y.M], fun y => okM y.M, fun _ => .ptr (.own 1 0 0 0), fun y => [ilN y.M.length y.M, (mkFr y.M).blk]⟩
def mkO (us : List AVal) (Bs : List Blk) : Option Mv := match us, Bs with
  | .slice _ _ cap :: _, [.segs [⟨_, _, [.int _ M]⟩]] => some ⟨M, cap⟩
  | _, _ => none
def maT (M : List Int) (cap : Option Nat) (k i : Int) : List (Nat × AVal) := [(1, .int .i64 0), (5, .ptr (.own 1 0 0 0)), (19, .slice (.own 0 0 0 1) M.length cap), (20, .int .i64 k), (21, .int .i64 i)]
structure Mv2 where
  M : List Int
  cap : Option Nat
  x : Fr
  k : Int
  i : Int
def mkO2 (us : List AVal) (Bs : List Blk) : Option Mv2 := match us, Bs with
  | [_, _, .slice _ _ cap, .int _ k, .int _ i], [.segs [⟨_, _, [.int _ M]⟩], B] => match frOf B with
    | some x => some ⟨M, cap, x, k, i⟩
    | none => none
  | _, _ => none
def maD : RDeal Mv2 where
  ins y := maT y.M y.cap y.k y.i
  blks y := [ilN y.M.length y.M, y.x.blk]
  pre y := okM y.M && (decide (y.x.c = List.replicate 16 0) && (decide (y.x.n = y.M.length) && (decide (y.x.t = 0) && (decide (y.k = y.M.length) && decide (y.i = 0)))))
  alts := [⟨Unit, .exit 0, fun _ _ => True, fun _ _ => [(1, .int .i64 0), (5, .ptr (.own 1 0 0 0))], fun y _ => [ilN y.M.length y.M, (mkFr y.M).blk]⟩]
def pMa : List Bool := [false, false, true, false, true, true, true]
def TMa : Tolds := sumT 23 [false, true, false, true, true, true] (toldR 37 maD [1, 5, 19, 20, 21] mkO2) noT
def SM' : Sums := sumF 23 (callG makeD mkO) SB
structure Nw where
  q : Ql
  M : List Int
  cap : Option Nat
  l : Int
  d : Int
  la : Int
def Ql.cln (q : Ql) : Ql := match q.nil with
  | true => nilQ
  | false => ⟨false, false, q.n, q.n, q.c.take q.n⟩
def Nw.sk (y : Nw) (q : Ql) : Sk := ⟨mkFr y.M, newAl ⟨y.M.length, 0, y.la⟩, q, y.l, y.d, false⟩
def okNw (y : Nw) : Bool := y.q.ok && (okM y.M && (decide (y.M.length ≤ 3) && (decide (1 ≤ y.l) && (decide (y.l ≤ 1073741824) && (decide (0 ≤ y.d) && (decide (y.d ≤ 1152921504606846976) && decide (0 ≤ y.la)))))))
def Nw.nq (y : Nw) : Nat := y.q.blk.length
def nwD (s : Ql → Ql) (p : Ql → Bool) : CDeal Nw := ⟨fun y => [.int .i64 y.l, .agg [y.q.v 0, .slice (.own y.nq 0 0 1) y.M.length y.cap, .int .i64 y.d, .int .i64 y.la]], fun y => y.q.blk ++ [ilN y.M.length y.M],
  fun y => okNw y && p y.q, fun y => .ptr (.own (y.nq + 3 + (s y.q).blk.length) 0 0 0), fun y => y.q.blk ++ (ilN y.M.length y.M :: (y.sk (s y.q)).f.blk :: (y.sk (s y.q)).a.blk :: ((s y.q).blk ++ [(y.sk (s y.q)).b0 (y.nq + 1) (y.nq + 2) (y.nq + 3)]))⟩
def nwE : CDeal Nw := nwD (fun _ => litQ) Ql.e1
def nwG : CDeal Nw := nwD Ql.cln Ql.full
def nwO (us : List AVal) (Bs : List Blk) : Option Nw := match us with
  | [.int _ l, .agg [v, .slice _ _ cap, .int _ d, .int _ la]] => match qlOf v Bs with
    | some (q, [.segs [⟨_, _, [.int _ M]⟩]]) => some ⟨q, M, cap, l, d, la⟩
    | _ => none
  | _ => none
end Go.Proofs.Ytgkejpfahpbnkaa

namespace Go.Proofs.Ytgkejpfahpbnkaa
open Ab
theorem sd_round (E : Nat → Nat → Seg) (N F T l i : Int) (p q : Nat) (c : C6) : ((W E noS noL 17 pSd false (codeOf 17 pSd) (mkT 52 (sdT l i))).full ⟨hp 0 [c.blkN q, Se.blk 0 ⟨N, F, T, ⟨false, false, p, q, c⟩⟩], 2, [], []⟩ leafS).take 1 (.x (.n (.n (.n (.f (.c (.c (.c (.f (.c (.c (.x (cs 4 (.n (.c (.c (.n (cs 4 (.n (.c (.c (.n (.c (.c (.c (.f (.leaf [0, 1] 38))))))))))))))) (cs 17 (.leaf [0, 1] 38))))))))))))) (.leaf [0, 1] 16))
  = .br (decide (i < p)) (nR p q i (.need (ne0 l) (.but (decide (ep l (c.at (ix i)).t < F)) (.but (decide (T ≤ ep l (c.at (ix i)).t)) (.br (decide (0 < i)) (nR p q (wr .i64 (i - 1)) (nR p q i (.but (decide ((c.at (ix i)).t < (c.at (ix (wr .i64 (i - 1)))).t)) (lfB .normal 52 (sdT l (wr .i64 (i + 1))) [c.blkN q, Se.blk 0 ⟨N, F, T, ⟨false, false, p, q, c⟩⟩]))))
    (lfB .normal 52 (sdT l (wr .i64 (i + 1))) [c.blkN q, Se.blk 0 ⟨N, F, T, ⟨false, false, p, q, c⟩⟩])))))) (lfB (.exit 0) 52 [] [c.blkN q, Se.blk 0 ⟨N, F, T, ⟨false, false, p, q, c⟩⟩]) := by kernel_rfl
theorem sd_n (E : Nat → Nat → Seg) (N F T l : Int) (li : Bool) (p q : Nat) (c : C6) : ((callB Try.prog E noS (W E noS noL) 17 [Se.v 0 ⟨N, F, T, ⟨true, li, p, q, c⟩⟩, .int .i64 l]).full ⟨hp 0 [], 0, [], []⟩ leafV).take 0 (.c (.leaf [] 1))
  = lfS (.bool true) [] := by kernel_rfl
theorem sd_g (E : Nat → Nat → Seg) (N F T l : Int) (p q : Nat) (c : C6) : (callT Try.prog E (W E noS noL) TSd 1 17 [Se.v 0 ⟨N, F, T, ⟨false, false, p, q, c⟩⟩, .int .i64 l] ⟨hp 0 [c.blkN q], 1, [], []⟩).take 1 (.c (.n (.n (.a (.i (.leaf [0] 1))))))
  = .need (eT 52 (sdT l 0) [c.blkN q, Se.blk 0 ⟨N, F, T, ⟨false, false, p, q, c⟩⟩] (sdT l 0) [c.blkN q, Se.blk 0 ⟨N, F, T, ⟨false, false, p, q, c⟩⟩]) (.need (sdD.pre ⟨⟨N, F, T, ⟨false, false, p, q, c⟩⟩, l, 0⟩) (.all Unit fun _ => .imp True (lfQ (.bool true) [c.blkN q]))) := by kernel_rfl
theorem ma_round (E : Nat → Nat → Seg) (M : List Int) (cap : Option Nat) (x : Fr) (k i : Int) : ((W E SB noL 23 pMa false (codeOf 23 pMa) (mkT 37 (maT M cap k i))).full ⟨hp 0 [ilN M.length M, x.blk], 2, [], []⟩ leafS).take 1 (.x (.n (.n (.n (.n (.n (.f (.leaf [0, 1] 3670050))))))) (.leaf [0, 1] 34))
  = .br (decide (i < k)) (nR M.length M.length i (.need (eB [x.blk]) (.need (eV [.int .i64 i, .int .i64 (M.getD (ix i) 0)]) (.need (okFr x) (.but (!decide (markE x.l i (M.getD (ix i) 0) = 0)) (lfB .normal 37 (maT M cap k (wr .i64 (i + 1))) [ilN M.length M, (x.mark i (M.getD (ix i) 0)).blk]))))))
    (lfB (.exit 0) 37 [(1, .int .i64 0), (5, .ptr (.own 1 0 0 0))] [ilN M.length M, x.blk]) := by kernel_rfl
theorem ma_t (E : Nat → Nat → Seg) (M : List Int) (cap : Option Nat) : (callT Try.prog E (W E SB noL) TMa 1 23 (makeD.args ⟨M, cap⟩) ⟨hp 0 [ilN M.length M], 1, [], []⟩).take 1 (.t (.c (.n (.n (csQ 9 (.n (.n (.a (.i (.leaf [0, 1] 1))))))))))
  = .need (newOkF M.length) (.need (eV [.int .i64 M.length]) (.need (newOkF M.length) (.need (eT 37 (maT M cap M.length 0) [ilN M.length M, (newFr M.length).blk] (maT M cap M.length 0) [ilN M.length M, (newFr M.length).blk]) (.need (maD.pre ⟨M, cap, newFr M.length, M.length, 0⟩) (.all Unit fun _ => .imp True (lfQ (.ptr (.own 1 0 0 0)) [ilN M.length M, (mkFr M).blk])))))) := by kernel_rfl
def nwM (y : Nw) (t : Tree State) : Tree State := .need (eB [ilN y.M.length y.M]) (.need (eV [.slice (.own 0 0 0 1) y.M.length y.cap]) (.need (okM y.M) (.need (newOkA ⟨y.M.length, 0, y.la⟩) (.need (eV [.int .i64 y.M.length, .int .i64 y.la]) (.need (newOkA ⟨y.M.length, 0, y.la⟩)
  (.but (decide (3 < (y.M.length : Int))) (.but (decide (y.l < 1)) (.but (decide (1073741824 < y.l)) (.but (decide (y.d < 0)) (.but (decide (1152921504606846976 < y.d)) t))))))))))
def nwL (D : CDeal Nw) (y : Nw) : Tree State := lfS (D.out y) (D.blks' y)
theorem nw_n (E : Nat → Nat → Seg) (M : List Int) (cap : Option Nat) (l d la : Int) (li : Bool) (n m : Nat) (c : C6) : ((callB Try.prog E SM' (W E SM' noL) 6 (nwG.args ⟨⟨true, li, n, m, c⟩, M, cap, l, d, la⟩)).full ⟨hp 0 (nwG.blks ⟨⟨true, li, n, m, c⟩, M, cap, l, d, la⟩), 1, [], []⟩ leafV).take 1 (.n (.n (.n (.t (.c (.n (.n (cs 6 (.f (.c (.f (.c (.f (.c (.c (.f (.c (.c (.f (cs 5 (.leaf [0, 2, 3, 4] 1)))))))))))))))))))))
  = nwM ⟨⟨true, li, n, m, c⟩, M, cap, l, d, la⟩ (nwL nwG ⟨⟨true, li, n, m, c⟩, M, cap, l, d, la⟩) := by kernel_rfl
theorem nw_l (E : Nat → Nat → Seg) (M : List Int) (cap : Option Nat) (l d la : Int) (n m : Nat) (c : C6) : ((callB Try.prog E SM' (W E SM' noL) 6 (nwG.args ⟨⟨false, true, n, m, c⟩, M, cap, l, d, la⟩)).full ⟨hp 0 (nwG.blks ⟨⟨false, true, n, m, c⟩, M, cap, l, d, la⟩), 2, [], []⟩ leafV).take 2 (.n (.n (.n (.t (.c (.n (.n (cs 6 (.f (.c (.f (.c (.f (.c (.c (.f (.c (.c (.f (cs 6 (.leaf [0, 1, 3, 4, 5, 6] 1)))))))))))))))))))))
  = nwM ⟨⟨false, true, n, m, c⟩, M, cap, l, d, la⟩ (nwL nwE ⟨⟨false, true, n, m, c⟩, M, cap, l, d, la⟩) := by kernel_rfl
theorem nw_g (E : Nat → Nat → Seg) (M : List Int) (cap : Option Nat) (l d la : Int) (n m : Nat) (c : C6) : ((callB Try.prog E SM' (W E SM' noL) 6 (nwG.args ⟨⟨false, false, n, m, c⟩, M, cap, l, d, la⟩)).full ⟨hp 0 (nwG.blks ⟨⟨false, false, n, m, c⟩, M, cap, l, d, la⟩), 2, [], []⟩ leafV).take 2 (.n (.n (.n (.t (.c (.n (.n (cs 6 (.f (.c (.f (.c (.f (.c (.c (.f (.c (.c (.f (.c (.x (.n (.n (.n (.c (.leaf [0, 1, 3, 4, 5, 6] 1))))) (.n (.n (.n (.c (.leaf [0, 1, 3, 4, 5, 6] 1))))))))))))))))))))))))))
  = nwM ⟨⟨false, false, n, m, c⟩, M, cap, l, d, la⟩ (.br (Ql.e1 ⟨false, false, n, m, c⟩) (.need (eB [c.blkN m]) (.need (eV [slN 0 n]) (.need (Ql.ok ⟨false, false, n, m, c⟩ && (true && Ql.none ⟨false, false, n, m, c⟩)) (nwL nwE ⟨⟨false, false, n, m, c⟩, M, cap, l, d, la⟩))))
    (.need (eB [c.blkN m]) (.need (eV [slN 0 n]) (.need (Ql.ok ⟨false, false, n, m, c⟩ && (true && (true && decide (1 ≤ n)))) (nwL nwG ⟨⟨false, false, n, m, c⟩, M, cap, l, d, la⟩))))) := by kernel_rfl
end Go.Proofs.Ytgkejpfahpbnkaa

namespace Go.Proofs.Ytgkejpfahpbnkaa
open Ab
section
variable {E : Nat → Nat → Seg} {ra : Nat → Nat → Nat × Nat} {base : Nat} {S : Sums}
theorem SS_ok (hE : Plain E) : SumsOK Try.prog E ra base SS := by
  refine sumNG_deal hE (SZ0_ok hE) ⟨_, Try.func16, by kernel_rfl⟩ (fun q hq => ?_) fun x hx => ?_
  · simp only [List.mem_cons, List.not_mem_nil, or_false] at hq
    subst hq
    intro x hx
    simp only [sealN, Bool.and_eq_true] at hx
    refine (seal_both hE x hx.1).mono fun v h' h => ?_
    rcases h with ⟨_, h1, h2⟩ | ⟨h0, _⟩
    · exact ⟨h1, h2⟩
    · exact absurd (List.isEmpty_iff.1 hx.2) h0
  · simp only [sealG, Bool.and_eq_true, Bool.not_eq_true'] at hx
    refine (seal_both hE x hx.1).mono fun v h' h => ?_
    rcases h with ⟨h0, _⟩ | ⟨_, h1, h2⟩
    · have := hx.2
      rw [h0] at this; exact absurd this (by decide)
    · exact ⟨h1, h2⟩
theorem tms_at {L : List Rc} (h : tmS L) {i : Nat} (h1 : 0 < i) (h2 : i < L.length) : (L[i - 1]'(by omega)).t ≤ L[i].t := List.pairwise_iff_getElem.1 h (i - 1) i (by omega) h2 (by omega)
theorem sd_loop (hE : Plain E) {N F T l : Int} {p q : Nat} {c : C6} (h : okS2 ⟨⟨N, F, T, ⟨false, false, p, q, c⟩⟩, l⟩ = true) :
    Takes Try.prog E ra base 1 (.loop (codeOf 17 pSd)) (mkT 52 (sdT l 0)) (hp 0 [c.blkN q, Se.blk 0 ⟨N, F, T, ⟨false, false, p, q, c⟩⟩]) fun y => y = (.exit 0, mkT 52 [], hp 0 [c.blkN q, Se.blk 0 ⟨N, F, T, ⟨false, false, p, q, c⟩⟩]) := by
  simp only [okS2, Bool.and_eq_true, decide_eq_true_eq] at h
  obtain ⟨_, h1, hl, ha, ht⟩ := h
  obtain ⟨_, _, g1, g2, g3⟩ := q_facts h1 rfl
  unfold big at g3
  have hL := L_len (c := c) g2
  replace ht : tmS ((c.un q).take p) := ht
  have hat : ∀ {i : Nat} (hi : i < p), (((c.un q).take p)[i]'(by omega)) = c.at (ix (i : Int)) := fun {i} hi => by
    have := L_get (c := c) g2 hi
    rw [List.getElem?_eq_getElem (by omega)] at this
    exact Option.some.inj this
  refine takes_loop (fun j ts h => ∃ i : Nat, i ≤ p ∧ j = p - i + 1 ∧ ts = mkT 52 (sdT l i) ∧ h = hp 0 [c.blkN q, Se.blk 0 ⟨N, F, T, ⟨false, false, p, q, c⟩⟩]) (fun ts h => by rintro ⟨i, _, h, _⟩; omega) (fun j ts h' => ?_) (j := p + 1) ⟨0, Nat.zero_le _, rfl, rfl, rfl⟩
  rintro ⟨i, h1, h2, rfl, rfl⟩
  refine takes_of_tree hE (W_ok sumNone_ok noL_ok) (f := 17) (.inr (by kernel_rfl)) (hp_below _) (sd_round E N F T l i p q c) ?_
  refine br_by (fun h => nR_holds ⟨by omega, h⟩ g2 ⟨hl, ?_⟩) fun h => ?_
  · have hi : i < p := by omega
    have hin := List.all_eq_true.1 ha _ (List.getElem_mem (l := (c.un q).take p) (n := i) (by omega))
    rw [hat hi] at hin
    simp only [inE, Bool.and_eq_true, decide_eq_true_eq] at hin
    refine btT (decide_eq_false (by omega)) (btT (decide_eq_false (by omega)) (br_by (fun h0 => ?_) fun h0 => ?_))
    · rw [wr_sub1 (by omega) (by omega), wr_one (by omega)]
      refine nR_holds ⟨by omega, by omega⟩ g2 (nR_holds ⟨by omega, h⟩ g2 (btT (decide_eq_false ?_) ⟨i + 1, by omega, by omega, rfl, rfl⟩))
      have := tms_at ht (i := i) (by omega) (show i < ((c.un q).take p).length by omega)
      rw [hat hi, hat (show i - 1 < p by omega)] at this
      omega
    · rw [wr_one (by omega)]
      exact ⟨i + 1, by omega, by omega, rfl, rfl⟩
  · rfl
theorem TSd_ok (hE : Plain E) : ToldsOK Try.prog E ra base 1 TSd := by
  refine sumT_ok noT_ok rfl (toldR_ok (c := .loop (codeOf 17 pSd)) (by kernel_rfl) fun y hy => ?_)
  obtain ⟨⟨N, F, T, ⟨nl, li, p, q, c⟩⟩, l, i⟩ := y
  simp only [sdD, Bool.and_eq_true, decide_eq_true_eq] at hy
  obtain ⟨h1, h2, h3⟩ := hy
  subst h3
  have h1' := h1
  simp only [okS2, Bool.and_eq_true] at h1'
  obtain ⟨rfl, rfl, _⟩ := q_facts h1'.2.1 h2
  exact (sd_loop hE h1).mono fun y hy => ⟨(), trivial, hy⟩
theorem sealed_gives (hE : Plain E) (y : Sx2) (h : okS2 y = true) : Gives Try.prog E ra base y.s.r.blk.length 17 (sealedD.args y) (hp 0 y.s.r.blk) fun v h' => v = .bool true ∧ h' = hp 0 y.s.r.blk := by
  obtain ⟨⟨N, F, T, ⟨nl, li, p, q, c⟩⟩, l⟩ := y
  cases nl
  · cases li
    · refine gives_of_treeQ hE (W_ok sumNone_ok noL_ok) (TSd_ok hE) (hp_below _) (sd_g E N F T l p q c) ?_
      refine ⟨eT_self rfl rfl rfl, ?_, fun _ _ => lfQ_ok rfl rfl⟩
      show (okS2 _ && (true && decide (_ = _))) = true
      rw [h, decide_eq_true rfl]; rfl
    · simp [okS2, Ql.gn] at h
  · exact (gives_of_tree hE (W_ok sumNone_ok noL_ok) sumNone_ok (hp_below _) (sd_n E N F T l li p q c) (lfS_ok rfl rfl)).2
theorem okM_facts {M : List Int} (h : okM M = true) : 1 ≤ M.length ∧ M.length ≤ 16 ∧ ∀ t ∈ M, 0 ≤ t ∧ t ≤ 1152921504606846976 := by
  simp only [okM, Bool.and_eq_true, decide_eq_true_eq, List.all_eq_true] at h
  exact h
theorem ma_loop (hE : Plain E) {M : List Int} {cap : Option Nat} (h : okM M = true) :
    Takes Try.prog E ra base 1 (.loop (codeOf 23 pMa)) (mkT 37 (maT M cap M.length 0)) (hp 0 [ilN M.length M, (newFr M.length).blk]) fun y => y = (.exit 0, mkT 37 [(1, .int .i64 0), (5, .ptr (.own 1 0 0 0))], hp 0 [ilN M.length M, (mkFr M).blk]) := by
  obtain ⟨h1, h2, h3⟩ := okM_facts h
  refine takes_loop (fun j ts h => ∃ i : Nat, i ≤ M.length ∧ j = M.length - i + 1 ∧ ts = mkT 37 (maT M cap M.length i) ∧ h = hp 0 [ilN M.length M, (frM' M i).blk]) (fun ts h => by rintro ⟨i, _, h, _⟩; omega) (fun j ts h' => ?_) (j := M.length + 1) ⟨0, Nat.zero_le _, rfl, rfl, rfl⟩
  rintro ⟨i, g1, g2, rfl, rfl⟩
  refine takes_of_tree hE (wE hE (SB_ok hE)) (f := 23) (.inr (by kernel_rfl)) (hp_below _) (ma_round E M cap (frM' M i) M.length i) ?_
  have hix : ix (i : Int) = i := by rw [ix, Nat.zero_add, Int.toNat_natCast]
  refine br_by (fun h => nR_holds ⟨by omega, h⟩ (Nat.le_refl _) (ndT (eB_eq rfl) (ndT (eV_eq _) ?_))) fun h => ?_
  · have hi : i < M.length := by omega
    have hlen : (frM' M i).c.length = 16 := by simp only [frM', List.length_append, List.length_take, List.length_replicate]; omega
    have hg : M.getD i 0 = M[i] := getD_at hi 0
    have hb := h3 M[i] (List.getElem_mem hi)
    have hrep : List.replicate (16 - i) (0 : Int) = 0 :: List.replicate (16 - (i + 1)) 0 := by rw [show 16 - i = (16 - (i + 1)) + 1 by omega]; rfl
    have hget : (frM' M i).l.getD i 0 = 0 := by
      show ((M.take i ++ List.replicate (16 - i) 0).take (M.length : Int).toNat).getD i 0 = 0
      rw [getD_takeI (by omega), hrep]
      simp [List.getD_eq_getElem?_getD, List.getElem?_append_right, List.length_take, Nat.min_eq_left (Nat.le_of_lt hi)]
    have hll : ((frM' M i).l.length : Int) = M.length := by
      show (((M.take i ++ List.replicate (16 - i) 0).take (M.length : Int).toNat).length : Int) = M.length
      rw [List.length_take, show (M.take i ++ List.replicate (16 - i) (0 : Int)).length = 16 from hlen]; omega
    have he : markE (frM' M i).l i (M.getD i 0) = 0 := by
      rw [markE, if_neg (by omega), Int.toNat_natCast, hget, hg, if_neg (by omega)]
    rw [hix]
    refine ndT ?_ (btT (by rw [he]; rfl) ⟨i + 1, by omega, by omega, by rw [wr_one (by omega)], ?_⟩)
    · simp only [okFr, Bool.and_eq_true, decide_eq_true_eq]
      exact ⟨hlen, by show 1 ≤ (M.length : Int); omega, by show (M.length : Int) ≤ 16; omega⟩
    · rw [Fr.mark, he, putI, if_pos rfl, Int.toNat_natCast]
      show hp 0 [_, Fr.blk ⟨(M.take i ++ List.replicate (16 - i) 0).set i (M.getD i 0), _, _⟩] = hp 0 [_, Fr.blk ⟨M.take (i + 1) ++ List.replicate (16 - (i + 1)) 0, _, _⟩]
      have ht1 : M.take (i + 1) = M.take i ++ [M[i]] := by rw [List.take_add_one, List.getElem?_eq_getElem hi]; rfl
      have : (M.take i ++ List.replicate (16 - i) 0).set i (M.getD i 0) = M.take (i + 1) ++ List.replicate (16 - (i + 1)) 0 := by
        rw [hrep, List.set_append, if_neg (by rw [List.length_take]; omega), List.length_take, Nat.min_eq_left (Nat.le_of_lt hi), Nat.sub_self, List.set_cons_zero, hg, ht1, List.append_assoc]; rfl
      rw [this]; rfl
  · have : i = M.length := by omega
    subst this
    show _ = _
    rw [frM', List.take_length]; rfl
theorem TMa_ok (hE : Plain E) : ToldsOK Try.prog E ra base 1 TMa := by
  refine sumT_ok noT_ok rfl (toldR_ok (c := .loop (codeOf 23 pMa)) (by kernel_rfl) fun y hy => ?_)
  obtain ⟨M, cap, ⟨c, n, t⟩, k, i⟩ := y
  simp only [maD, Bool.and_eq_true, decide_eq_true_eq] at hy
  obtain ⟨h1, rfl, rfl, rfl, rfl, rfl⟩ := hy
  exact (ma_loop hE h1).mono fun y hy => ⟨(), trivial, hy⟩
theorem make_gives (hE : Plain E) (y : Mv) (h : okM y.M = true) : Gives Try.prog E ra base 1 23 (makeD.args y) (hp 0 (makeD.blks y)) fun v h' => v = makeD.out y ∧ h' = hp 0 (makeD.blks' y) := by
  obtain ⟨M, cap⟩ := y
  replace h : okM M = true := h
  obtain ⟨h1, h2, h3⟩ := okM_facts h
  have hn : newOkF (M.length : Int) = true := newOkF_iff.2 ⟨by omega, by omega⟩
  refine gives_of_treeQ hE (wE hE (SB_ok hE)) (TMa_ok hE) (hp_below _) (ma_t E M cap) ?_
  refine ndQ hn (ndQ (eV_eq _) (ndQ hn (ndQ (eT_self rfl rfl rfl) (ndQ ?_ fun _ _ => lfQ_ok rfl rfl))))
  simp [maD, newFr, h]
theorem SM_ok' (hE : Plain E) : SumsOK Try.prog E ra base SM' := sumG_deal hE (SB_ok hE) ⟨_, Try.func23, by kernel_rfl⟩ fun y hy => make_gives hE y hy
theorem okNw_facts {y : Nw} (h : okNw y = true) : y.q.ok = true ∧ okM y.M = true ∧ y.M.length ≤ 3 ∧ 1 ≤ y.l ∧ y.l ≤ 1073741824 ∧ 0 ≤ y.d ∧ y.d ≤ 1152921504606846976 ∧ 0 ≤ y.la := by
  simpa only [okNw, Bool.and_eq_true, decide_eq_true_eq] using h
theorem nwM_ok {y : Nw} {t : Tree State} {Q : State → Prop} (h : okNw y = true) (ht : t.holds Q) : (nwM y t).holds Q := by
  obtain ⟨h1, h2, h3, h4, h5, h6, h7, h8⟩ := okNw_facts h
  obtain ⟨g1, g2, g3⟩ := okM_facts h2
  have hn : newOkA ⟨y.M.length, 0, y.la⟩ = true := newOkA_iff.2 ⟨⟨by simp only; omega, by simp only; omega⟩, ⟨by simp only; omega, by simp only; omega⟩, h8⟩
  refine ndT (eB_eq rfl) (ndT (eV_eq _) (ndT h2 (ndT hn (ndT (eV_eq _) (ndT hn (btT (decide_eq_false (by omega)) ?_))))))
  exact btT (decide_eq_false (by omega)) (btT (decide_eq_false (by omega)) (btT (decide_eq_false (by omega)) (btT (decide_eq_false (by omega)) ht)))
theorem nwL_ok {D : CDeal Nw} {y : Nw} : (nwL D y).holds fun x => ∃ u, x.2.1 = [u] ∧ (u = D.out y ∧ x.2.2 = hp 0 (D.blks' y)) := lfS_ok rfl rfl
theorem newE_gives (hE : Plain E) (y : Nw) (h : nwE.pre y = true) : Gives Try.prog E ra base (nwE.blks y).length 6 (nwE.args y) (hp 0 (nwE.blks y)) fun v h' => v = nwE.out y ∧ h' = hp 0 (nwE.blks' y) := by
  have hS := SM_ok' (ra := ra) (base := base) hE
  simp only [nwE, nwD, Bool.and_eq_true] at h
  obtain ⟨h1, h2⟩ := h
  have h3 := (okNw_facts h1).1
  obtain ⟨⟨nl, li, n, m, c⟩, M, cap, l, d, la⟩ := y
  cases nl
  · cases li
    · have hz : Ql.none ⟨false, false, n, m, c⟩ = true := by simpa [Ql.e1] using h2
      refine (gives_of_tree hE (wE hE hS) hS (hp_below _) (nw_g E M cap l d la n m c) (nwM_ok h1 (brT_yes h2 (ndT (eB_eq rfl) (ndT (eV_eq _) (ndT ?_ nwL_ok)))))).2
      simp only at h3
      rw [h3, hz]; rfl
    · exact (gives_of_tree hE (wE hE hS) hS (hp_below _) (nw_l E M cap l d la n m c) (nwM_ok h1 nwL_ok)).2
  · simp [Ql.e1] at h2
theorem newG_gives (hE : Plain E) (y : Nw) (h : nwG.pre y = true) : Gives Try.prog E ra base (nwG.blks y).length 6 (nwG.args y) (hp 0 (nwG.blks y)) fun v h' => v = nwG.out y ∧ h' = hp 0 (nwG.blks' y) := by
  have hS := SM_ok' (ra := ra) (base := base) hE
  simp only [nwG, nwD, Bool.and_eq_true] at h
  obtain ⟨h1, h2⟩ := h
  have h3 := (okNw_facts h1).1
  obtain ⟨⟨nl, li, n, m, c⟩, M, cap, l, d, la⟩ := y
  cases nl
  · cases li
    · have hp : 1 ≤ n := by simpa [Ql.full] using h2
      have e : Nat.beq n 0 = false := by
        cases h : Nat.beq n 0
        · rfl
        · have := Nat.eq_of_beq_eq_true h; omega
      refine (gives_of_tree hE (wE hE hS) hS (hp_below _) (nw_g E M cap l d la n m c) (nwM_ok h1 (brT_no ?_ (ndT (eB_eq rfl) (ndT (eV_eq _) (ndT ?_ nwL_ok)))))).2
      · simp only [Ql.e1, Ql.none, e]; rfl
      · simp only at h3
        rw [h3, decide_eq_true hp]; rfl
    · simp [Ql.full] at h2
  · exact (gives_of_tree hE (wE hE hS) hS (hp_below _) (nw_n E M cap l d la li n m c) (nwM_ok h1 nwL_ok)).2
def SN : Sums := sumF 6 (callNG [(fun y => y.q.e1, nwE)] nwG nwO) (sumF 17 (callK sealedD s2O) SS)
theorem SN_ok (hE : Plain E) : SumsOK Try.prog E ra base SN := by
  refine sumNG_deal hE (sumK_deal hE (SS_ok hE) ⟨_, Try.func17, by kernel_rfl⟩ fun y hy => sealed_gives hE y hy) ⟨_, Try.func6, by kernel_rfl⟩ (fun q hq => ?_) fun y hy => newG_gives hE y hy
  simp only [List.mem_cons, List.not_mem_nil, or_false] at hq
  subst hq
  exact fun y hy => newE_gives hE y hy
end
end Go.Proofs.Ytgkejpfahpbnkaa

namespace Go.Proofs.Ytgkejpfahpbnkaa
open Ab
structure Lw where
  x : Sk
  M : List Int
  C : List Bool
  g : Ql
  n : Nat
  w : Int
  sz : Int
  tk : Int
  un : Bool
  dn : Int
  i : Int
def cmB (C : List Bool) : Blk := .segs [⟨3, 1, [.bool C]⟩]
def Lw.nq (y : Lw) : Nat := y.x.q.blk.length
def Lw.bs (y : Lw) : List Blk := y.x.b0 1 2 5 :: y.x.f.blk :: y.x.a.blk :: ilN y.w.toNat y.M :: cmB y.C :: (y.x.q.blk ++ y.g.blk)
def Lw.len (y : Lw) : Nat := y.bs.length
def Lw.V (y : Lw) : AVal := .slice (.ro 0 0 0 0) y.n none
def Lw.ts (y : Lw) (r : List (Nat × AVal)) : List (Nat × AVal) := [(2, y.V), (7, .int .i64 y.w), (8, .int .i64 y.sz), (9, pS), (10, .slice (.own 3 0 0 1) y.w.toNat (some y.w.toNat)), (11, .int .i64 y.tk), (12, y.g.v (5 + y.nq)), (13, .bool y.un), (14, .ptr (.own 4 0 0 0)), (15, .int .i64 y.dn), (16, .int .i64 y.i)] ++ r
structure Ch where
  a : Int
  b : Int
  c : Int
def Ch.blk (u : Ch) : Blk := .segs [⟨1, 1, [.int .u8 [u.a]]⟩, ⟨1, 1, [.int .u8 [u.b]]⟩, ⟨1, 1, [.int .u8 [u.c]]⟩]
def tabC (a b c : List Int) : Nat → Nat → Seg := fun _ _ => ⟨a.length, 3, [.int .u8 a, .int .u8 b, .int .u8 c]⟩
def Ql.app (q : Ql) (r : Rc) : Ql := match q.nil, q.lit with
  | true, _ => ⟨false, false, 1, 1, cols [r]⟩
  | false, true => ⟨false, false, 1, 1, cols [r]⟩
  | false, false => ⟨false, false, q.n + 1, q.n + 1, q.c.snoc q.n r⟩
end Go.Proofs.Ytgkejpfahpbnkaa

namespace Go.Proofs.Ytgkejpfahpbnkaa
open Ab
def plp : List Bool := [true, false, true, true, true, true, true, true, true, true, true, true, true, true]
def phd : List Bool := [false, false, true, false, true, true, true, true, true, true, true, true, true, true, true, true]
def pA : List Bool := [false, false, false, true, false, true, true, true, true, true, true, true, true, true, true, true, true]
def pz1 : List Bool := [false, false, false, true, false, false, true, false, true, true, true, true, true, true, true, true, true, true, true, true]
def pz2 : List Bool := [false, true, false, false, true, false, false, true, false, true, true, true, true, true, true, true, true, true, true, true, true]
def pz3 : List Bool := [false, true, true, false, false, true, false, false, true, false, true, true, true, true, true, true, true, true, true, true, true, true]
def pr66 : List Bool := [false, false, true, true, true, false, false, true, false, false, true, false, true, true, true, true, true, true, true, true, true, true, true, true]
def psw : List Bool := [true, false, true, true, true, false, false, true, false, false, true, false, true, true, true, true, true, true, true, true, true, true, true, true]
def pchk : List Bool := [false, true, true, true, true, false, false, true, false, false, true, false, true, true, true, true, true, true, true, true, true, true, true, true]
def pZ6 : List Bool := [false, true, true, true, true, true, false, false, true, false, false, true, false, true, true, true, true, true, true, true, true, true, true, true, true]
def pZ7 : List Bool := [false, true, true, true, true, true, true, false, false, true, false, false, true, false, true, true, true, true, true, true, true, true, true, true, true, true]
def pn0 : List Bool := [false, false, true, true, true, true, true, true, true, false, false, true, false, false, true, false, true, true, true, true, true, true, true, true, true, true, true, true]
def plr : List Bool := [false, false, true, false, true, true, true, true, true, true, true, false, false, true, false, false, true, false, true, true, true, true, true, true, true, true, true, true, true, true]
def pZ9 : List Bool := [true, true, true, true, true, true, true, true, false, false, true, false, false, true, false, true, true, true, true, true, true, true, true, true, true, true, true]
def pinc : List Bool := [true, true, false, false, true, false, true, true, true, true, true, true, true, true, true, true, true, true]
def ps75 : List Bool := [false, false, true, false, true, true, true, false, false, true, false, false, true, false, true, true, true, true, true, true, true, true, true, true, true, true]
def ps98 : List Bool := [false, true, true, false, true, false, true, true, true, false, false, true, false, false, true, false, true, true, true, true, true, true, true, true, true, true, true, true]
def ps124 : List Bool := [false, true, true, true, true, false, true, false, true, true, true, false, false, true, false, false, true, false, true, true, true, true, true, true, true, true, true, true, true, true]
def ps134 : List Bool := [false, true, true, true, true, true, true, false, true, false, true, true, true, false, false, true, false, false, true, false, true, true, true, true, true, true, true, true, true, true, true, true]
def ps154 : List Bool := [false, true, true, true, true, true, true, true, true, false, true, false, true, true, true, false, false, true, false, false, true, false, true, true, true, true, true, true, true, true, true, true, true, true]
def prec : List Bool := [false, true, false, true, false, true, true, true, false, false, true, false, false, true, false, true, true, true, true, true, true, true, true, true, true, true, true]
def pmrk : List Bool := [false, true, true, true, false, true, false, true, true, true, false, false, true, false, false, true, false, true, true, true, true, true, true, true, true, true, true, true, true]
def pbeg : List Bool := [false, true, true, true, true, true, false, true, false, true, true, true, false, false, true, false, false, true, false, true, true, true, true, true, true, true, true, true, true, true, true]
def pbar : List Bool := [false, true, true, true, true, true, true, true, false, true, false, true, true, true, false, false, true, false, false, true, false, true, true, true, true, true, true, true, true, true, true, true, true]
def pstt : List Bool := [false, true, true, true, true, true, true, true, true, true, false, true, false, true, true, true, false, false, true, false, false, true, false, true, true, true, true, true, true, true, true, true, true, true, true]
def pnww : List Bool := [true, true, true, true, true, true, true, true, true, true, false, true, false, true, true, true, false, false, true, false, false, true, false, true, true, true, true, true, true, true, true, true, true, true, true]
def C6.tk (n : Nat) (c : C6) : C6 := ⟨List.take n (List.drop 0 c.k), List.take n (List.drop 0 c.t), List.take n (List.drop 0 c.v), List.take n (List.drop 0 c.s), List.take n (List.drop 0 c.e), List.take n (List.drop 0 c.f)⟩
def C6.ap (a b : C6) : C6 := ⟨a.k ++ b.k, a.t ++ b.t, a.v ++ b.v, a.s ++ b.s, a.e ++ b.e, a.f ++ b.f⟩
def Ql.cat (g r : Ql) : Ql := match g.nil, r.nil with
  | true, true => nilQ
  | true, false => ⟨false, false, r.n, r.n, r.c.tk r.n⟩
  | false, true => ⟨false, false, g.n + 0, g.n + 0, (g.c.tk g.n).ap ⟨[], [], [], [], [], []⟩⟩
  | false, false => ⟨false, false, g.n + r.n, g.n + r.n, (g.c.tk g.n).ap (r.c.tk r.n)⟩
def Lw.sealed (y : Lw) (r : Ql) : Lw := { y with x := y.x.sld, g := y.g.cat r, C := ((y.C.set 0 false).set 1 false).set 2 false, un := false, dn := y.x.over }
def Lw.ids (y : Lw) : List Nat := rg 0 y.len
def Lw.gi (y : Lw) : List Nat := rg (5 + y.nq) y.g.blk.length
def lfL (y : Lw) (r : List (Nat × AVal)) (ex : List Blk) : Tree State := .leaf (.normal, mkT 246 (y.ts r), hp 0 (y.bs ++ ex))
def Lw.who (y : Lw) (u : Ch) : Int := Int.tmod (wr .i64 u.b) y.w
def tg (L : List Int) (i : Int) : Int := List.getD L (ix i) 0
def Ch.at (a b c : List Int) (i : Int) : Ch := ⟨tg a i, tg b i, tg c i⟩
def Lw.took (y : Lw) (r : Rc) : Lw := { y with x := { y.x with q := y.x.q.app r }, tk := wr .i64 (y.tk + 1) }
def Lw.recr (y : Lw) (u : Ch) (h : Int) : Rc := ⟨0, wr .i64 (tg y.M h + wr .i64 u.c), y.i, 0, false, false⟩
def Lw.sttr (y : Lw) (u : Ch) : Rc := ⟨0, wr .i64 (minF y.x.f + wr .i64 u.c), y.i, 0, false, true⟩
def Lw.mk1 (y : Lw) (u : Ch) (h : Int) : List Int := List.set y.M (ix h) (wr .i64 (tg y.M h + wr .i64 u.c))
def Lw.mark (y : Lw) (u : Ch) (h : Int) : Lw := { y with x := { y.x with f := y.x.f.mark h (tg (y.mk1 u h) h) }, M := y.mk1 u h }
def Lw.beg (y : Lw) : Lw := { y with x := { y.x with und := true }, un := true }
def Lw.bar (y : Lw) (h : Int) : Lw := { y with x := { y.x with a := y.x.a.come h (wr .i64 (y.x.a.l + 1)) }, C := List.set y.C h.toNat true }
def Lw.nw (y : Lw) (q : Ql) : Nw := ⟨q, y.x.f.l, none, y.sz, y.x.done, y.x.a.l⟩
def Lw.anew (y : Lw) (q : Ql) : Lw := { y with x := (y.nw q).sk q }
def eBB (a b : List Blk) : Bool := sameBl a b && true
def eVV (a b : List AVal) : Bool := sameL a b && true
end Go.Proofs.Ytgkejpfahpbnkaa

namespace Go.Proofs.Ytgkejpfahpbnkaa
open Ab
theorem t_A (E : Nat → Nat → Seg) (y : Lw) (hg : y.g.gn = true)  : ((W E noS noL 3 pA false (codeOf 3 pA) (mkT 246 (y.ts []))).full ⟨hp 0 (y.bs), y.len, [], []⟩ leafS).take 0 (.x (.c (.x (.leaf y.ids 130948) (.leaf y.ids 130948))) (.c (.c (.c (.leaf y.ids 130948)))))
  = .br (decide (y.i < y.n)) (.br (decide (y.i < 200)) (.leaf (.normal, mkT 246 (y.ts []), hp 0 y.bs)) (.leaf (.exit 0, mkT 246 (y.ts []), hp 0 y.bs))) (.leaf (.exit 0, mkT 246 (y.ts []), hp 0 y.bs)) := by
  obtain ⟨⟨f, a, ⟨nl, li, n, m, c⟩, l, d, b⟩, M, C, ⟨gn, gl, g1, g2, gc⟩, N, w, sz, tk, un, dn, i⟩ := y
  cases gn
  · cases gl
    · cases nl
      · cases li <;> kernel_rfl
      · kernel_rfl
    · cases hg
  · cases nl
    · cases li <;> kernel_rfl
    · kernel_rfl
theorem t_z1 (ta tb tc : List Int) (y : Lw) (hg : y.g.gn = true)  : ((W (tabC ta tb tc) noS noL 3 pz1 false (codeOf 3 pz1) (mkT 246 (y.ts []))).full ⟨hp 0 (y.bs), y.len, [], []⟩ leafS).take 0 (.n (.n (.leaf (rg 0 (y.len + 1)) 262020)))
  = .need (inL y.i y.n) (.need (nL y.i ta.length) (lfL y [(17, .ptr (.own y.len 0 0 0))] [(Ch.at ta tb tc y.i).blk])) := by
  obtain ⟨⟨f, a, ⟨nl, li, n, m, c⟩, l, d, b⟩, M, C, ⟨gn, gl, g1, g2, gc⟩, N, w, sz, tk, un, dn, i⟩ := y
  cases gn
  · cases gl
    · cases nl
      · cases li <;> kernel_rfl
      · kernel_rfl
    · cases hg
  · cases nl
    · cases li <;> kernel_rfl
    · kernel_rfl
theorem t_z2 (E : Nat → Nat → Seg) (y : Lw) (hg : y.g.gn = true)  (u : Ch) : ((W E noS noL 3 pz2 false (codeOf 3 pz2) (mkT 246 (y.ts [(17, .ptr (.own y.len 0 0 0))]))).full ⟨hp 0 (y.bs ++ [u.blk]), (y.bs ++ [u.blk]).length, [], []⟩ leafS).take 0 (.n (.leaf (rg 0 (y.bs ++ [u.blk]).length) 524164))
  = .need (decide (¬ y.w = 0)) (lfL y [(17, .ptr (.own y.len 0 0 0)), (18, .int .i64 (y.who u))] [u.blk]) := by
  obtain ⟨⟨f, a, ⟨nl, li, n, m, c⟩, l, d, b⟩, M, C, ⟨gn, gl, g1, g2, gc⟩, N, w, sz, tk, un, dn, i⟩ := y
  cases gn
  · cases gl
    · cases nl
      · cases li <;> kernel_rfl
      · kernel_rfl
    · cases hg
  · cases nl
    · cases li <;> kernel_rfl
    · kernel_rfl
theorem t_z3 (E : Nat → Nat → Seg) (y : Lw) (hg : y.g.gn = true)  (u : Ch) (h : Int) : ((W E noS noL 3 pz3 false (codeOf 3 pz3) (mkT 246 (y.ts [(17, .ptr (.own y.len 0 0 0)), (18, .int .i64 h)]))).full ⟨hp 0 (y.bs ++ [u.blk]), (y.bs ++ [u.blk]).length, [], []⟩ leafS).take 0 (.leaf (rg 0 (y.bs ++ [u.blk]).length) 1048452)
  = lfL y [(17, .ptr (.own y.len 0 0 0)), (18, .int .i64 h), (19, .int .i64 0)] [u.blk] := by
  obtain ⟨⟨f, a, ⟨nl, li, n, m, c⟩, l, d, b⟩, M, C, ⟨gn, gl, g1, g2, gc⟩, N, w, sz, tk, un, dn, i⟩ := y
  cases gn
  · cases gl
    · cases nl
      · cases li <;> kernel_rfl
      · kernel_rfl
    · cases hg
  · cases nl
    · cases li <;> kernel_rfl
    · kernel_rfl
theorem t_r66 (E : Nat → Nat → Seg) (y : Lw) (hg : y.g.gn = true)  (u : Ch) (h : Int) : ((W E noS noL 3 pr66 false (codeOf 3 pr66) (mkT 246 (y.ts [(17, .ptr (.own y.len 0 0 0)), (18, .int .i64 h), (19, .int .i64 0)]))).full ⟨hp 0 (y.bs ++ [u.blk]), (y.bs ++ [u.blk]).length, [], []⟩ leafS).take 0 (.c (.leaf (rg 0 (y.bs ++ [u.blk]).length) 73786976294839254916))
  = lfL y [(17, .ptr (.own y.len 0 0 0)), (18, .int .i64 h), (19, .int .i64 0), (66, .int .u8 (Int.tmod u.a 10))] [u.blk] := by
  obtain ⟨⟨f, a, ⟨nl, li, n, m, c⟩, l, d, b⟩, M, C, ⟨gn, gl, g1, g2, gc⟩, N, w, sz, tk, un, dn, i⟩ := y
  cases gn
  · cases gl
    · cases nl
      · cases li <;> kernel_rfl
      · kernel_rfl
    · cases hg
  · cases nl
    · cases li <;> kernel_rfl
    · kernel_rfl
theorem t_chk (E : Nat → Nat → Seg) (y : Lw) (hg : y.g.gn = true)  : ((W E noS noL 3 pchk false (codeOf 3 pchk) (mkT 246 (y.ts [(19, .int .i64 0)]))).full ⟨hp 0 (y.bs), y.len, [], []⟩ leafS).take 0 (.c (.leaf y.ids 130948))
  = .leaf (.normal, mkT 246 (y.ts []), hp 0 y.bs) := by
  obtain ⟨⟨f, a, ⟨nl, li, n, m, c⟩, l, d, b⟩, M, C, ⟨gn, gl, g1, g2, gc⟩, N, w, sz, tk, un, dn, i⟩ := y
  cases gn
  · cases gl
    · cases nl
      · cases li <;> kernel_rfl
      · kernel_rfl
    · cases hg
  · cases nl
    · cases li <;> kernel_rfl
    · kernel_rfl
theorem t_inc (E : Nat → Nat → Seg) (y : Lw) (hg : y.g.gn = true)  : ((W E noS noL 3 pinc false (codeOf 3 pinc) (mkT 246 (y.ts []))).full ⟨hp 0 (y.bs), y.len, [], []⟩ leafS).take 0 (.leaf y.ids 130948)
  = .leaf (.normal, mkT 246 (Lw.ts { y with i := wr .i64 (y.i + 1) } []), hp 0 y.bs) := by
  obtain ⟨⟨f, a, ⟨nl, li, n, m, c⟩, l, d, b⟩, M, C, ⟨gn, gl, g1, g2, gc⟩, N, w, sz, tk, un, dn, i⟩ := y
  cases gn
  · cases gl
    · cases nl
      · cases li <;> kernel_rfl
      · kernel_rfl
    · cases hg
  · cases nl
    · cases li <;> kernel_rfl
    · kernel_rfl
theorem t_s75 (E : Nat → Nat → Seg) (y : Lw) (hg : y.g.gn = true)  (u : Ch) (h k : Int) : ((W E noS noL 3 ps75 false (codeOf 3 ps75) (mkT 246 (y.ts [(17, .ptr (.own y.len 0 0 0)), (18, .int .i64 h), (19, .int .i64 0), (66, .int .u8 k)]))).full ⟨hp 0 (y.bs ++ [u.blk]), (y.bs ++ [u.blk]).length, [], []⟩ leafS).take 0 (.x (.leaf (rg 0 (y.bs ++ [u.blk]).length) 37852718839252000964484) (.x (.leaf (rg 0 (y.bs ++ [u.blk]).length) 37852718839252000964484) (.leaf (rg 0 (y.bs ++ [u.blk]).length) 37852718839252000964484)))
  = (.br (decide (k = 0)) (lfL y [(17, .ptr (.own y.len 0 0 0)), (18, .int .i64 h), (19, .int .i64 0), (66, .int .u8 k), (75, .bool (decide (k = 0)))] [u.blk]) (.br (decide (k = 1)) (lfL y [(17, .ptr (.own y.len 0 0 0)), (18, .int .i64 h), (19, .int .i64 0), (66, .int .u8 k), (75, .bool (decide (k = 1)))] [u.blk]) (lfL y [(17, .ptr (.own y.len 0 0 0)), (18, .int .i64 h), (19, .int .i64 0), (66, .int .u8 k), (75, .bool (decide (k = 2)))] [u.blk]))) := by
  obtain ⟨⟨f, a, ⟨nl, li, n, m, c⟩, l, d, b⟩, M, C, ⟨gn, gl, g1, g2, gc⟩, N, w, sz, tk, un, dn, i⟩ := y
  cases gn
  · cases gl
    · cases nl
      · cases li <;> kernel_rfl
      · kernel_rfl
    · cases hg
  · cases nl
    · cases li <;> kernel_rfl
    · kernel_rfl
theorem t_s98 (E : Nat → Nat → Seg) (y : Lw) (hg : y.g.gn = true)  (u : Ch) (h k : Int) : ((W E noS noL 3 ps98 false (codeOf 3 ps98) (mkT 246 (y.ts [(17, .ptr (.own y.len 0 0 0)), (18, .int .i64 h), (19, .int .i64 0), (66, .int .u8 k)]))).full ⟨hp 0 (y.bs ++ [u.blk]), (y.bs ++ [u.blk]).length, [], []⟩ leafS).take 0 (.x (.leaf (rg 0 (y.bs ++ [u.blk]).length) 316912650130844326669015056260) (.leaf (rg 0 (y.bs ++ [u.blk]).length) 316912650130844326669015056260))
  = (.br (decide (k = 3)) (lfL y [(17, .ptr (.own y.len 0 0 0)), (18, .int .i64 h), (19, .int .i64 0), (66, .int .u8 k), (98, .bool (decide (k = 3)))] [u.blk]) (lfL y [(17, .ptr (.own y.len 0 0 0)), (18, .int .i64 h), (19, .int .i64 0), (66, .int .u8 k), (98, .bool (decide (k = 4)))] [u.blk])) := by
  obtain ⟨⟨f, a, ⟨nl, li, n, m, c⟩, l, d, b⟩, M, C, ⟨gn, gl, g1, g2, gc⟩, N, w, sz, tk, un, dn, i⟩ := y
  cases gn
  · cases gl
    · cases nl
      · cases li <;> kernel_rfl
      · kernel_rfl
    · cases hg
  · cases nl
    · cases li <;> kernel_rfl
    · kernel_rfl
theorem t_s124 (E : Nat → Nat → Seg) (y : Lw) (hg : y.g.gn = true)  (u : Ch) (h k : Int) : ((W E noS noL 3 ps124 false (codeOf 3 ps124) (mkT 246 (y.ts [(17, .ptr (.own y.len 0 0 0)), (18, .int .i64 h), (19, .int .i64 0), (66, .int .u8 k)]))).full ⟨hp 0 (y.bs ++ [u.blk]), (y.bs ++ [u.blk]).length, [], []⟩ leafS).take 0 (.leaf (rg 0 (y.bs ++ [u.blk]).length) 21267647932558654040247889259324768132)
  = (lfL y [(17, .ptr (.own y.len 0 0 0)), (18, .int .i64 h), (19, .int .i64 0), (66, .int .u8 k), (124, .bool (decide (k = 5)))] [u.blk]) := by
  obtain ⟨⟨f, a, ⟨nl, li, n, m, c⟩, l, d, b⟩, M, C, ⟨gn, gl, g1, g2, gc⟩, N, w, sz, tk, un, dn, i⟩ := y
  cases gn
  · cases gl
    · cases nl
      · cases li <;> kernel_rfl
      · kernel_rfl
    · cases hg
  · cases nl
    · cases li <;> kernel_rfl
    · kernel_rfl
theorem t_s134 (E : Nat → Nat → Seg) (y : Lw) (hg : y.g.gn = true)  (u : Ch) (h k : Int) : ((W E noS noL 3 ps134 false (codeOf 3 ps134) (mkT 246 (y.ts [(17, .ptr (.own y.len 0 0 0)), (18, .int .i64 h), (19, .int .i64 0), (66, .int .u8 k)]))).full ⟨hp 0 (y.bs ++ [u.blk]), (y.bs ++ [u.blk]).length, [], []⟩ leafS).take 0 (.x (.leaf (rg 0 (y.bs ++ [u.blk]).length) 21778071482940061661729761851928004788100) (.leaf (rg 0 (y.bs ++ [u.blk]).length) 21778071482940061661729761851928004788100))
  = (.br (decide (k = 6)) (lfL y [(17, .ptr (.own y.len 0 0 0)), (18, .int .i64 h), (19, .int .i64 0), (66, .int .u8 k), (134, .bool (decide (k = 6)))] [u.blk]) (lfL y [(17, .ptr (.own y.len 0 0 0)), (18, .int .i64 h), (19, .int .i64 0), (66, .int .u8 k), (134, .bool (decide (k = 7)))] [u.blk])) := by
  obtain ⟨⟨f, a, ⟨nl, li, n, m, c⟩, l, d, b⟩, M, C, ⟨gn, gl, g1, g2, gc⟩, N, w, sz, tk, un, dn, i⟩ := y
  cases gn
  · cases gl
    · cases nl
      · cases li <;> kernel_rfl
      · kernel_rfl
    · cases hg
  · cases nl
    · cases li <;> kernel_rfl
    · kernel_rfl
theorem t_s154 (E : Nat → Nat → Seg) (y : Lw) (hg : y.g.gn = true)  (u : Ch) (h k : Int) : ((W E noS noL 3 ps154 false (codeOf 3 ps154) (mkT 246 (y.ts [(17, .ptr (.own y.len 0 0 0)), (18, .int .i64 h), (19, .int .i64 0), (66, .int .u8 k)]))).full ⟨hp 0 (y.bs ++ [u.blk]), (y.bs ++ [u.blk]).length, [], []⟩ leafS).take 0 (.leaf (rg 0 (y.bs ++ [u.blk]).length) 22835963083295358096932575584978898476963200900)
  = (lfL y [(17, .ptr (.own y.len 0 0 0)), (18, .int .i64 h), (19, .int .i64 0), (66, .int .u8 k), (154, .bool (decide (k = 8)))] [u.blk]) := by
  obtain ⟨⟨f, a, ⟨nl, li, n, m, c⟩, l, d, b⟩, M, C, ⟨gn, gl, g1, g2, gc⟩, N, w, sz, tk, un, dn, i⟩ := y
  cases gn
  · cases gl
    · cases nl
      · cases li <;> kernel_rfl
      · kernel_rfl
    · cases hg
  · cases nl
    · cases li <;> kernel_rfl
    · kernel_rfl
theorem t_n0 (E : Nat → Nat → Seg) (y : Lw) (hg : y.g.gn = true)  (q : Ql) : ((W E noS noL 3 pn0 false (codeOf 3 pn0) (mkT 246 (y.ts [(24, q.v y.len)]))).full ⟨hp 0 (y.bs ++ q.blk), (y.bs ++ q.blk).length, [], []⟩ leafS).take 0 (.leaf (rg 0 (y.bs ++ q.blk).length) 50462596)
  = lfL y [(24, q.v y.len), (25, .int .i64 0)] q.blk := by
  obtain ⟨qn, ql, q1, q2, qc⟩ := q
  cases qn
  · cases ql
    · obtain ⟨⟨f, a, ⟨nl, li, n, m, c⟩, l, d, b⟩, M, C, ⟨gn, gl, g1, g2, gc⟩, N, w, sz, tk, un, dn, i⟩ := y
      cases gn
      · cases gl
        · cases nl
          · cases li <;> kernel_rfl
          · kernel_rfl
        · cases hg
      · cases nl
        · cases li <;> kernel_rfl
        · kernel_rfl
    · obtain ⟨⟨f, a, ⟨nl, li, n, m, c⟩, l, d, b⟩, M, C, ⟨gn, gl, g1, g2, gc⟩, N, w, sz, tk, un, dn, i⟩ := y
      cases gn
      · cases gl
        · cases nl
          · cases li <;> kernel_rfl
          · kernel_rfl
        · cases hg
      · cases nl
        · cases li <;> kernel_rfl
        · kernel_rfl
  · obtain ⟨⟨f, a, ⟨nl, li, n, m, c⟩, l, d, b⟩, M, C, ⟨gn, gl, g1, g2, gc⟩, N, w, sz, tk, un, dn, i⟩ := y
    cases gn
    · cases gl
      · cases nl
        · cases li <;> kernel_rfl
        · kernel_rfl
      · cases hg
    · cases nl
      · cases li <;> kernel_rfl
      · kernel_rfl
theorem t_lrg (E : Nat → Nat → Seg) (y : Lw) (hg : y.g.gn = true)  (q : Ql) (k : Int) (hn : q.nil = false) (hl : q.lit = false) : ((W E noS noL 3 plr false (codeOf 3 plr) (mkT 246 (y.ts [(24, q.v y.len), (25, .int .i64 k)]))).full ⟨hp 0 (y.bs ++ q.blk), (y.bs ++ q.blk).length, [], []⟩ leafS).take 0 (.x (.n (.n (.n (.f (.leaf (rg 0 (y.bs ++ q.blk).length) 50462596))))) (.leaf (rg 0 (y.bs ++ q.blk).length) 16908164))
  = .br (decide (k < q.n)) (nR q.n q.m k (.need (ne0 y.sz) (.but (decide (ep y.sz (q.c.at (ix k)).t < y.dn)) (lfL y [(24, q.v y.len), (25, .int .i64 (wr .i64 (k + 1)))] q.blk)))) (.leaf (.exit 3, mkT 246 (y.ts [(24, q.v y.len)]), hp 0 (y.bs ++ q.blk))) := by
  obtain ⟨qn, ql, q1, q2, qc⟩ := q
  cases qn
  · cases ql
    · obtain ⟨⟨f, a, ⟨nl, li, n, m, c⟩, l, d, b⟩, M, C, ⟨gn, gl, g1, g2, gc⟩, N, w, sz, tk, un, dn, i⟩ := y
      cases gn
      · cases gl
        · cases nl
          · cases li <;> kernel_rfl
          · kernel_rfl
        · cases hg
      · cases nl
        · cases li <;> kernel_rfl
        · kernel_rfl
    · cases hl
  · cases hn
theorem t_lr0 (E : Nat → Nat → Seg) (y : Lw) (hg : y.g.gn = true)  (q : Ql) (h0 : q.g = false) : ((W E noS noL 3 plr false (codeOf 3 plr) (mkT 246 (y.ts [(24, q.v y.len), (25, .int .i64 0)]))).full ⟨hp 0 (y.bs ++ q.blk), (y.bs ++ q.blk).length, [], []⟩ leafS).take 0 (.c (.leaf (rg 0 (y.bs ++ q.blk).length) 16908164))
  = .leaf (.exit 3, mkT 246 (y.ts [(24, q.v y.len)]), hp 0 (y.bs ++ q.blk)) := by
  obtain ⟨qn, ql, q1, q2, qc⟩ := q
  cases qn
  · cases ql
    · cases h0
    · obtain ⟨⟨f, a, ⟨nl, li, n, m, c⟩, l, d, b⟩, M, C, ⟨gn, gl, g1, g2, gc⟩, N, w, sz, tk, un, dn, i⟩ := y
      cases gn
      · cases gl
        · cases nl
          · cases li <;> kernel_rfl
          · kernel_rfl
        · cases hg
      · cases nl
        · cases li <;> kernel_rfl
        · kernel_rfl
  · obtain ⟨⟨f, a, ⟨nl, li, n, m, c⟩, l, d, b⟩, M, C, ⟨gn, gl, g1, g2, gc⟩, N, w, sz, tk, un, dn, i⟩ := y
    cases gn
    · cases gl
      · cases nl
        · cases li <;> kernel_rfl
        · kernel_rfl
      · cases hg
    · cases nl
      · cases li <;> kernel_rfl
      · kernel_rfl
theorem t_Z9 (E : Nat → Nat → Seg) (y : Lw) (hg : y.g.gn = true)  (q : Ql) : ((W E noS noL 3 pZ9 false (codeOf 3 pZ9) (mkT 246 (y.ts [(24, q.v y.len)]))).full ⟨hp 0 (y.bs ++ q.blk), (y.bs ++ q.blk).length, [], []⟩ leafS).take 0 (.f (.leaf y.ids 130948))
  = .but (!decide (wr .i64 ((y.g.len : Int) + (q.len : Int)) = y.tk)) (.leaf (.normal, mkT 246 (y.ts []), hp 0 y.bs)) := by
  obtain ⟨qn, ql, q1, q2, qc⟩ := q
  cases qn
  · cases ql
    · obtain ⟨⟨f, a, ⟨nl, li, n, m, c⟩, l, d, b⟩, M, C, ⟨gn, gl, g1, g2, gc⟩, N, w, sz, tk, un, dn, i⟩ := y
      cases gn
      · cases gl
        · cases nl
          · cases li <;> kernel_rfl
          · kernel_rfl
        · cases hg
      · cases nl
        · cases li <;> kernel_rfl
        · kernel_rfl
    · obtain ⟨⟨f, a, ⟨nl, li, n, m, c⟩, l, d, b⟩, M, C, ⟨gn, gl, g1, g2, gc⟩, N, w, sz, tk, un, dn, i⟩ := y
      cases gn
      · cases gl
        · cases nl
          · cases li <;> kernel_rfl
          · kernel_rfl
        · cases hg
      · cases nl
        · cases li <;> kernel_rfl
        · kernel_rfl
  · obtain ⟨⟨f, a, ⟨nl, li, n, m, c⟩, l, d, b⟩, M, C, ⟨gn, gl, g1, g2, gc⟩, N, w, sz, tk, un, dn, i⟩ := y
    cases gn
    · cases gl
      · cases nl
        · cases li <;> kernel_rfl
        · kernel_rfl
      · cases hg
    · cases nl
      · cases li <;> kernel_rfl
      · kernel_rfl
end Go.Proofs.Ytgkejpfahpbnkaa
