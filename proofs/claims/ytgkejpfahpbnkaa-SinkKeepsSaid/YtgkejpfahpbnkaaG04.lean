/- sink: the law's loop: trees (what is chosen; Seal). -/
import Derived.Test.YtgkejpfahpbnkaaG03

set_option linter.unusedVariables false
namespace Go.Proofs.Ytgkejpfahpbnkaa
open Ab
def lf19 (y : Lw) : Tree State := .leaf (.normal, mkT 246 (y.ts [(19, .int .i64 0)]), hp 0 y.bs)
def cmT (y : Lw) (h : Int) (t : Tree State) : Tree State := .need (inL h 3) (.need (decide (h.toNat < 3)) (.br (!y.C.getD h.toNat false) t (lf19 y)))
def okT (y : Lw) (h : Int) (t : Tree State) : Tree State := .but (decide (h < 0)) (.need (eB [y.x.f.blk]) (.need (okFr y.x.f) (.but (decide ((y.x.f.n.toNat : Int) ≤ h)) (.need (eB [y.x.a.blk]) (.need (eV [pS, .int .i64 h]) (.need (okAl y.x.a) (.but (isB y.x.a.p h) t)))))))
def gwT (y : Lw) (t : Tree State) : Tree State := .need (decide ((y.x.q.n + 1) * 32 ≤ 35184372088832)) (.need (decide (0 + y.x.q.n ≤ y.x.q.m)) t)
def stS (y : Lw) (p : Bool) (t : Tree State) : Tree State := .need (eB y.x.blks) (.need (okSk y.x && p) t)
def nwS (D : CDeal Nw) (y : Lw) (q q' : Ql) (t : Tree State) : Tree State := .need (eBB (q.blk ++ [ilN y.x.f.n.toNat y.x.f.l]) (D.blks (y.nw q))) (.need (eVV [.int .i64 y.sz, .agg [q.v 0, .slice (.own (y.nw q).nq 0 0 1) y.x.f.n.toNat none, .int .i64 y.x.done, .int .i64 y.x.a.l]] (D.args (y.nw q))) (.need (D.pre (y.nw q)) t))
theorem t_recN (E : Nat → Nat → Seg) (y : Lw) (hg : y.g.gn = true) (hq : y.x.q.nil = true) (u : Ch) (h : Int) : ((W E SB noL 3 prec false (codeOf 3 prec) (mkT 246 (y.ts [(17, .ptr (.own y.len 0 0 0)), (18, .int .i64 h), (19, .int .i64 0)]))).full ⟨hp 0 (y.bs ++ [u.blk]), (y.bs ++ [u.blk]).length, [], []⟩ leafS).take 0 (.n (.n (.x (.n (.n (.c (.f (cs 5 (.n (.c (.n (.c (.c (.f (.n (.n (.n (.f (cs 6 (.leaf ([0, 1, 2, 3, 4, y.len + 7] ++ y.gi) 655236))))))))))))))))) (.leaf y.ids 655236))))
  = cmT y h (.need (inL h y.w.toNat) (.need (nL h y.w.toNat) (okT y h (lf19 (y.took (y.recr u h)))))) := by
  obtain ⟨⟨f, a, ⟨nl, li, n, m, c⟩, l, d, b⟩, M, C, ⟨gn, gl, g1, g2, gc⟩, N, w, sz, tk, un, dn, i⟩ := y
  cases nl
  · cases hq
  · cases gn
    · cases gl
      · kernel_rfl
      · cases hg
    · kernel_rfl
theorem t_sttN (E : Nat → Nat → Seg) (y : Lw) (hg : y.g.gn = true) (hq : y.x.q.nil = true) (u : Ch) : ((W E SN noL 3 pstt false (codeOf 3 pstt) (mkT 246 (y.ts [(17, .ptr (.own y.len 0 0 0)), (19, .int .i64 0)]))).full ⟨hp 0 (y.bs ++ [u.blk]), (y.bs ++ [u.blk]).length, [], []⟩ leafS).take 0 (.x (.c (.n (.c (.n (.c (.f (cs 5 (.leaf ([0, 1, 2, 3, 4, y.len + 4] ++ y.gi) 655236)))))))) (.leaf y.ids 655236))
  = .br (!y.un) (.need (eB [y.x.f.blk]) (.need (okFr y.x.f) (.but (y.x.und) (lf19 (y.took (y.sttr u)))))) (lf19 y) := by
  obtain ⟨⟨f, a, ⟨nl, li, n, m, c⟩, l, d, b⟩, M, C, ⟨gn, gl, g1, g2, gc⟩, N, w, sz, tk, un, dn, i⟩ := y
  cases nl
  · cases hq
  · cases gn
    · cases gl
      · kernel_rfl
      · cases hg
    · kernel_rfl
theorem t_mrkN (E : Nat → Nat → Seg) (y : Lw) (hg : y.g.gn = true) (hq : y.x.q.nil = true) (u : Ch) (h : Int) : ((W E SN noL 3 pmrk false (codeOf 3 pmrk) (mkT 246 (y.ts [(17, .ptr (.own y.len 0 0 0)), (18, .int .i64 h), (19, .int .i64 0)]))).full ⟨hp 0 (y.bs ++ [u.blk]), (y.bs ++ [u.blk]).length, [], []⟩ leafS).take 0 (.n (.n (.x (.n (.n (.n (.n (.c (.n (.n (.c (.n (.n (.n (.leaf y.ids 655236)))))))))))) (.leaf y.ids 655236))))
  = cmT y h (.need (inL h y.w.toNat) (.need (nL h y.w.toNat) (.need (inL h y.w.toNat) (.need (nL h y.w.toNat) (.need (inL h y.w.toNat) (.need (nL h y.w.toNat) (.need (eB y.x.blks) (.need (eV (tmD.args ⟨y.x, h, tg (y.mk1 u h) h, 1⟩)) (.need (tmD.pre ⟨y.x, h, tg (y.mk1 u h) h, 1⟩) (lf19 (y.mark u h))))))))))) := by
  obtain ⟨⟨f, a, ⟨nl, li, n, m, c⟩, l, d, b⟩, M, C, ⟨gn, gl, g1, g2, gc⟩, N, w, sz, tk, un, dn, i⟩ := y
  cases nl
  · cases hq
  · cases gn
    · cases gl
      · kernel_rfl
      · cases hg
    · kernel_rfl
theorem t_begN (E : Nat → Nat → Seg) (y : Lw) (hg : y.g.gn = true) (hq : y.x.q.nil = true) : ((W E SN noL 3 pbeg false (codeOf 3 pbeg) (mkT 246 (y.ts [(19, .int .i64 0)]))).full ⟨hp 0 (y.bs), y.len, [], []⟩ leafS).take 0 (.x (.c (.n (.c (.n (.n (.n (.n (.leaf y.ids 655236)))))))) (.leaf y.ids 655236))
  = .br (!y.un) (stS y y.x.q.full (.need (eB y.x.blks) (.need (eV [pS, .int .i64 (wr .i64 (y.x.a.l + 1))]) (.need (beginD.pre ⟨y.x, wr .i64 (y.x.a.l + 1), 0, 0⟩) (lf19 y.beg))))) (lf19 y) := by
  obtain ⟨⟨f, a, ⟨nl, li, n, m, c⟩, l, d, b⟩, M, C, ⟨gn, gl, g1, g2, gc⟩, N, w, sz, tk, un, dn, i⟩ := y
  cases nl
  · cases hq
  · cases gn
    · cases gl
      · kernel_rfl
      · cases hg
    · kernel_rfl
theorem t_barN (E : Nat → Nat → Seg) (y : Lw) (hg : y.g.gn = true) (hq : y.x.q.nil = true) (h : Int) : ((W E SN noL 3 pbar false (codeOf 3 pbar) (mkT 246 (y.ts [(18, .int .i64 h), (19, .int .i64 0)]))).full ⟨hp 0 (y.bs), y.len, [], []⟩ leafS).take 0 (.x (.c (.n (.c (.n (.c (.x (.c (.n (.c (.n (.c (.n (.n (.n (.n (.n (.leaf y.ids 655236))))))))))) (.leaf y.ids 655236))))))) (cs 5 (.leaf y.ids 655236)))
  = .br y.un (cmT y h (stS y y.x.q.full (.need (eB y.x.blks) (.need (eV (tbD.args ⟨y.x, h, wr .i64 (y.x.a.l + 1), 2⟩)) (.need (tbD.pre ⟨y.x, h, wr .i64 (y.x.a.l + 1), 2⟩) (.need (inL h 3) (.need (decide (h.toNat < 3)) (lf19 (y.bar h))))))))) (lf19 y) := by
  obtain ⟨⟨f, a, ⟨nl, li, n, m, c⟩, l, d, b⟩, M, C, ⟨gn, gl, g1, g2, gc⟩, N, w, sz, tk, un, dn, i⟩ := y
  cases nl
  · cases hq
  · cases gn
    · cases gl
      · kernel_rfl
      · cases hg
    · kernel_rfl
theorem t_nwwN (E : Nat → Nat → Seg) (y : Lw) (hg : y.g.gn = true) (hq : y.x.q.nil = true) : ((W E SN noL 3 pnww false (codeOf 3 pnww) (mkT 246 (y.ts [(19, .int .i64 0)]))).full ⟨hp 0 (y.bs), y.len, [], []⟩ leafS).take 0 (.x (.c (.n (.c (.n (.c (.n (.n (.n (.c (.leaf ([y.len + 3, y.len + 1, y.len + 2, 3, 4] ++ y.gi) 655236)))))))))) (.c (.leaf y.ids 655236)))
  = .br (!y.un) (stS y y.x.q.full (nwS nwG y nilQ nilQ (lf19 (y.anew nilQ)))) (lf19 y) := by
  obtain ⟨⟨f, a, ⟨nl, li, n, m, c⟩, l, d, b⟩, M, C, ⟨gn, gl, g1, g2, gc⟩, N, w, sz, tk, un, dn, i⟩ := y
  cases nl
  · cases hq
  · cases gn
    · cases gl
      · kernel_rfl
      · cases hg
    · kernel_rfl
theorem t_Z7N (E : Nat → Nat → Seg) (y : Lw) (hg : y.g.gn = true) (hq : y.x.q.nil = true) : ((W E SN noL 3 pZ7 false (codeOf 3 pZ7) (mkT 246 (y.ts []))).full ⟨hp 0 (y.bs), y.len, [], []⟩ leafS).take 0 (.c (.n (.c (.n (.leaf (rg 0 y.len) 16908164)))))
  = (stS y y.x.q.full (.leaf (.normal, mkT 246 (y.ts [(24, y.x.q.srt.v y.len)]), hp 0 (y.bs ++ y.x.q.srt.blk)))) := by
  obtain ⟨⟨f, a, ⟨nl, li, n, m, c⟩, l, d, b⟩, M, C, ⟨gn, gl, g1, g2, gc⟩, N, w, sz, tk, un, dn, i⟩ := y
  cases nl
  · cases hq
  · cases gn
    · cases gl
      · kernel_rfl
      · cases hg
    · kernel_rfl
theorem t_recL (E : Nat → Nat → Seg) (y : Lw) (hg : y.g.gn = true) (hn : y.x.q.nil = false) (hl : y.x.q.lit = true) (u : Ch) (h : Int) : ((W E SB noL 3 prec false (codeOf 3 prec) (mkT 246 (y.ts [(17, .ptr (.own y.len 0 0 0)), (18, .int .i64 h), (19, .int .i64 0)]))).full ⟨hp 0 (y.bs ++ [u.blk]), (y.bs ++ [u.blk]).length, [], []⟩ leafS).take 0 (.n (.n (.x (.n (.n (.c (.f (cs 5 (.n (.c (.n (.c (.c (.f (.n (.n (.n (.f (cs 7 (.leaf ([0, 1, 2, 3, 4, y.len + 7] ++ y.gi) 655236))))))))))))))))) (.leaf y.ids 655236))))
  = cmT y h (.need (inL h y.w.toNat) (.need (nL h y.w.toNat) (okT y h (lf19 (y.took (y.recr u h)))))) := by
  obtain ⟨⟨f, a, ⟨nl, li, n, m, c⟩, l, d, b⟩, M, C, ⟨gn, gl, g1, g2, gc⟩, N, w, sz, tk, un, dn, i⟩ := y
  cases nl
  · cases li
    · cases hl
    · cases gn
      · cases gl
        · kernel_rfl
        · cases hg
      · kernel_rfl
  · cases hn
theorem t_sttL (E : Nat → Nat → Seg) (y : Lw) (hg : y.g.gn = true) (hn : y.x.q.nil = false) (hl : y.x.q.lit = true) (u : Ch) : ((W E SN noL 3 pstt false (codeOf 3 pstt) (mkT 246 (y.ts [(17, .ptr (.own y.len 0 0 0)), (19, .int .i64 0)]))).full ⟨hp 0 (y.bs ++ [u.blk]), (y.bs ++ [u.blk]).length, [], []⟩ leafS).take 0 (.x (.c (.n (.c (.n (.c (.f (cs 6 (.leaf ([0, 1, 2, 3, 4, y.len + 4] ++ y.gi) 655236)))))))) (.leaf y.ids 655236))
  = .br (!y.un) (.need (eB [y.x.f.blk]) (.need (okFr y.x.f) (.but (y.x.und) (lf19 (y.took (y.sttr u)))))) (lf19 y) := by
  obtain ⟨⟨f, a, ⟨nl, li, n, m, c⟩, l, d, b⟩, M, C, ⟨gn, gl, g1, g2, gc⟩, N, w, sz, tk, un, dn, i⟩ := y
  cases nl
  · cases li
    · cases hl
    · cases gn
      · cases gl
        · kernel_rfl
        · cases hg
      · kernel_rfl
  · cases hn
theorem t_mrkL (E : Nat → Nat → Seg) (y : Lw) (hg : y.g.gn = true) (hn : y.x.q.nil = false) (hl : y.x.q.lit = true) (u : Ch) (h : Int) : ((W E SN noL 3 pmrk false (codeOf 3 pmrk) (mkT 246 (y.ts [(17, .ptr (.own y.len 0 0 0)), (18, .int .i64 h), (19, .int .i64 0)]))).full ⟨hp 0 (y.bs ++ [u.blk]), (y.bs ++ [u.blk]).length, [], []⟩ leafS).take 0 (.n (.n (.x (.n (.n (.n (.n (.c (.n (.n (.c (.n (.n (.n (.leaf y.ids 655236)))))))))))) (.leaf y.ids 655236))))
  = cmT y h (.need (inL h y.w.toNat) (.need (nL h y.w.toNat) (.need (inL h y.w.toNat) (.need (nL h y.w.toNat) (.need (inL h y.w.toNat) (.need (nL h y.w.toNat) (.need (eB y.x.blks) (.need (eV (tmD.args ⟨y.x, h, tg (y.mk1 u h) h, 1⟩)) (.need (tmD.pre ⟨y.x, h, tg (y.mk1 u h) h, 1⟩) (lf19 (y.mark u h))))))))))) := by
  obtain ⟨⟨f, a, ⟨nl, li, n, m, c⟩, l, d, b⟩, M, C, ⟨gn, gl, g1, g2, gc⟩, N, w, sz, tk, un, dn, i⟩ := y
  cases nl
  · cases li
    · cases hl
    · cases gn
      · cases gl
        · kernel_rfl
        · cases hg
      · kernel_rfl
  · cases hn
theorem t_begL (E : Nat → Nat → Seg) (y : Lw) (hg : y.g.gn = true) (hn : y.x.q.nil = false) (hl : y.x.q.lit = true) : ((W E SN noL 3 pbeg false (codeOf 3 pbeg) (mkT 246 (y.ts [(19, .int .i64 0)]))).full ⟨hp 0 (y.bs), y.len, [], []⟩ leafS).take 0 (.x (.c (.n (.c (.n (.n (.n (.n (.leaf y.ids 655236)))))))) (.leaf y.ids 655236))
  = .br (!y.un) (stS y y.x.q.e1 (.need (eB y.x.blks) (.need (eV [pS, .int .i64 (wr .i64 (y.x.a.l + 1))]) (.need (beginD.pre ⟨y.x, wr .i64 (y.x.a.l + 1), 0, 0⟩) (lf19 y.beg))))) (lf19 y) := by
  obtain ⟨⟨f, a, ⟨nl, li, n, m, c⟩, l, d, b⟩, M, C, ⟨gn, gl, g1, g2, gc⟩, N, w, sz, tk, un, dn, i⟩ := y
  cases nl
  · cases li
    · cases hl
    · cases gn
      · cases gl
        · kernel_rfl
        · cases hg
      · kernel_rfl
  · cases hn
theorem t_barL (E : Nat → Nat → Seg) (y : Lw) (hg : y.g.gn = true) (hn : y.x.q.nil = false) (hl : y.x.q.lit = true) (h : Int) : ((W E SN noL 3 pbar false (codeOf 3 pbar) (mkT 246 (y.ts [(18, .int .i64 h), (19, .int .i64 0)]))).full ⟨hp 0 (y.bs), y.len, [], []⟩ leafS).take 0 (.x (.c (.n (.c (.n (.c (.x (.c (.n (.c (.n (.c (.n (.n (.n (.n (.n (.leaf y.ids 655236))))))))))) (.leaf y.ids 655236))))))) (cs 5 (.leaf y.ids 655236)))
  = .br y.un (cmT y h (stS y y.x.q.e1 (.need (eB y.x.blks) (.need (eV (tbD.args ⟨y.x, h, wr .i64 (y.x.a.l + 1), 2⟩)) (.need (tbD.pre ⟨y.x, h, wr .i64 (y.x.a.l + 1), 2⟩) (.need (inL h 3) (.need (decide (h.toNat < 3)) (lf19 (y.bar h))))))))) (lf19 y) := by
  obtain ⟨⟨f, a, ⟨nl, li, n, m, c⟩, l, d, b⟩, M, C, ⟨gn, gl, g1, g2, gc⟩, N, w, sz, tk, un, dn, i⟩ := y
  cases nl
  · cases li
    · cases hl
    · cases gn
      · cases gl
        · kernel_rfl
        · cases hg
      · kernel_rfl
  · cases hn
theorem t_nwwL (E : Nat → Nat → Seg) (y : Lw) (hg : y.g.gn = true) (hn : y.x.q.nil = false) (hl : y.x.q.lit = true) : ((W E SN noL 3 pnww false (codeOf 3 pnww) (mkT 246 (y.ts [(19, .int .i64 0)]))).full ⟨hp 0 (y.bs), y.len, [], []⟩ leafS).take 0 (.x (.c (.n (.c (.n (.c (.n (.n (.n (.c (.leaf ([y.len + 5, y.len + 2, y.len + 3, 3, 4] ++ [y.len + 4] ++ y.gi) 655236)))))))))) (.c (.leaf y.ids 655236)))
  = .br (!y.un) (stS y y.x.q.e1 (nwS nwE y litQ litQ (lf19 (y.anew litQ)))) (lf19 y) := by
  obtain ⟨⟨f, a, ⟨nl, li, n, m, c⟩, l, d, b⟩, M, C, ⟨gn, gl, g1, g2, gc⟩, N, w, sz, tk, un, dn, i⟩ := y
  cases nl
  · cases li
    · cases hl
    · cases gn
      · cases gl
        · kernel_rfl
        · cases hg
      · kernel_rfl
  · cases hn
theorem t_Z7L (E : Nat → Nat → Seg) (y : Lw) (hg : y.g.gn = true) (hn : y.x.q.nil = false) (hl : y.x.q.lit = true) : ((W E SN noL 3 pZ7 false (codeOf 3 pZ7) (mkT 246 (y.ts []))).full ⟨hp 0 (y.bs), y.len, [], []⟩ leafS).take 0 (.c (.n (.c (.n (.leaf (rg 0 (y.len + 1)) 16908164)))))
  = (stS y y.x.q.e1 (.leaf (.normal, mkT 246 (y.ts [(24, litQ.v y.len)]), hp 0 (y.bs ++ litQ.blk)))) := by
  obtain ⟨⟨f, a, ⟨nl, li, n, m, c⟩, l, d, b⟩, M, C, ⟨gn, gl, g1, g2, gc⟩, N, w, sz, tk, un, dn, i⟩ := y
  cases nl
  · cases li
    · cases hl
    · cases gn
      · cases gl
        · kernel_rfl
        · cases hg
      · kernel_rfl
  · cases hn
theorem t_recG (E : Nat → Nat → Seg) (y : Lw) (hg : y.g.gn = true) (hn : y.x.q.nil = false) (hl : y.x.q.lit = false) (u : Ch) (h : Int) : ((W E SB noL 3 prec false (codeOf 3 prec) (mkT 246 (y.ts [(17, .ptr (.own y.len 0 0 0)), (18, .int .i64 h), (19, .int .i64 0)]))).full ⟨hp 0 (y.bs ++ [u.blk]), (y.bs ++ [u.blk]).length, [], []⟩ leafS).take 0 (.n (.n (.x (.n (.n (.c (.f (cs 5 (.n (.c (.n (.c (.c (.f (.n (.n (.n (.f (.c (.n (.n (cs 4 (.leaf ([0, 1, 2, 3, 4, y.len + 7] ++ y.gi) 655236)))))))))))))))))))) (.leaf y.ids 655236))))
  = cmT y h (.need (inL h y.w.toNat) (.need (nL h y.w.toNat) (okT y h (gwT y (lf19 (y.took (y.recr u h))))))) := by
  obtain ⟨⟨f, a, ⟨nl, li, n, m, c⟩, l, d, b⟩, M, C, ⟨gn, gl, g1, g2, gc⟩, N, w, sz, tk, un, dn, i⟩ := y
  cases nl
  · cases li
    · cases gn
      · cases gl
        · kernel_rfl
        · cases hg
      · kernel_rfl
    · cases hl
  · cases hn
theorem t_sttG (E : Nat → Nat → Seg) (y : Lw) (hg : y.g.gn = true) (hn : y.x.q.nil = false) (hl : y.x.q.lit = false) (u : Ch) : ((W E SN noL 3 pstt false (codeOf 3 pstt) (mkT 246 (y.ts [(17, .ptr (.own y.len 0 0 0)), (19, .int .i64 0)]))).full ⟨hp 0 (y.bs ++ [u.blk]), (y.bs ++ [u.blk]).length, [], []⟩ leafS).take 0 (.x (.c (.n (.c (.n (.c (.f (.n (.n (cs 4 (.leaf ([0, 1, 2, 3, 4, y.len + 4] ++ y.gi) 655236)))))))))) (.leaf y.ids 655236))
  = .br (!y.un) (.need (eB [y.x.f.blk]) (.need (okFr y.x.f) (.but (y.x.und) (gwT y (lf19 (y.took (y.sttr u))))))) (lf19 y) := by
  obtain ⟨⟨f, a, ⟨nl, li, n, m, c⟩, l, d, b⟩, M, C, ⟨gn, gl, g1, g2, gc⟩, N, w, sz, tk, un, dn, i⟩ := y
  cases nl
  · cases li
    · cases gn
      · cases gl
        · kernel_rfl
        · cases hg
      · kernel_rfl
    · cases hl
  · cases hn
theorem t_mrkG (E : Nat → Nat → Seg) (y : Lw) (hg : y.g.gn = true) (hn : y.x.q.nil = false) (hl : y.x.q.lit = false) (u : Ch) (h : Int) : ((W E SN noL 3 pmrk false (codeOf 3 pmrk) (mkT 246 (y.ts [(17, .ptr (.own y.len 0 0 0)), (18, .int .i64 h), (19, .int .i64 0)]))).full ⟨hp 0 (y.bs ++ [u.blk]), (y.bs ++ [u.blk]).length, [], []⟩ leafS).take 0 (.n (.n (.x (.n (.n (.n (.n (.c (.n (.n (.c (.n (.n (.n (.leaf y.ids 655236)))))))))))) (.leaf y.ids 655236))))
  = cmT y h (.need (inL h y.w.toNat) (.need (nL h y.w.toNat) (.need (inL h y.w.toNat) (.need (nL h y.w.toNat) (.need (inL h y.w.toNat) (.need (nL h y.w.toNat) (.need (eB y.x.blks) (.need (eV (tmD.args ⟨y.x, h, tg (y.mk1 u h) h, 1⟩)) (.need (tmD.pre ⟨y.x, h, tg (y.mk1 u h) h, 1⟩) (lf19 (y.mark u h))))))))))) := by
  obtain ⟨⟨f, a, ⟨nl, li, n, m, c⟩, l, d, b⟩, M, C, ⟨gn, gl, g1, g2, gc⟩, N, w, sz, tk, un, dn, i⟩ := y
  cases nl
  · cases li
    · cases gn
      · cases gl
        · kernel_rfl
        · cases hg
      · kernel_rfl
    · cases hl
  · cases hn
theorem t_begG (E : Nat → Nat → Seg) (y : Lw) (hg : y.g.gn = true) (hn : y.x.q.nil = false) (hl : y.x.q.lit = false) : ((W E SN noL 3 pbeg false (codeOf 3 pbeg) (mkT 246 (y.ts [(19, .int .i64 0)]))).full ⟨hp 0 (y.bs), y.len, [], []⟩ leafS).take 0 (.x (.x (.n (.c (.n (.n (.n (.n (.leaf y.ids 655236))))))) (.n (.c (.n (.n (.n (.n (.leaf y.ids 655236)))))))) (.leaf y.ids 655236))
  = .br (!y.un) (.br y.x.q.e1 (stS y y.x.q.e1 (.need (eB y.x.blks) (.need (eV [pS, .int .i64 (wr .i64 (y.x.a.l + 1))]) (.need (beginD.pre ⟨y.x, wr .i64 (y.x.a.l + 1), 0, 0⟩) (lf19 y.beg))))) (stS y y.x.q.full (.need (eB y.x.blks) (.need (eV [pS, .int .i64 (wr .i64 (y.x.a.l + 1))]) (.need (beginD.pre ⟨y.x, wr .i64 (y.x.a.l + 1), 0, 0⟩) (lf19 y.beg)))))) (lf19 y) := by
  obtain ⟨⟨f, a, ⟨nl, li, n, m, c⟩, l, d, b⟩, M, C, ⟨gn, gl, g1, g2, gc⟩, N, w, sz, tk, un, dn, i⟩ := y
  cases nl
  · cases li
    · cases gn
      · cases gl
        · kernel_rfl
        · cases hg
      · kernel_rfl
    · cases hl
  · cases hn
theorem t_barG (E : Nat → Nat → Seg) (y : Lw) (hg : y.g.gn = true) (hn : y.x.q.nil = false) (hl : y.x.q.lit = false) (h : Int) : ((W E SN noL 3 pbar false (codeOf 3 pbar) (mkT 246 (y.ts [(18, .int .i64 h), (19, .int .i64 0)]))).full ⟨hp 0 (y.bs), y.len, [], []⟩ leafS).take 0 (.x (.c (.n (.c (.n (.c (.x (.x (.n (.c (.n (.c (.n (.n (.n (.n (.n (.leaf y.ids 655236)))))))))) (.n (.c (.n (.c (.n (.n (.n (.n (.n (.leaf y.ids 655236))))))))))) (.leaf y.ids 655236))))))) (cs 5 (.leaf y.ids 655236)))
  = .br y.un (cmT y h (.br y.x.q.e1 (stS y y.x.q.e1 (.need (eB y.x.blks) (.need (eV (tbD.args ⟨y.x, h, wr .i64 (y.x.a.l + 1), 2⟩)) (.need (tbD.pre ⟨y.x, h, wr .i64 (y.x.a.l + 1), 2⟩) (.need (inL h 3) (.need (decide (h.toNat < 3)) (lf19 (y.bar h)))))))) (stS y y.x.q.full (.need (eB y.x.blks) (.need (eV (tbD.args ⟨y.x, h, wr .i64 (y.x.a.l + 1), 2⟩)) (.need (tbD.pre ⟨y.x, h, wr .i64 (y.x.a.l + 1), 2⟩) (.need (inL h 3) (.need (decide (h.toNat < 3)) (lf19 (y.bar h)))))))))) (lf19 y) := by
  obtain ⟨⟨f, a, ⟨nl, li, n, m, c⟩, l, d, b⟩, M, C, ⟨gn, gl, g1, g2, gc⟩, N, w, sz, tk, un, dn, i⟩ := y
  cases nl
  · cases li
    · cases gn
      · cases gl
        · kernel_rfl
        · cases hg
      · kernel_rfl
    · cases hl
  · cases hn
theorem t_nwwG (E : Nat → Nat → Seg) (y : Lw) (hg : y.g.gn = true) (hn : y.x.q.nil = false) (hl : y.x.q.lit = false) : ((W E SN noL 3 pnww false (codeOf 3 pnww) (mkT 246 (y.ts [(19, .int .i64 0)]))).full ⟨hp 0 (y.bs), y.len, [], []⟩ leafS).take 0 (.x (.x (.n (.c (.n (.c (.n (.n (.n (.c (.leaf ([y.len + 5, y.len + 2, y.len + 3, 3, 4] ++ [y.len + 4] ++ y.gi) 655236))))))))) (.n (.c (.n (.f (.n (.n (.n (.c (.leaf ([y.len + 5, y.len + 2, y.len + 3, 3, 4] ++ [y.len + 4] ++ y.gi) 655236)))))))))) (.c (.leaf y.ids 655236)))
  = .br (!y.un) (.br y.x.q.e1 (stS y y.x.q.e1 (nwS nwE y litQ litQ (lf19 (y.anew litQ)))) (stS y y.x.q.full (.but y.x.q.srt.e1 (nwS nwG y y.x.q.srt y.x.q.srt (lf19 { y with x := (y.nw y.x.q.srt).sk y.x.q.srt.cln }))))) (lf19 y) := by
  obtain ⟨⟨f, a, ⟨nl, li, n, m, c⟩, l, d, b⟩, M, C, ⟨gn, gl, g1, g2, gc⟩, N, w, sz, tk, un, dn, i⟩ := y
  cases nl
  · cases li
    · cases gn
      · cases gl
        · kernel_rfl
        · cases hg
      · kernel_rfl
    · cases hl
  · cases hn
theorem t_Z7G (E : Nat → Nat → Seg) (y : Lw) (hg : y.g.gn = true) (hn : y.x.q.nil = false) (hl : y.x.q.lit = false) : ((W E SN noL 3 pZ7 false (codeOf 3 pZ7) (mkT 246 (y.ts []))).full ⟨hp 0 (y.bs), y.len, [], []⟩ leafS).take 0 (.x (.n (.c (.n (.leaf (rg 0 (y.len + 1)) 16908164)))) (.n (.c (.n (.leaf (rg 0 (y.len + 1)) 16908164)))))
  = (.br y.x.q.e1 (stS y y.x.q.e1 (.leaf (.normal, mkT 246 (y.ts [(24, litQ.v y.len)]), hp 0 (y.bs ++ litQ.blk)))) (stS y y.x.q.full (.leaf (.normal, mkT 246 (y.ts [(24, y.x.q.srt.v y.len)]), hp 0 (y.bs ++ y.x.q.srt.blk))))) := by
  obtain ⟨⟨f, a, ⟨nl, li, n, m, c⟩, l, d, b⟩, M, C, ⟨gn, gl, g1, g2, gc⟩, N, w, sz, tk, un, dn, i⟩ := y
  cases nl
  · cases li
    · cases gn
      · cases gl
        · kernel_rfl
        · cases hg
      · kernel_rfl
    · cases hl
  · cases hn
end Go.Proofs.Ytgkejpfahpbnkaa
