/- sink: the law's loop: trees (Seal). -/
import Derived.Test.YtgkejpfahpbnkaaG04

set_option linter.unusedVariables false
namespace Go.Proofs.Ytgkejpfahpbnkaa
open Ab
def lfN (y : Lw) : Tree State := .leaf (.normal, mkT 246 (y.ts []), hp 0 y.bs)
def Lw.sx (y : Lw) (r : Ql) : Sx2 := ⟨y.x.se r, y.sz⟩
def rcQ (y : Lw) : Ql := Ql.gr (isort y.x.goL)
def z6E (y : Lw) (t : Tree State) : Tree State := .need (eB y.x.blks) (.need (okSe y.x && y.x.goL.isEmpty) (.but (!decide (y.x.done = y.dn)) (.but (decide (y.x.over < y.dn)) (.need (eV (sealedD.args (y.sx nilQ))) (.need (okS2 (y.sx nilQ)) t)))))
def z6G (y : Lw) (t : Tree State) : Tree State := .need (eB y.x.blks) (.need (okSe y.x && !y.x.goL.isEmpty) (.but (!decide (y.x.done = y.dn)) (.but (decide (y.x.over < y.dn)) (.need (eB (rcQ y).blk) (.need (eV (sealedD.args (y.sx (rcQ y)))) (.need (okS2 (y.sx (rcQ y))) t))))))
theorem t_Z6Nn (E : Nat → Nat → Seg) (y : Lw) (hg : y.g.gn = true) (hq : y.x.q.nil = true) (Gn : y.g.nil = true) : ((W E SN noL 3 pZ6 false (codeOf 3 pZ6) (mkT 246 (y.ts []))).full ⟨hp 0 (y.bs), y.len, [], []⟩ leafS).take 0 (.n (.c (.n (.x (.c (.n (.c (.n (cs 4 (.f (.c (.c (.c (.f (.c (.c (.c (.n (.n (.c (.c (.c (.leaf ([0, 1, 2, 3, 4] ++ []) 130948))))))))))))))))))) (.leaf y.ids 130948)))))
  = .need (eB y.x.blks) (.need (okSk y.x) (.br y.x.rdy (z6E y (lfN (y.sealed nilQ))) (lfN y))) := by
  obtain ⟨⟨f, a, ⟨nl, li, n, m, c⟩, l, d, b⟩, M, C, ⟨gn, gl, g1, g2, gc⟩, N, w, sz, tk, un, dn, i⟩ := y
  cases nl
  · cases hq
  · cases gn
    · cases Gn
    · kernel_rfl
theorem t_Z6Ng (E : Nat → Nat → Seg) (y : Lw) (hg : y.g.gn = true) (hq : y.x.q.nil = true) (Gn : y.g.nil = false) (Gl : y.g.lit = false) : ((W E SN noL 3 pZ6 false (codeOf 3 pZ6) (mkT 246 (y.ts []))).full ⟨hp 0 (y.bs), y.len, [], []⟩ leafS).take 0 (.n (.c (.n (.x (.c (.n (.c (.n (cs 4 (.f (.c (.c (.c (.f (.c (.c (.c (.n (.n (.c (.c (.n (.n (.c (.leaf ([0, 1, 2, 3, 4] ++ [y.len + 1]) 130948))))))))))))))))))))) (.leaf y.ids 130948)))))
  = .need (eB y.x.blks) (.need (okSk y.x) (.br y.x.rdy (z6E y (.need (decide ((y.g.n + 0) * 32 ≤ 35184372088832)) (.need (decide (0 + y.g.n ≤ y.g.m)) (lfN (y.sealed nilQ))))) (lfN y))) := by
  obtain ⟨⟨f, a, ⟨nl, li, n, m, c⟩, l, d, b⟩, M, C, ⟨gn, gl, g1, g2, gc⟩, N, w, sz, tk, un, dn, i⟩ := y
  cases nl
  · cases hq
  · cases gn
    · cases gl
      · kernel_rfl
      · cases Gl
    · cases Gn
theorem t_Z6Ln (E : Nat → Nat → Seg) (y : Lw) (hg : y.g.gn = true) (hn : y.x.q.nil = false) (hl : y.x.q.lit = true) (Gn : y.g.nil = true) : ((W E SN noL 3 pZ6 false (codeOf 3 pZ6) (mkT 246 (y.ts []))).full ⟨hp 0 (y.bs), y.len, [], []⟩ leafS).take 0 (.n (.c (.n (.x (.c (.n (.c (.n (cs 4 (.f (.c (.c (.c (.f (.c (.c (.c (.n (.n (.c (.c (.c (.leaf ([0, 1, 2, 3, 4, 5] ++ []) 130948))))))))))))))))))) (.leaf y.ids 130948)))))
  = .need (eB y.x.blks) (.need (okSk y.x) (.br y.x.rdy (z6E y (lfN (y.sealed nilQ))) (lfN y))) := by
  obtain ⟨⟨f, a, ⟨nl, li, n, m, c⟩, l, d, b⟩, M, C, ⟨gn, gl, g1, g2, gc⟩, N, w, sz, tk, un, dn, i⟩ := y
  cases nl
  · cases li
    · cases hl
    · cases gn
      · cases Gn
      · kernel_rfl
  · cases hn
theorem t_Z6Lg (E : Nat → Nat → Seg) (y : Lw) (hg : y.g.gn = true) (hn : y.x.q.nil = false) (hl : y.x.q.lit = true) (Gn : y.g.nil = false) (Gl : y.g.lit = false) : ((W E SN noL 3 pZ6 false (codeOf 3 pZ6) (mkT 246 (y.ts []))).full ⟨hp 0 (y.bs), y.len, [], []⟩ leafS).take 0 (.n (.c (.n (.x (.c (.n (.c (.n (cs 4 (.f (.c (.c (.c (.f (.c (.c (.c (.n (.n (.c (.c (.n (.n (.c (.leaf ([0, 1, 2, 3, 4, 5] ++ [y.len + 1]) 130948))))))))))))))))))))) (.leaf y.ids 130948)))))
  = .need (eB y.x.blks) (.need (okSk y.x) (.br y.x.rdy (z6E y (.need (decide ((y.g.n + 0) * 32 ≤ 35184372088832)) (.need (decide (0 + y.g.n ≤ y.g.m)) (lfN (y.sealed nilQ))))) (lfN y))) := by
  obtain ⟨⟨f, a, ⟨nl, li, n, m, c⟩, l, d, b⟩, M, C, ⟨gn, gl, g1, g2, gc⟩, N, w, sz, tk, un, dn, i⟩ := y
  cases nl
  · cases li
    · cases hl
    · cases gn
      · cases gl
        · kernel_rfl
        · cases Gl
      · cases Gn
  · cases hn
theorem t_Z6Gn (E : Nat → Nat → Seg) (y : Lw) (hg : y.g.gn = true) (hn : y.x.q.nil = false) (hl : y.x.q.lit = false) (Gn : y.g.nil = true) : ((W E SN noL 3 pZ6 false (codeOf 3 pZ6) (mkT 246 (y.ts []))).full ⟨hp 0 (y.bs), y.len, [], []⟩ leafS).take 0 (.n (.c (.n (.x (.x (.n (.c (.n (cs 4 (.f (.c (.c (.c (.f (.c (.c (.c (.n (.n (.c (.c (.c (.leaf ([0, 1, 2, 3, 4, 5] ++ []) 130948)))))))))))))))))) (.n (.c (.n (cs 4 (.f (.c (.c (.c (.f (.c (.c (.n (.n (.n (.c (.c (.f (.n (.n (.leaf ([0, 1, 2, 3, 4, 5] ++ [y.len + 2]) 130948))))))))))))))))))))) (.leaf y.ids 130948)))))
  = .need (eB y.x.blks) (.need (okSk y.x) (.br y.x.rdy (.br y.x.goL.isEmpty (z6E y (lfN (y.sealed nilQ))) (z6G y (.but (Nat.beq (isort y.x.goL).length 0) (.need (decide ((isort y.x.goL).length * 32 ≤ 35184372088832)) (.need (decide (0 + (isort y.x.goL).length ≤ (isort y.x.goL).length)) (lfN (y.sealed (rcQ y)))))))) (lfN y))) := by
  obtain ⟨⟨f, a, ⟨nl, li, n, m, c⟩, l, d, b⟩, M, C, ⟨gn, gl, g1, g2, gc⟩, N, w, sz, tk, un, dn, i⟩ := y
  cases nl
  · cases li
    · cases gn
      · cases Gn
      · kernel_rfl
    · cases hl
  · cases hn
theorem t_Z6Gg (E : Nat → Nat → Seg) (y : Lw) (hg : y.g.gn = true) (hn : y.x.q.nil = false) (hl : y.x.q.lit = false) (Gn : y.g.nil = false) (Gl : y.g.lit = false) : ((W E SN noL 3 pZ6 false (codeOf 3 pZ6) (mkT 246 (y.ts []))).full ⟨hp 0 (y.bs), y.len, [], []⟩ leafS).take 0 (.n (.c (.n (.x (.x (.n (.c (.n (cs 4 (.f (.c (.c (.c (.f (.c (.c (.c (.n (.n (.c (.c (.n (.n (.c (.leaf ([0, 1, 2, 3, 4, 5] ++ [y.len + 1]) 130948)))))))))))))))))))) (.n (.c (.n (cs 4 (.f (.c (.c (.c (.f (.c (.c (.n (.n (.n (.c (.c (.n (.n (.n (.c (.leaf ([0, 1, 2, 3, 4, 5] ++ [y.len + 2]) 130948)))))))))))))))))))))) (.leaf y.ids 130948)))))
  = .need (eB y.x.blks) (.need (okSk y.x) (.br y.x.rdy (.br y.x.goL.isEmpty (z6E y (.need (decide ((y.g.n + 0) * 32 ≤ 35184372088832)) (.need (decide (0 + y.g.n ≤ y.g.m)) (lfN (y.sealed nilQ))))) (z6G y (.need (decide ((y.g.n + (isort y.x.goL).length) * 32 ≤ 35184372088832)) (.need (decide (0 + y.g.n ≤ y.g.m)) (.need (decide (0 + (isort y.x.goL).length ≤ (isort y.x.goL).length)) (lfN (y.sealed (rcQ y)))))))) (lfN y))) := by
  obtain ⟨⟨f, a, ⟨nl, li, n, m, c⟩, l, d, b⟩, M, C, ⟨gn, gl, g1, g2, gc⟩, N, w, sz, tk, un, dn, i⟩ := y
  cases nl
  · cases li
    · cases gn
      · cases gl
        · kernel_rfl
        · cases Gl
      · cases Gn
    · cases hl
  · cases hn
end Go.Proofs.Ytgkejpfahpbnkaa
