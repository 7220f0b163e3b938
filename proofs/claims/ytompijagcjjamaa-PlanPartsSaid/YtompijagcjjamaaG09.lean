/- plan: the law's loops, as trees, for any shape. -/
import Derived.Test.YtompijagcjjamaaG08

set_option linter.unusedVariables false
namespace Go.Proofs.Ytompijagcjjamaa
open Ab
def meTs (l : Cs) (i : Int) : Tmps := mkT 230 [(6, .slice (.own 0 0 0 4) l.k.length none), (13, .ptr (.own 1 0 0 0)), (16, .slice (.own 2 0 0 4) l.k.length none), (17, .int .i64 i)]
theorem me_tree (h : Sh) (E : Nat → Nat → Seg) (l : Cs) (c : Pc) (i : Int) : ((W E noS noL 3 (false :: qE) false (codeOf 3 (false :: qE)) (meTs l i)).full ⟨hp 0 ((eD h).blks ⟨l, c⟩), ((eD h).blks ⟨l, c⟩).length, [], []⟩ leafS).take 0 (.x (.n (.n (.n (.n (.c (.f (.leaf (rg 0 (3 + h.n)) 204864))))))) (.leaf (1 :: rg 3 h.n) 8192)) =
  .br (decide (i < (l.k.length : Int))) (.need (inL i l.k.length) (.need (nL i l.k.length) (.need (inL i l.k.length) (.need (nL i l.k.length) (.but (!same4 (nd1 l i) (nd1 l i)) (.leaf (.normal, meTs l (wr .i64 (i + 1)), hp 0 ((eD h).blks ⟨l, c⟩))))))))
    (.leaf (.exit 8, mkT 230 [(13, .ptr (.own 0 0 0 0))], hp 0 (c.boxI (h.ids 1) h :: plB h 1 c))) := by
  obtain ⟨e, f, t, u⟩ := h
  cases e <;> cases f <;> cases t <;> cases u <;> kernel_rfl
def mdTs (l : Cs) (i : Int) : Tmps := mkT 230 [(3, .ptr (.own 0 0 0 0)), (6, .slice (.own 1 0 0 4) l.k.length none), (13, .ptr (.own 2 0 0 0)), (14, .slice (.own 3 0 0 4) l.k.length none), (15, .int .i64 i)]
theorem md_tree (h : Sh) (E : Nat → Nat → Seg) (y : Pc) (l : Cs) (c : Pc) (i : Int) : ((W E (SM h) noL 3 (false :: qD) false (codeOf 3 (false :: qD)) (mdTs l i)).full ⟨hp 0 ((dD h).blks ⟨y, l, c⟩), ((dD h).blks ⟨y, l, c⟩).length, [], []⟩ leafS).take 0 (.x (.n (.n (.n (.n (.c (.f (.n (.n (.n (.leaf (rg 0 (4 + (h.n + h.n))) 57416)))))))))) (.leaf (0 :: 1 :: 2 :: rg 4 (h.n + h.n)) 8264)) =
  .br (decide (i < (l.k.length : Int))) (.need (inL i l.k.length) (.need (nL i l.k.length) (.need (inL i l.k.length) (.need (nL i l.k.length) (.but (!same4 (nd1 l i) (nd1 l i)) (.need (eB ((puC h).blks ⟨c.nrm h, i⟩)) (.need (eV ((puC h).args ⟨c.nrm h, i⟩)) (.need (puOk h ⟨c.nrm h, i⟩) (.leaf (.normal, mdTs l (wr .i64 (i + 1)), hp 0 ((dD h).blks ⟨y, l, putC h (c.nrm h) i⟩)))))))))))
    (.leaf (.exit 6, mkT 230 [(3, .ptr (.own 0 0 0 0)), (6, .slice (.own 1 0 0 4) l.k.length none), (13, .ptr (.own 2 0 0 0))], hp 0 (y.boxI (h.iy 3) h :: l.blk :: c.boxI (h.ic 3) h :: twoB h 3 y c))) := by
  obtain ⟨e, f, t, u⟩ := h
  cases e <;> cases f <;> cases t <;> cases u <;> kernel_rfl
def mcTs (l : Cs) (n : Nat) (i : Int) : Tmps := mkT 230 [(3, .ptr (.own 0 0 0 0)), (6, .slice (.own 1 0 0 4) l.k.length none), (7, .slice (.own 2 0 0 1) n (some n)), (12, .int .i64 i)]
def mcX (e : AExit) (h : Sh) (y : Pc) (l : Cs) : Tree State := .leaf (e, mkT 230 [(3, .ptr (.own 0 0 0 0)), (6, .slice (.own 1 0 0 4) l.k.length none)], hp 0 (y.boxI (h.ids 2) h :: l.blk :: plB h 2 y))
noncomputable def mcN (h : Sh) (y : Pc) (l : Cs) (v : List Int) (i : Int) : Tree State := .leaf (.normal, mcTs l v.length (wr .i64 (i + 1)), hp 0 ((cD h).blks ⟨y, l, v, []⟩))
theorem mc_tree (h : Sh) (E : Nat → Nat → Seg) (y : Pc) (l : Cs) (v : List Int) (i : Int) : ((W E (SM h) noL 3 (false :: qC) false (codeOf 3 (false :: qC)) (mcTs l v.length i)).full ⟨hp 0 ((cD h).blks ⟨y, l, v, []⟩), ((cD h).blks ⟨y, l, v, []⟩).length, [], []⟩ leafS).take 0 (.x (.n (.n (.x (cs 6 (.leaf (0 :: 1 :: rg 3 h.n) 72)) (.c (.c (.x (.c (.c (.n (.n (.n (cs 4 (.n (.n (.n (.c (.c (.c (.x (.leaf (0 :: 1 :: rg 3 h.n) 72) (.leaf (rg 0 (3 + h.n)) 4296)))))))))))))) (cs 11 (.leaf (rg 0 (3 + h.n)) 4296)))))))) (.leaf (0 :: 1 :: rg 3 h.n) 72)) =
  .br (decide (i < (v.length : Int))) (.need (inL i v.length) (.need (nL i v.length) (.br (!decide (v.getD (0 + i.toNat) 0 = 1)) (mcX .ret h y l) (.br (decide (0 < i))
    (.need (eB (plB h 0 (y.nrm h))) (.need (eV ((sgCD h).args ⟨y.nrm h, i⟩)) (.need (sgOkc h ⟨y.nrm h, i⟩) (.need (eB (plB h 0 (y.nrm h))) (.need (eV ((sgCD h).args ⟨y.nrm h, wr .i64 (i - 1)⟩)) (.need (sgOkc h ⟨y.nrm h, wr .i64 (i - 1)⟩) (.br (decide (sgNc h (y.nrm h) i < sgNc h (y.nrm h) (wr .i64 (i - 1)))) (mcX .ret h y l) (mcN h y l v i))))))))
    (mcN h y l v i))))) (mcX (.exit 4) h y l) := by
  obtain ⟨e, f, t, u⟩ := h
  cases e <;> cases f <;> cases t <;> cases u <;> kernel_rfl
def mbT3 (l : Cs) (n : Nat) : List (Nat × AVal) := [(3, .ptr (.own 0 0 0 0)), (6, .slice (.own 1 0 0 4) l.k.length none), (7, .slice (.own 2 0 0 1) n (some n))]
def mbTs (h : Sh) (l : Cs) (n m : Nat) (i : Int) : Tmps := mkT 230 (mbT3 l n ++ [(8, noteV h 3 m), (11, .int .i64 i)])
def mbBs (h : Sh) (y : Pc) (l : Cs) (n : Nat) (v note : List Int) : List Blk := y.boxI (h.ids h.bd) h :: l.blk :: .segs [⟨n, 1, [.int .i64 v]⟩] :: (noteB h note ++ plB h h.bd y)
def mbX (e : AExit) (h : Sh) (y : Pc) (l : Cs) (v : List Int) : Tree State := .leaf (e, mkT 230 (mbT3 l v.length), hp 0 (y.boxI (h.ids 3) h :: l.blk :: .segs [⟨v.length, 1, [.int .i64 v]⟩] :: plB h 3 y))
theorem mb_tree (h : Sh) (hn : h.nn = false) (E : Nat → Nat → Seg) (y : Pc) (l : Cs) (v note : List Int) (i : Int) : ((W E SO noL 3 (false :: qB) false (codeOf 3 (false :: qB)) (mbTs h l v.length note.length i)).full ⟨hp 0 (mbBs h y l v.length v note), (mbBs h y l v.length v note).length, [], []⟩ leafS).take 0 (.x (.n (.n (.x (cs 18 (.leaf (0 :: 1 :: 2 :: rg 4 h.n) 200)) (.c (.c (.n (.c (.n (.c (.c (.c (.x (cs 10 (.leaf (0 :: 1 :: 2 :: rg 4 h.n) 200)) (.c (.c (.c (.n (.c (.n (.c (.n (.c (.n (.c (.c (.n (.c (.c (.x (.leaf (0 :: 1 :: 2 :: rg 4 h.n) 200) (.n (.n (.n (.n (.n (.n (.leaf (rg 0 (4 + h.n)) 2504))))))))))))))))))))))))))))))))))) (.leaf (0 :: 1 :: 2 :: rg 4 h.n) 200)) =
  .br (decide (i < (note.length : Int))) (.need (inL i note.length) (.need (nL i note.length) (.br (decide (note.getD (0 + i.toNat) 0 < 0)) (mbX .ret h y l v) (.need (inL i note.length) (.need (nL i note.length) (.br (decide ((l.k.length : Int) ≤ note.getD (0 + i.toNat) 0)) (mbX .ret h y l v)
    (.need (inL i note.length) (.need (nL i note.length) (.need (inL (note.getD (0 + i.toNat) 0) l.k.length) (.need (nL (note.getD (0 + i.toNat) 0) l.k.length) (.need (eV [(nd1 l (note.getD (0 + i.toNat) 0)).v]) (.br (!decide (classE (nd1 l (note.getD (0 + i.toNat) 0)) = 0)) (mbX .ret h y l v)
      (.need (inL i note.length) (.need (nL i note.length) (.need (inL (note.getD (0 + i.toNat) 0) v.length) (.need (nL (note.getD (0 + i.toNat) 0) v.length) (.need (inL (note.getD (0 + i.toNat) 0) v.length) (.need (nL (note.getD (0 + i.toNat) 0) v.length) (.leaf (.normal, mbTs h l v.length note.length (wr .i64 (i + 1)),
        hp 0 (mbBs h y l v.length (v.set (0 + (note.getD (0 + i.toNat) 0).toNat) (wr .i64 (v.getD (0 + (note.getD (0 + i.toNat) 0).toNat) 0 + 1))) note))))))))))))))))))))) (mbX (.exit 2) h y l v) := by
  obtain ⟨e, f, t, u⟩ := h
  cases e <;> cases f <;> cases t <;> cases u <;> first | (exact absurd hn (by decide)) | kernel_rfl
theorem mb_none (h : Sh) (hn : h.nn = true) (E : Nat → Nat → Seg) (y : Pc) (l : Cs) (v : List Int) : ((W E SO noL 3 (false :: qB) false (codeOf 3 (false :: qB)) (mbTs h l v.length 0 0)).full ⟨hp 0 (mbBs h y l v.length v []), (mbBs h y l v.length v []).length, [], []⟩ leafS).take 0 (.c (.leaf (rg 0 (3 + h.n)) 200)) = mbX (.exit 2) h y l v := by
  obtain ⟨e, f, t, u⟩ := h
  cases e <;> cases f <;> cases t <;> cases u <;> first | (exact absurd hn (by decide)) | kernel_rfl
end Go.Proofs.Ytompijagcjjamaa
