/- plan: the piece behind drafted, as a tree, for any shape. -/
import Derived.Test.YtompijagcjjamaaG10

set_option linter.unusedVariables false
namespace Go.Proofs.Ytompijagcjjamaa
open Ab
abbrev TQ := TreeQ State
def kC (h : Sh) (y : Pc) (us : List AVal) (c : Bool) (t : TQ) : TQ := .need (eB (plB h 0 y)) (.need (eV us) (.need c t))
def lF : TQ := .leaf (.ret, mkT 230 [(2, .bool false)], [])
def stT (h : Sh) (y : Pc) (l : Cs) (z : Int) (o : O4) (n : Nat) (K : Int) (t : TQ) : TQ :=
  kC h y [y.v h, .int .i64 z] (ofOkc h ⟨y, z⟩) (.br (decide (K < 0)) lF (.br (decide ((l.k.length : Int) ≤ K)) lF (kC h y [y.v h, .int .i64 K] (sgOkc h ⟨y, K⟩) (.br (!decide (sgNc h y K = z)) lF
    (.need (inL K l.k.length) (.need (nL K l.k.length) (.need (eV [(nd1 l K).v]) (.br (decide (classE (nd1 l K) = 0)) lF (.need (inL K l.k.length) (.need (nL K l.k.length) (.br (!same4 (nd1 l K) o) lF
      (.need (inL K n) (.need (nL K n) (.need (inL K n) (.need (nL K n) t)))))))))))))))
def inc1 (v : List Int) (K : Int) : List Int := v.set (0 + K.toNat) (wr .i64 (v.getD (0 + K.toNat) 0 + 1))
def eT (ts : List (Nat × AVal)) (Bs : List Blk) (us : List (Nat × AVal)) (Cs : List Blk) : Bool := sameL (mkT 230 ts) (mkT 230 us) && sameBl Bs Cs
def tsN (l : Cs) (n : Nat) (r : List (Nat × AVal)) : List (Nat × AVal) := (3, .ptr (.own 0 0 0 0)) :: (6, .slice (.own 1 0 0 4) l.k.length none) :: (7, .slice (.own 2 0 0 1) n (some n)) :: r
def bsN (h : Sh) (k : Bool) (y : Pc) (l : Cs) (n : Nat) (v note : List Int) : List Blk := y.boxI (h.ids (bdN k)) h :: l.blk :: .segs [⟨n, 1, [.int .i64 v]⟩] :: (nB k note ++ plB h (bdN k) y)
def ntT (h : Sh) (b : Bool) (y : Pc) (l : Cs) (n : Nat) (v note : List Int) (t : TQ) : TQ :=
  .need (eT (tsN l n [(8, nV (h.ni b) 3 note.length), (9, .int .i64 (zN b))]) (bsN h (h.ni b) y l n v note) ((ntD h).ins ⟨b, ⟨y, l, v, note⟩⟩) ((ntD h).blks ⟨b, ⟨y, l, v, note⟩⟩)) (.need (okN h ⟨b, ⟨y, l, v, note⟩⟩) (.all Unit fun _ => .imp True t))
noncomputable def enT (h : Sh) (y : Pc) (l : Cs) (n : Nat) (v note : List Int) : TQ :=
  .need (eT (tsN l n [(8, nV h.nn 3 note.length), (11, .int .i64 0)]) (bsN h h.nn y l n v note) ((bD h).ins ⟨y, l, v, note⟩) ((bD h).blks ⟨y, l, v, note⟩)) (.need (okMb h ⟨y, l, v, note⟩) (.all Unit fun _ => .imp True (
  .need (eT (tsN l v.length [(12, .int .i64 0)]) (bsN h true y l v.length (incs v note) []) ((cD h).ins ⟨y, l, incs v note, []⟩) ((cD h).blks ⟨y, l, incs v note, []⟩)) (.need (okMc h ⟨y, l, incs v note, []⟩) (.all Unit fun _ => .imp True (
  kC h y [y.v h] (fullOk h y) (kC h y [y.v h] (wfOk h y) (.but (!decide ((l.k.length : Int) = l.k.length)) (.but (!decide (y.ep = y.ep)) (.but (!decide (y.la = y.la))
  (.need (eT ((dD h).ins ⟨y, l, y⟩) ((dD h).blks ⟨y, l, y⟩) ((dD h).ins ⟨y, l, y⟩) ((dD h).blks ⟨y, l, y⟩)) (.need (okMd h ⟨y, l, y⟩) (.all Pc fun c => .imp (putAll h ⟨y, l, y⟩ c) (
  kC h y [y.v h] (wfOk h y) (.need (eT ((eD h).ins ⟨l, c.nrm h⟩) ((eD h).blks ⟨l, c.nrm h⟩) ((eD h).ins ⟨l, c.nrm h⟩) ((eD h).blks ⟨l, c.nrm h⟩)) (.need (okMe h ⟨l, c.nrm h⟩) (.all Unit fun _ => .imp True (
  kC h (c.nrm h) [(c.nrm h).v h] (ckOk h (c.nrm h)) (.leaf (.ret, mkT 230 [(2, .bool (decide (ckEc h (c.nrm h) = 13)))], []))))))))))))))))))))
def mmF (h : Sh) (y : Pc) (l : Cs) (t : TQ) : TQ :=
  kC h y [y.v h] (ckOk h y) (.br (!decide (ckNc h y = -1)) lF (.br (!decide (ckEc h y = 0)) lF (kC h y [y.v h] (wfOk h y) (.need (decide ((l.k.length : Int) ≤ l.k.length) && decide ((l.k.length : Int) ≤ 1099511627776)) (kC h y [y.v h] (fullOk h y) t)))))
def nz (n : Bool) (l : List Int) : List Int := cond n [] l
def v1O (h : Sh) (y : Pc) (v : List Int) : List Int := inc1 v (ofNc h y 1)
def v2O (h : Sh) (y : Pc) (v : List Int) : List Int := inc1 (v1O h y v) (ofNc h y 2)
def no0 (h : Sh) (y : Pc) : List Int := nz h.e (prC h y)
def no1 (h : Sh) (y : Pc) (l : Cs) (v : List Int) : List Int := nz (h.no false) (ntOf h false ⟨y, l, v1O h y v, no0 h y⟩)
def no2 (h : Sh) (y : Pc) (l : Cs) (v : List Int) : List Int := nz (h.no true) (ntOf h true ⟨y, l, v2O h y v, no1 h y l v⟩)
noncomputable def mm0 (h : Sh) (y : Pc) (l : Cs) (v : List Int) : TQ :=
  mmF h y l (stT h y l 1 y.o1 l.k.length (ofNc h y 1) (ntT h false y l l.k.length (v1O h y v) (no0 h y)
    (enT h y l (v1O h y v).length (v1O h y v) (no1 h y l v))))
noncomputable def mm1 (h : Sh) (y : Pc) (l : Cs) (v : List Int) : TQ :=
  mmF h y l (stT h y l 1 y.o1 l.k.length (ofNc h y 1) (ntT h false y l l.k.length (v1O h y v) (no0 h y)
    (stT h y l 2 y.o2 (v1O h y v).length (ofNc h y 2) (ntT h true y l (v1O h y v).length (v2O h y v) (no1 h y l v)
      (enT h y l (v2O h y v).length (v2O h y v) (no2 h y l v))))))
noncomputable def mmL (h : Sh) (E : Nat → Nat → Seg) (y : Pc) (p : PatQ) : TQ := (execT (W E (SM h) noL) (MM h) 0 400 3 [true, true, true] (codeOf 3 [true, true, true]) (mkT 230 [(3, .ptr (.own 0 0 0 0))]) ⟨hp 0 (y.boxI (h.ids 1) h :: plB h 1 y), (y.boxI (h.ids 1) h :: plB h 1 y).length, [], []⟩ leafQ).take 0 p
def pt0 : PatQ := .n (.n (.n (.x (.c (.c (.c (.leaf [] 4)))) (.c (.x (.leaf [] 4) (.n (.n (.n (.n (.n (.n (.n (.c (.n (.n (.n (.x (csQ 32 (.leaf [] 4)) (.c (.c (.c (.x (csQ 27 (.leaf [] 4)) (.c (.c (.n (.n (.n (.c (.c (.x (csQ 21 (.leaf [] 4)) (.c (.c (.n (.c (.n (.c (.c (.n (.c (.c (.x (csQ 14 (.leaf [] 4)) (.c (.c (.n (.c (.n (csQ 11 (.x (.leaf [] 4) (.n (.n (.n (.n (.c (.n (.n (.a (.i (.c (.c (.n (.n (.a (.i (.c (.n (.n (.a (.i (.n (.n (.n (.n (.n (.n (.f (csQ 4 (.f (csQ 4 (.f (.c (.n (.n (.a (.i (.n (.n (.n (.c (.n (.n (.a (.i (.n (.n (.n (.leaf [] 4)))))))))))))))))))))))))))))))))))))))))))))))))))))))))))))))))))))))))))))))))))))))))))))))
def pt1 : PatQ := .n (.n (.n (.x (.c (.c (.c (.leaf [] 4)))) (.c (.x (.leaf [] 4) (.n (.n (.n (.n (.n (.n (.n (.c (.n (.n (.n (.x (csQ 32 (.leaf [] 4)) (.c (.c (.c (.x (csQ 27 (.leaf [] 4)) (.c (.c (.n (.n (.n (.c (.c (.x (csQ 21 (.leaf [] 4)) (.c (.c (.n (.c (.n (.c (.c (.n (.c (.c (.x (csQ 14 (.leaf [] 4)) (.c (.c (.n (.c (.n (csQ 11 (.x (.leaf [] 4) (.n (.n (.n (.n (.c (.n (.n (.a (.i (.c (.n (.n (.n (.x (csQ 32 (.leaf [] 4)) (.c (.c (.c (.x (csQ 27 (.leaf [] 4)) (.c (.c (.n (.n (.n (.c (.c (.x (csQ 21 (.leaf [] 4)) (.c (.c (.n (.c (.n (.c (.c (.n (.c (.c (.x (csQ 14 (.leaf [] 4)) (.c (.c (.n (.c (.n (csQ 11 (.x (.leaf [] 4) (.n (.n (.n (.n (.c (.n (.n (.a (.i (.c (.c (.n (.n (.a (.i (.c (.n (.n (.a (.i (.n (.n (.n (.n (.n (.n (.f (csQ 4 (.f (csQ 4 (.f (.c (.n (.n (.a (.i (.n (.n (.n (.c (.n (.n (.a (.i (.n (.n (.n (.leaf [] 4)))))))))))))))))))))))))))))))))))))))))))))))))))))))))))))))))))))))))))))))))))))))))))))))))))))))))))))))))))))))))))))))))))))))))))
noncomputable def mmR (h : Sh) (y : Pc) : TQ := match h.t with
  | false => mm0 h y (ndsC h y) (List.replicate (ndsC h y).k.length (0 : Int))
  | true => mm1 h y (ndsC h y) (List.replicate (ndsC h y).k.length (0 : Int))
def ptM (t : Bool) : PatQ := match t with
  | false => pt0
  | true => pt1
theorem mm_0000 (E : Nat → Nat → Seg) (y : Pc) : mmL ⟨false, false, false, false⟩ E y (ptM false) = mmR ⟨false, false, false, false⟩ (y.nrm ⟨false, false, false, false⟩) := by kernel_rfl
theorem mm_0001 (E : Nat → Nat → Seg) (y : Pc) : mmL ⟨false, false, false, true⟩ E y (ptM false) = mmR ⟨false, false, false, true⟩ (y.nrm ⟨false, false, false, true⟩) := by kernel_rfl
theorem mm_0010 (E : Nat → Nat → Seg) (y : Pc) : mmL ⟨false, false, true, false⟩ E y (ptM true) = mmR ⟨false, false, true, false⟩ (y.nrm ⟨false, false, true, false⟩) := by kernel_rfl
theorem mm_0011 (E : Nat → Nat → Seg) (y : Pc) : mmL ⟨false, false, true, true⟩ E y (ptM true) = mmR ⟨false, false, true, true⟩ (y.nrm ⟨false, false, true, true⟩) := by kernel_rfl
theorem mm_0100 (E : Nat → Nat → Seg) (y : Pc) : mmL ⟨false, true, false, false⟩ E y (ptM false) = mmR ⟨false, true, false, false⟩ (y.nrm ⟨false, true, false, false⟩) := by kernel_rfl
theorem mm_0101 (E : Nat → Nat → Seg) (y : Pc) : mmL ⟨false, true, false, true⟩ E y (ptM false) = mmR ⟨false, true, false, true⟩ (y.nrm ⟨false, true, false, true⟩) := by kernel_rfl
theorem mm_0110 (E : Nat → Nat → Seg) (y : Pc) : mmL ⟨false, true, true, false⟩ E y (ptM true) = mmR ⟨false, true, true, false⟩ (y.nrm ⟨false, true, true, false⟩) := by kernel_rfl
theorem mm_0111 (E : Nat → Nat → Seg) (y : Pc) : mmL ⟨false, true, true, true⟩ E y (ptM true) = mmR ⟨false, true, true, true⟩ (y.nrm ⟨false, true, true, true⟩) := by kernel_rfl
theorem mm_1000 (E : Nat → Nat → Seg) (y : Pc) : mmL ⟨true, false, false, false⟩ E y (ptM false) = mmR ⟨true, false, false, false⟩ (y.nrm ⟨true, false, false, false⟩) := by kernel_rfl
theorem mm_1001 (E : Nat → Nat → Seg) (y : Pc) : mmL ⟨true, false, false, true⟩ E y (ptM false) = mmR ⟨true, false, false, true⟩ (y.nrm ⟨true, false, false, true⟩) := by kernel_rfl
theorem mm_1010 (E : Nat → Nat → Seg) (y : Pc) : mmL ⟨true, false, true, false⟩ E y (ptM true) = mmR ⟨true, false, true, false⟩ (y.nrm ⟨true, false, true, false⟩) := by kernel_rfl
theorem mm_1011 (E : Nat → Nat → Seg) (y : Pc) : mmL ⟨true, false, true, true⟩ E y (ptM true) = mmR ⟨true, false, true, true⟩ (y.nrm ⟨true, false, true, true⟩) := by kernel_rfl
theorem mm_1100 (E : Nat → Nat → Seg) (y : Pc) : mmL ⟨true, true, false, false⟩ E y (ptM false) = mmR ⟨true, true, false, false⟩ (y.nrm ⟨true, true, false, false⟩) := by kernel_rfl
theorem mm_1101 (E : Nat → Nat → Seg) (y : Pc) : mmL ⟨true, true, false, true⟩ E y (ptM false) = mmR ⟨true, true, false, true⟩ (y.nrm ⟨true, true, false, true⟩) := by kernel_rfl
theorem mm_1110 (E : Nat → Nat → Seg) (y : Pc) : mmL ⟨true, true, true, false⟩ E y (ptM true) = mmR ⟨true, true, true, false⟩ (y.nrm ⟨true, true, true, false⟩) := by kernel_rfl
theorem mm_1111 (E : Nat → Nat → Seg) (y : Pc) : mmL ⟨true, true, true, true⟩ E y (ptM true) = mmR ⟨true, true, true, true⟩ (y.nrm ⟨true, true, true, true⟩) := by kernel_rfl
theorem mm_tree (h : Sh) (E : Nat → Nat → Seg) (y : Pc) : mmL h E y (ptM h.t) = mmR h (y.nrm h) := by
  obtain ⟨e, f, t, u⟩ := h
  cases e <;> cases f <;> cases t <;> cases u
  · exact mm_0000 E y
  · exact mm_0001 E y
  · exact mm_0010 E y
  · exact mm_0011 E y
  · exact mm_0100 E y
  · exact mm_0101 E y
  · exact mm_0110 E y
  · exact mm_0111 E y
  · exact mm_1000 E y
  · exact mm_1001 E y
  · exact mm_1010 E y
  · exact mm_1011 E y
  · exact mm_1100 E y
  · exact mm_1101 E y
  · exact mm_1110 E y
  · exact mm_1111 E y
theorem mm_one (h : Sh) (ht : h.t = false) (E : Nat → Nat → Seg) (y : Pc) : mmL h E y (ptM h.t) = mm0 h (y.nrm h) (ndsC h (y.nrm h)) (List.replicate (ndsC h (y.nrm h)).k.length (0 : Int)) := by
  rw [mm_tree, mmR, ht]
theorem mm_two (h : Sh) (ht : h.t = true) (E : Nat → Nat → Seg) (y : Pc) : mmL h E y (ptM h.t) = mm1 h (y.nrm h) (ndsC h (y.nrm h)) (List.replicate (ndsC h (y.nrm h)).k.length (0 : Int)) := by
  rw [mm_tree, mmR, ht]
end Go.Proofs.Ytompijagcjjamaa
