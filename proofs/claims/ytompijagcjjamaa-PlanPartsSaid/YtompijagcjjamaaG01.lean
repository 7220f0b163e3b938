/- Parts of the walk: The program's facts; the walk; the code at a place; operators, plans in tables; what a plan's nodes are; loops over items, whatever is done with each; a plan's nodes; Nodes: what goes on within its loop; Nodes, as trees: rounds; Nodes: rounds; what stands behind a stage; Nodes: stages; the whole; the numbers of nodes that are right: what goes on within the loop. -/
import Derived.Test.YtompijagcjjamaaRows
import Derived.Test.YtompijagcjjamaaE05
import Derived.Test.YtompijagcjjamaaE06

set_option linter.unusedSimpArgs false
set_option linter.unusedVariables false
namespace Go.Proofs.Ytompijagcjjamaa
open Go.ChangeShapes Go.WideShapes Go.ChangeAt Go.RowKit Ab
theorem Try.own : ownKnob Try.prog.godebug = none := by kernel_rfl
theorem Try.laidOut : laidOutB Try.prog = true := by kernel_rfl
theorem Try.names : NamesOK Try.prog := names_ok (by kernel_rfl)
theorem Try.mixed : Try.prog.follows .mixedOrders = true := by kernel_rfl
theorem ext {E : Nat → Nat → Seg} {ra : Nat → Nat → Nat × Nat} : ExtsOK Try.prog E ra (fun _ => none) := extNone_ok
noncomputable def W (E : Nat → Nat → Seg) (S : Sums) (L : Loops) : Walk := exec Try.prog E S (fun _ => none) L 400
noncomputable def codeOf (f : FuncId) (p : List Bool) : Code := match codeAt Try.prog f p with
  | some c => c
  | none => .skip
def noS : Sums := fun _ => none
theorem W_ok {E : Nat → Nat → Seg} {ra : Nat → Nat → Nat × Nat} {base : Nat} {S : Sums} {L : Loops} (hS : SumsOK Try.prog E ra base S) (hL : LoopsOK Try.prog E ra base L) : ExecOK Try.prog E ra base (W E S L) :=
  exec_sound hL hS ext Try.names Try.mixed 400
def rf {α : Type} [DecidableEq α] (x : α) : Bool := decide (x = x)
theorem rf_eq {α : Type} [DecidableEq α] (x : α) : rf x = true := decide_eq_true rfl
def trueD : CDeal Unit where
  args _ := []
  blks _ := []
  pre _ := true
  out _ := .bool true
  blks' _ := []
end Go.Proofs.Ytompijagcjjamaa

namespace Go.Proofs.Ytompijagcjjamaa
open Ab
structure O4 where
  k : Int
  a : Int
  b : Int
  g : Int
def k4 (l : List O4) : List Int := l.map O4.k
def a4 (l : List O4) : List Int := l.map O4.a
def b4 (l : List O4) : List Int := l.map O4.b
def g4 (l : List O4) : List Int := l.map O4.g
def opV (x : O4) : AVal := .agg [.int .i64 x.k, .int .i64 x.a, .int .i64 x.b, .int .i64 x.g]
def opsB (l : List O4) : Blk := .segs [⟨l.length, 4, [.int .i64 (k4 l), .int .i64 (a4 l), .int .i64 (b4 l), .int .i64 (g4 l)]⟩]
def intsB (l : List Int) : Blk := .segs [⟨l.length, 1, [.int .i64 l]⟩]
def cellB (v : AVal) : Blk := .segs [⟨1, 1, [.val [v]]⟩]
def numB (n : Int) : Blk := .segs [⟨1, 1, [.int .i64 [n]]⟩]
structure Pt where
  e : Bool
  pre : List O4
  st : List O4
  ns : List Nat
  fs : List Bool
  po : Nat → List O4
  la : Int
  ep : Int
def tabP (T : Pt) : Nat → Nat → Seg := fun t p => match t with
  | 0 => ⟨T.pre.length, 4, [.int .i64 (k4 T.pre), .int .i64 (a4 T.pre), .int .i64 (b4 T.pre), .int .i64 (g4 T.pre)]⟩
  | 1 => ⟨T.st.length, 5, [.int .i64 (k4 T.st), .int .i64 (a4 T.st), .int .i64 (b4 T.st), .int .i64 (g4 T.st), .subs 2 T.ns T.fs]⟩
  | 2 => ⟨(T.po p).length, 4, [.int .i64 (k4 (T.po p)), .int .i64 (a4 (T.po p)), .int .i64 (b4 (T.po p)), .int .i64 (g4 (T.po p))]⟩
  | _ => ⟨0, 1, [.int .i64 []]⟩
def preV (e : Bool) (n : Nat) : AVal := match e with
  | true => .nils
  | false => .slice (.ro 0 0 0 0) n none
def stV (m : Nat) : AVal := .slice (.ro 1 0 0 0) m none
def planV (e : Bool) (n m : Nat) (la ep : Int) : AVal := .agg [preV e n, stV m, .int .i64 la, .int .i64 ep]
def planB (e : Bool) (n m : Nat) (la ep : Int) : Blk := .segs [⟨1, 1, [.val [preV e n]]⟩, ⟨1, 1, [.val [stV m]]⟩, ⟨1, 1, [.int .i64 [la]]⟩, ⟨1, 1, [.int .i64 [ep]]⟩]
noncomputable def okBl (a b : List Blk) : Bool := by classical exact decide (a = b)
theorem okBl_eq (a b : List Blk) (h : okBl a b = true) : a = b := by classical exact of_decide_eq_true h
theorem okBl_self {a b : List Blk} (h : a = b) : okBl a b = true := by classical exact decide_eq_true h
noncomputable def rfAs (f : FuncId) (p : List Bool) : Code := match codeOf f p with
  | .rangeFunc _ _ a _ => a
  | _ => .skip
noncomputable def rfBd (f : FuncId) (p : List Bool) : Code := match codeOf f p with
  | .rangeFunc _ _ _ b => b
  | _ => .skip
structure Pw where
  e : Bool
  n : Nat
  m : Nat
  la : Int
  ep : Int
def Pw.v (w : Pw) : AVal := planV w.e w.n w.m w.la w.ep
def Pw.blk (w : Pw) : Blk := planB w.e w.n w.m w.la w.ep
def preO : AVal → Option (Bool × Nat)
  | .nils => some (true, 0)
  | .slice (.ro 0 _ _ _) n _ => some (false, n)
  | _ => none
def pwOf : Blk → Option Pw
  | .segs [⟨_, _, [.val [a]]⟩, ⟨_, _, [.val [.slice (.ro 1 _ _ _) m _]]⟩, ⟨_, _, [.int _ [la]]⟩, ⟨_, _, [.int _ [ep]]⟩] => match preO a with
    | some (e, n) => some ⟨e, n, m, la, ep⟩
    | none => none
  | _ => none
def pwOfV : AVal → Option Pw
  | .agg [a, .slice (.ro 1 _ _ _) m _, .int _ la, .int _ ep] => match preO a with
    | some (e, n) => some ⟨e, n, m, la, ep⟩
    | none => none
  | _ => none
def okW (T : Pt) (w : Pw) : Bool := decide (w.e = T.e) && (decide (w.n = T.pre.length) && decide (w.m = T.st.length))
structure Cs where
  k : List Int
  a : List Int
  b : List Int
  g : List Int
def Cs.blk (s : Cs) : Blk := .segs [⟨s.k.length, 4, [.int .i64 s.k, .int .i64 s.a, .int .i64 s.b, .int .i64 s.g]⟩]
def Cs.nil : Cs := ⟨[], [], [], []⟩
def un4 : List Int → List Int → List Int → List Int → List O4
  | k :: ks, a :: xs, b :: bs, g :: gs => ⟨k, a, b, g⟩ :: un4 ks xs bs gs
  | _, _, _, _ => []
theorem un4_of : ∀ l : List O4, un4 (k4 l) (a4 l) (b4 l) (g4 l) = l
  | [] => rfl
  | x :: l => by
    have := un4_of l
    simp only [k4, a4, b4, g4] at this
    simp only [k4, a4, b4, g4, List.map_cons, un4, this]
def csOf : Blk → Option (List O4)
  | .segs [⟨_, _, [.int _ k, .int _ a, .int _ b, .int _ g]⟩] => some (un4 k a b g)
  | _ => none
def Cs.of (l : List O4) : Cs := ⟨k4 l, a4 l, b4 l, g4 l⟩
def Cs.add (s : Cs) (l : List O4) : Cs := ⟨s.k ++ k4 l, s.a ++ a4 l, s.b ++ b4 l, s.g ++ g4 l⟩
structure Pq where
  f : Bool
  par : Nat
  q : Nat
def Pq.v (y : Pq) : AVal := match y.f with
  | true => .nils
  | false => .slice (.ro 2 y.par 0 0) y.q none
def pqOf : AVal → Option Pq
  | .nils => some ⟨true, 0, 0⟩
  | .slice (.ro 2 par _ _) q _ => some ⟨false, par, q⟩
  | _ => none
def insPre (yl bx : AVal) (w : Pw) (i : Int) : List (Nat × AVal) := [(0, yl), (1, bx), (10, preV w.e w.n), (11, .int .i64 w.n), (12, .int .i64 i)]
def insSt (yl : AVal) (m : Nat) (p : Int) : List (Nat × AVal) := [(0, yl), (25, stV m), (26, .int .i64 m), (27, .int .i64 p)]
def insPo (yl : AVal) (m : Nat) (p : Int) (y : Pq) (j : Int) : List (Nat × AVal) := [(0, yl), (5, .int .i64 p), (25, stV m), (26, .int .i64 m), (27, .int .i64 p), (41, y.v), (42, .int .i64 y.q), (43, .int .i64 j)]
def outPo (yl : AVal) (m : Nat) (p : Int) : List (Nat × AVal) := [(0, yl), (25, stV m), (26, .int .i64 m), (27, .int .i64 p)]
def pPre : List Bool := [false, true, false]
def pSt : List Bool := [false, true, true]
def pPo : List Bool := [false, true, true, true, false, false, true, true, false, false, true, true]
end Go.Proofs.Ytompijagcjjamaa

namespace Go.Proofs.Ytompijagcjjamaa
open Ab
inductive Res (σ : Type) : Type
  | on (s : σ)
  | off (Bs : List Blk)
def runS {σ α : Type} (step : σ → α → Res σ) : List α → σ → Res σ
  | [], s => .on s
  | a :: l, s => match step s a with
    | .on s' => runS step l s'
    | .off B => .off B
def PostR {σ : Type} (C : σ → List Blk) (ex : AExit) (outs : List (Nat × AVal)) (r : Res σ) (y : State) : Prop := match r with
  | .on s => y = (ex, mkT 59 outs, hp 0 (C s))
  | .off B => y = (.ret, mkT 59 [], hp 0 B)
theorem iter_loop {E : Nat → Nat → Seg} {ra : Nat → Nat → Nat × Nat} {base k : Nat} {c : Code} {σ α : Type} {C : σ → List Blk} {step : σ → α → Res σ} {ins : Nat → List (Nat × AVal)} {outs : List (Nat × AVal)} {ex : Nat} {inv : Nat → σ → Prop} (L : List α)
    (hr : ∀ i a s, L[i]? = some a → inv i s → Takes Try.prog E ra base k c (mkT 59 (ins i)) (hp 0 (C s)) fun y => PostR C .normal (ins (i + 1)) (step s a) y)
    (hi : ∀ i a s s', L[i]? = some a → inv i s → step s a = .on s' → inv (i + 1) s')
    (he : ∀ s, inv L.length s → Takes Try.prog E ra base k c (mkT 59 (ins L.length)) (hp 0 (C s)) fun y => y = (.exit ex, mkT 59 outs, hp 0 (C s))) {s : σ} (h0 : inv 0 s) :
    Takes Try.prog E ra base k (.loop c) (mkT 59 (ins 0)) (hp 0 (C s)) fun y => PostR C (.exit ex) outs (runS step L s) y := by
  refine takes_loop (fun j ts h => ∃ i l s', j = l.length + 1 ∧ L.drop i = l ∧ i + l.length = L.length ∧ inv i s' ∧ ts = mkT 59 (ins i) ∧ h = hp 0 (C s') ∧ runS step l s' = runS step L s) ?_ ?_ (j := L.length + 1) ⟨0, L, s, rfl, rfl, Nat.zero_add _, h0, rfl, rfl, rfl⟩
  · rintro ts h ⟨i, l, s', h1, _⟩
    omega
  · rintro j ts h ⟨i, l, s', h1, h2, h3, h4, rfl, rfl, h5⟩
    cases l with
    | nil =>
      have hi' : i = L.length := by simpa using h3
      subst hi'
      refine (he s' h4).mono ?_
      rintro y rfl
      show PostR C (.exit ex) outs (runS step L s) _
      rw [← h5]; rfl
    | cons a l =>
      have hat : L[i]? = some a := by
        have := congrArg List.head? h2
        simpa [List.head?_drop] using this
      refine (hr i a s' hat h4).mono fun y hy => ?_
      cases hs : step s' a with
      | on s'' =>
        rw [hs] at hy
        simp only [PostR] at hy
        subst hy
        refine ⟨i + 1, l, s'', by simpa using h1, ?_, by simp only [List.length_cons] at h3; omega, hi i a s' s'' hat h4 hs, rfl, rfl, ?_⟩
        · have := congrArg List.tail h2
          simpa [List.tail_drop] using this
        · rw [← h5]; simp only [runS, hs]
      | off B =>
        rw [hs] at hy
        simp only [PostR] at hy
        subst hy
        show PostR C (.exit ex) outs (runS step L s) _
        rw [← h5]
        simp only [runS, hs, PostR]
structure Nd where
  s : Int
  i : Int
  x : O4
def itemsAt (s : Int) : Nat → List O4 → List Nd
  | _, [] => []
  | j, x :: l => ⟨s, j, x⟩ :: itemsAt s (j + 1) l
def stItems (po : Nat → List O4) : Nat → List O4 → List Nd
  | _, [] => []
  | p, x :: l => ⟨(p : Int) + 1, 0, x⟩ :: (itemsAt ((p : Int) + 1) 1 (po p) ++ stItems po (p + 1) l)
def nodesT (T : Pt) : List Nd := itemsAt 0 0 T.pre ++ stItems T.po 0 T.st
def z4 : O4 := ⟨0, 0, 0, 0⟩
theorem itemsAt_get (s : Int) : ∀ (l : List O4) (j i : Nat) (a : Nd), (itemsAt s j l)[i]? = some a → i < l.length ∧ a = ⟨s, ((j + i : Nat) : Int), l.getD i z4⟩
  | [], _, _, _, h => by cases h
  | x :: l, j, 0, a, h => by
    simp only [itemsAt, List.getElem?_cons_zero, Option.some.injEq] at h
    subst h
    exact ⟨by simp, by simp [List.getD]⟩
  | x :: l, j, i + 1, a, h => by
    simp only [itemsAt, List.getElem?_cons_succ] at h
    obtain ⟨h1, h2⟩ := itemsAt_get s l (j + 1) i a h
    refine ⟨by simpa using h1, ?_⟩
    rw [h2]
    simp only [List.getD_cons_succ, Nd.mk.injEq, and_true, true_and]
    omega
theorem itemsAt_length (s : Int) : ∀ (l : List O4) (j : Nat), (itemsAt s j l).length = l.length
  | [], _ => rfl
  | x :: l, j => by simp [itemsAt, itemsAt_length s l (j + 1)]
theorem runS_append {σ α : Type} {step : σ → α → Res σ} : ∀ (l m : List α) (s : σ), runS step (l ++ m) s = match runS step l s with
    | .on s' => runS step m s'
    | .off B => .off B
  | [], m, s => rfl
  | a :: l, m, s => by
    simp only [List.cons_append, runS]
    cases step s a with
    | on s' => exact runS_append l m s'
    | off B => rfl
def stStep {σ : Type} (step : σ → Nd → Res σ) (po : Nat → List O4) (s : σ) (g : Nat × O4) : Res σ := match step s ⟨(g.1 : Int) + 1, 0, g.2⟩ with
  | .on s' => runS step (itemsAt ((g.1 : Int) + 1) 1 (po g.1)) s'
  | .off B => .off B
def groups : Nat → List O4 → List (Nat × O4)
  | _, [] => []
  | p, x :: l => (p, x) :: groups (p + 1) l
theorem groups_get : ∀ (l : List O4) (p i : Nat) (a : Nat × O4), (groups p l)[i]? = some a → i < l.length ∧ a = (p + i, l.getD i z4)
  | [], _, _, _, h => by cases h
  | x :: l, p, 0, a, h => by
    simp only [groups, List.getElem?_cons_zero, Option.some.injEq] at h
    subst h
    exact ⟨by simp, by simp [List.getD]⟩
  | x :: l, p, i + 1, a, h => by
    simp only [groups, List.getElem?_cons_succ] at h
    obtain ⟨h1, h2⟩ := groups_get l (p + 1) i a h
    refine ⟨by simpa using h1, ?_⟩
    rw [h2]
    simp only [List.getD_cons_succ, Prod.mk.injEq, and_true]
    omega
theorem groups_length : ∀ (l : List O4) (p : Nat), (groups p l).length = l.length
  | [], _ => rfl
  | x :: l, p => by simp [groups, groups_length l (p + 1)]
theorem runS_groups {σ : Type} {step : σ → Nd → Res σ} {po : Nat → List O4} : ∀ (l : List O4) (p : Nat) (s : σ), runS (stStep step po) (groups p l) s = runS step (stItems po p l) s
  | [], _, _ => rfl
  | x :: l, p, s => by
    simp only [groups, stItems, runS, stStep]
    cases step s ⟨(p : Int) + 1, 0, x⟩ with
    | off B => rfl
    | on s' =>
      simp only
      rw [runS_append]
      cases runS step (itemsAt ((p : Int) + 1) 1 (po p)) s' with
      | off B => rfl
      | on s'' => exact runS_groups l (p + 1) s''
structure Pt.Ok (T : Pt) : Prop where
  e : T.e = true → T.pre = []
  pre : T.pre.length ≤ 4
  st : T.st.length ≤ 2
  po : ∀ p, (T.po p).length ≤ 4
  ns : ∀ p, p < T.st.length → T.fs.getD p true = false → T.ns.getD p 0 = (T.po p).length
  fs : ∀ p, p < T.st.length → T.fs.getD p true = true → T.po p = []
  ln : T.ns.length = T.st.length
  lf : T.fs.length = T.st.length
end Go.Proofs.Ytompijagcjjamaa

namespace Go.Proofs.Ytompijagcjjamaa
open Ab
def pNd : List Bool := [false, true, false, true]
noncomputable def ndL : Blk := .loop (mkT 14 [(2, .ptr (.own 0 0 0 0)), (6, .fn 33 [.ptr (.own 1 0 0 0)])]) [7, 8] (rfAs 8 pNd) (rfBd 8 pNd) .ready none
noncomputable def ndC (b : Bool) (w : Pw) (s : Cs) : List Blk := match b with
  | true => [cellB .nils, w.blk, ndL]
  | false => [cellB (.slice (.own 3 0 0 4) s.k.length none), w.blk, ndL, s.blk]
def ndY : AVal := .yld 2
def ndP : AVal := .ptr (.own 1 0 0 0)
structure NdX where
  b : Bool
  s : List O4
  w : Pw
  p : Int
  y : Pq
def ndOf (A : Blk) (Bs : List Blk) : Option (Bool × List O4 × Pw) := match Bs with
  | [] => match pwOf A with
    | some w => some (true, [], w)
    | none => none
  | [B] => match pwOf A, csOf B with
    | some w, some s => some (false, s, w)
    | _, _ => none
  | _ => none
def okS (b : Bool) (s : List O4) : Bool := decide (s.length ≤ 10) && decide (s.isEmpty = b)
def poL (T : Pt) (y : Pq) : List O4 := match y.f with
  | true => []
  | false => T.po y.par
def okQ (T : Pt) (p : Int) (y : Pq) : Bool := decide (y.q = (poL T y).length) && match y.f with
  | true => true
  | false => decide (p = y.par) && decide (y.par ≤ 10)
noncomputable def ndPoD (T : Pt) : RDeal NdX where
  ins x := insPo ndY x.w.m x.p x.y 0
  blks x := ndC false x.w (Cs.of x.s)
  pre x := decide (x.s.length ≤ 100) && okQ T x.p x.y
  alts := [⟨List O4, .exit 4, fun x s => s = x.s ++ poL T x.y, fun x _ => outPo ndY x.w.m x.p, fun x s => ndC false x.w (Cs.of s)⟩]
def ndPoO (us : List AVal) (Bs : List Blk) : Option NdX := match us, Bs with
  | [_, .int _ p, _, _, _, v, _, _], _ :: A :: _ :: Bs => match pqOf v, ndOf A Bs with
    | some y, some (b, s, w) => some ⟨b, s, w, p, y⟩
    | _, _ => none
  | _, _ => none
noncomputable def ndTPo (T : Pt) : Tolds := sumT 33 pPo (toldX okBl 59 (ndPoD T) [0, 5, 25, 26, 27, 41, 42, 43] ndPoO) noT
def opsSt (T : Pt) : List O4 := (stItems T.po 0 T.st).map Nd.x
noncomputable def ndStD (T : Pt) : RDeal NdX where
  ins x := insSt ndY x.w.m 0
  blks x := ndC x.b x.w (Cs.of x.s)
  pre x := okS x.b x.s && okW T x.w
  alts := [⟨List O4, .exit 2, fun x s => s = x.s ++ opsSt T, fun _ _ => [], fun x s => ndC false x.w (Cs.of s)⟩]
def ndStO (_ : List AVal) (Bs : List Blk) : Option NdX := match Bs with
  | _ :: A :: _ :: Bs => match ndOf A Bs with
    | some (b, s, w) => some ⟨b, s, w, 0, ⟨true, 0, 0⟩⟩
    | none => none
  | _ => none
noncomputable def ndPrD (T : Pt) : RDeal NdX where
  ins x := insPre ndY ndP x.w 0
  blks x := ndC true x.w (Cs.of [])
  pre x := okW T x.w
  alts := [⟨List O4, .exit 0, fun _ s => s = T.pre ∧ s ≠ [], fun _ _ => [(0, ndY), (1, ndP)], fun x s => ndC false x.w (Cs.of s)⟩,
    ⟨Unit, .exit 0, fun _ _ => T.pre = [], fun _ _ => [(0, ndY), (1, ndP)], fun x _ => ndC true x.w (Cs.of [])⟩]
noncomputable def ndT (T : Pt) : Tolds := sumT 33 pPre (toldX okBl 59 (ndPrD T) [0, 1, 10, 11, 12] ndStO) (sumT 33 pSt (toldX okBl 59 (ndStD T) [0, 25, 26, 27] ndStO) noT)
noncomputable def ndD (T : Pt) : RDeal Pw where
  ins w := [(2, .ptr (.own 0 0 0 0)), (6, .fn 33 [.ptr (.own 1 0 0 0)])]
  blks w := [cellB .nils, w.blk]
  pre w := okW T w
  alts := [⟨List O4, .normal, fun _ s => s = T.pre ++ opsSt T, fun _ _ => [(2, .ptr (.own 0 0 0 0))], fun _ s => [cellB (.slice (.own 1 0 0 4) (Cs.of s).k.length none), (Cs.of s).blk]⟩]
def ndRO (_ : List AVal) (Bs : List Blk) : Option Pw := match Bs with
  | [_, A] => pwOf A
  | _ => none
noncomputable def ndTR (T : Pt) : Tolds := sumT 8 pNd (toldR 14 (ndD T) [2, 6] ndRO) noT
end Go.Proofs.Ytompijagcjjamaa

namespace Go.Proofs.Ytompijagcjjamaa
open Ab
theorem nd_pre0 (T : Pt) (n m : Nat) (la ep i : Int) : ((W (tabP T) noS noL 33 (false :: pPre) false (codeOf 33 (false :: pPre)) (mkT 59 (insPre ndY ndP ⟨false, n, m, la, ep⟩ i))).full ⟨hp 0 (ndC true ⟨false, n, m, la, ep⟩ (Cs.of [])), 3, [], []⟩ leafS).take 3 (.x (.n (.n (cs 5 (.leaf [0, 1, 2, 6] 7171)))) (.leaf [0, 1, 2] 3)) =
(let i0 := (0 + Int.toNat i)
(.br (decide (i < (↑n : Int))) (.need (decide (0 ≤ i) && decide (i < (↑n : Int))) (.need (decide (0 + Int.toNat i < List.length (Pt.pre T))) (.leaf (.normal, mkT 59 [(0, .yld 2), (1, .ptr (.own 1 0 0 0)), (10, .slice (.ro 0 0 0 0) n none), (11, .int .i64 (↑n : Int)), (12, .int .i64 (wr .i64 (i + 1)))], [(0, some (.segs [⟨1, 1, [.val [.slice (.own 3 0 0 4) 1 none]]⟩])), (1, some (planB false n m la ep)), (2, some (ndL)), (3, some (.segs [⟨1, 4, [.int .i64 (List.take 1 (List.drop 0 [List.getD (k4 (Pt.pre T)) i0 0])), .int .i64 (List.take 1 (List.drop 0 [List.getD (a4 (Pt.pre T)) i0 0])), .int .i64 (List.take 1 (List.drop 0 [List.getD (b4 (Pt.pre T)) i0 0])), .int .i64 (List.take 1 (List.drop 0 [List.getD (g4 (Pt.pre T)) i0 0]))]⟩]))])))) (.leaf (.exit 0, mkT 59 [(0, .yld 2), (1, .ptr (.own 1 0 0 0))], [(0, some (.segs [⟨1, 1, [.val [.nils]]⟩])), (1, some (planB false n m la ep)), (2, some (ndL))])))) := by kernel_rfl
theorem nd_pree (T : Pt) (m : Nat) (la ep : Int) : ((W (tabP T) noS noL 33 (false :: pPre) false (codeOf 33 (false :: pPre)) (mkT 59 (insPre ndY ndP ⟨true, 0, m, la, ep⟩ 0))).full ⟨hp 0 (ndC true ⟨true, 0, m, la, ep⟩ (Cs.of [])), 3, [], []⟩ leafS).take 3 (.c (.leaf [0, 1, 2] 3)) =
(.leaf (.exit 0, mkT 59 [(0, .yld 2), (1, .ptr (.own 1 0 0 0))], [(0, some (.segs [⟨1, 1, [.val [.nils]]⟩])), (1, some (planB true 0 m la ep)), (2, some (ndL))])) := by kernel_rfl
theorem nd_pre1 (T : Pt) (n m : Nat) (la ep i : Int) (l : List O4) : ((W (tabP T) noS noL 33 (false :: pPre) false (codeOf 33 (false :: pPre)) (mkT 59 (insPre ndY ndP ⟨false, n, m, la, ep⟩ i))).full ⟨hp 0 (ndC false ⟨false, n, m, la, ep⟩ (Cs.of l)), 4, [], []⟩ leafS).take 3 (.x (.n (.n (.c (.n (.n (.c (.c (.c (.leaf [0, 1, 2, 7] 7171))))))))) (.leaf [0, 1, 2, 3] 3)) =
(let i0 := (List.length (k4 l))
let j0 := (0 + Int.toNat i)
(.br (decide (i < (↑n : Int))) (.need (decide (0 ≤ i) && decide (i < (↑n : Int))) (.need (decide (0 + Int.toNat i < List.length (Pt.pre T))) (.need (decide ((List.length (k4 l) + 1) * 32 ≤ 35184372088832)) (.need (decide (0 + List.length (k4 l) ≤ List.length (k4 l))) (.leaf (.normal, mkT 59 [(0, .yld 2), (1, .ptr (.own 1 0 0 0)), (10, .slice (.ro 0 0 0 0) n none), (11, .int .i64 (↑n : Int)), (12, .int .i64 (wr .i64 (i + 1)))], [(0, some (.segs [⟨1, 1, [.val [.slice (.own 3 0 0 4) (List.length (k4 l) + 1) none]]⟩])), (1, some (planB false n m la ep)), (2, some (ndL)), (3, some (.segs [⟨List.length (k4 l) + 1, 4, [.int .i64 (List.take i0 (List.drop 0 (k4 l)) ++ List.take 1 (List.drop 0 [List.getD (k4 (Pt.pre T)) j0 0])), .int .i64 (List.take i0 (List.drop 0 (a4 l)) ++ List.take 1 (List.drop 0 [List.getD (a4 (Pt.pre T)) j0 0])), .int .i64 (List.take i0 (List.drop 0 (b4 l)) ++ List.take 1 (List.drop 0 [List.getD (b4 (Pt.pre T)) j0 0])), .int .i64 (List.take i0 (List.drop 0 (g4 l)) ++ List.take 1 (List.drop 0 [List.getD (g4 (Pt.pre T)) j0 0]))]⟩]))])))))) (.leaf (.exit 0, mkT 59 [(0, .yld 2), (1, .ptr (.own 1 0 0 0))], [(0, some (.segs [⟨1, 1, [.val [.slice (.own 3 0 0 4) i0 none]]⟩])), (1, some (planB false n m la ep)), (2, some (ndL)), (3, some (.segs [⟨List.length (k4 l), 4, [.int .i64 (k4 l), .int .i64 (a4 l), .int .i64 (b4 l), .int .i64 (g4 l)]⟩]))])))) := by kernel_rfl
theorem nd_po1f (T : Pt) (n m par q : Nat) (la ep p j : Int) (l : List O4) : ((W (tabP T) noS noL 33 (false :: pPo) false (codeOf 33 (false :: pPo)) (mkT 59 (insPo ndY m p ⟨false, par, q⟩ j))).full ⟨hp 0 (ndC false ⟨false, n, m, la, ep⟩ (Cs.of l)), 4, [], []⟩ leafS).take 3 (.x (.n (.n (.c (.n (.n (.c (.c (.c (.leaf [0, 1, 2, 7] 15393397669921))))))))) (.leaf [0, 1, 2, 3] 234881025)) =
(let i0 := (List.length (k4 l))
let j0 := (0 + Int.toNat j)
let m0 := (Pt.po T par)
(.br (decide (j < (↑q : Int))) (.need (decide (0 ≤ j) && decide (j < (↑q : Int))) (.need (decide (0 + Int.toNat j < List.length m0)) (.need (decide ((List.length (k4 l) + 1) * 32 ≤ 35184372088832)) (.need (decide (0 + List.length (k4 l) ≤ List.length (k4 l))) (.leaf (.normal, mkT 59 [(0, .yld 2), (5, .int .i64 p), (25, .slice (.ro 1 0 0 0) m none), (26, .int .i64 (↑m : Int)), (27, .int .i64 p), (41, .slice (.ro 2 par 0 0) q none), (42, .int .i64 (↑q : Int)), (43, .int .i64 (wr .i64 (j + 1)))], [(0, some (.segs [⟨1, 1, [.val [.slice (.own 3 0 0 4) (List.length (k4 l) + 1) none]]⟩])), (1, some (planB false n m la ep)), (2, some (ndL)), (3, some (.segs [⟨List.length (k4 l) + 1, 4, [.int .i64 (List.take i0 (List.drop 0 (k4 l)) ++ List.take 1 (List.drop 0 [List.getD (k4 m0) j0 0])), .int .i64 (List.take i0 (List.drop 0 (a4 l)) ++ List.take 1 (List.drop 0 [List.getD (a4 m0) j0 0])), .int .i64 (List.take i0 (List.drop 0 (b4 l)) ++ List.take 1 (List.drop 0 [List.getD (b4 m0) j0 0])), .int .i64 (List.take i0 (List.drop 0 (g4 l)) ++ List.take 1 (List.drop 0 [List.getD (g4 m0) j0 0]))]⟩]))])))))) (.leaf (.exit 4, mkT 59 [(0, .yld 2), (25, .slice (.ro 1 0 0 0) m none), (26, .int .i64 (↑m : Int)), (27, .int .i64 p)], [(0, some (.segs [⟨1, 1, [.val [.slice (.own 3 0 0 4) i0 none]]⟩])), (1, some (planB false n m la ep)), (2, some (ndL)), (3, some (.segs [⟨List.length (k4 l), 4, [.int .i64 (k4 l), .int .i64 (a4 l), .int .i64 (b4 l), .int .i64 (g4 l)]⟩]))])))) := by kernel_rfl
theorem nd_po1t (T : Pt) (m par q : Nat) (la ep p j : Int) (l : List O4) : ((W (tabP T) noS noL 33 (false :: pPo) false (codeOf 33 (false :: pPo)) (mkT 59 (insPo ndY m p ⟨false, par, q⟩ j))).full ⟨hp 0 (ndC false ⟨true, 0, m, la, ep⟩ (Cs.of l)), 4, [], []⟩ leafS).take 3 (.x (.n (.n (.c (.n (.n (.c (.c (.c (.leaf [0, 1, 2, 7] 15393397669921))))))))) (.leaf [0, 1, 2, 3] 234881025)) =
(let i0 := (List.length (k4 l))
let j0 := (0 + Int.toNat j)
let m0 := (Pt.po T par)
(.br (decide (j < (↑q : Int))) (.need (decide (0 ≤ j) && decide (j < (↑q : Int))) (.need (decide (0 + Int.toNat j < List.length m0)) (.need (decide ((List.length (k4 l) + 1) * 32 ≤ 35184372088832)) (.need (decide (0 + List.length (k4 l) ≤ List.length (k4 l))) (.leaf (.normal, mkT 59 [(0, .yld 2), (5, .int .i64 p), (25, .slice (.ro 1 0 0 0) m none), (26, .int .i64 (↑m : Int)), (27, .int .i64 p), (41, .slice (.ro 2 par 0 0) q none), (42, .int .i64 (↑q : Int)), (43, .int .i64 (wr .i64 (j + 1)))], [(0, some (.segs [⟨1, 1, [.val [.slice (.own 3 0 0 4) (List.length (k4 l) + 1) none]]⟩])), (1, some (planB true 0 m la ep)), (2, some (ndL)), (3, some (.segs [⟨List.length (k4 l) + 1, 4, [.int .i64 (List.take i0 (List.drop 0 (k4 l)) ++ List.take 1 (List.drop 0 [List.getD (k4 m0) j0 0])), .int .i64 (List.take i0 (List.drop 0 (a4 l)) ++ List.take 1 (List.drop 0 [List.getD (a4 m0) j0 0])), .int .i64 (List.take i0 (List.drop 0 (b4 l)) ++ List.take 1 (List.drop 0 [List.getD (b4 m0) j0 0])), .int .i64 (List.take i0 (List.drop 0 (g4 l)) ++ List.take 1 (List.drop 0 [List.getD (g4 m0) j0 0]))]⟩]))])))))) (.leaf (.exit 4, mkT 59 [(0, .yld 2), (25, .slice (.ro 1 0 0 0) m none), (26, .int .i64 (↑m : Int)), (27, .int .i64 p)], [(0, some (.segs [⟨1, 1, [.val [.slice (.own 3 0 0 4) i0 none]]⟩])), (1, some (planB true 0 m la ep)), (2, some (ndL)), (3, some (.segs [⟨List.length (k4 l), 4, [.int .i64 (k4 l), .int .i64 (a4 l), .int .i64 (b4 l), .int .i64 (g4 l)]⟩]))])))) := by kernel_rfl
theorem nd_poef (T : Pt) (n m : Nat) (la ep p : Int) (l : List O4) : ((W (tabP T) noS noL 33 (false :: pPo) false (codeOf 33 (false :: pPo)) (mkT 59 (insPo ndY m p ⟨true, 0, 0⟩ 0))).full ⟨hp 0 (ndC false ⟨false, n, m, la, ep⟩ (Cs.of l)), 4, [], []⟩ leafS).take 3 (.c (.leaf [0, 1, 2, 3] 234881025)) =
(.leaf (.exit 4, mkT 59 [(0, .yld 2), (25, .slice (.ro 1 0 0 0) m none), (26, .int .i64 (↑m : Int)), (27, .int .i64 p)], [(0, some (.segs [⟨1, 1, [.val [.slice (.own 3 0 0 4) (List.length (k4 l)) none]]⟩])), (1, some (planB false n m la ep)), (2, some (ndL)), (3, some (.segs [⟨List.length (k4 l), 4, [.int .i64 (k4 l), .int .i64 (a4 l), .int .i64 (b4 l), .int .i64 (g4 l)]⟩]))])) := by kernel_rfl
theorem nd_poet (T : Pt) (m : Nat) (la ep p : Int) (l : List O4) : ((W (tabP T) noS noL 33 (false :: pPo) false (codeOf 33 (false :: pPo)) (mkT 59 (insPo ndY m p ⟨true, 0, 0⟩ 0))).full ⟨hp 0 (ndC false ⟨true, 0, m, la, ep⟩ (Cs.of l)), 4, [], []⟩ leafS).take 3 (.c (.leaf [0, 1, 2, 3] 234881025)) =
(.leaf (.exit 4, mkT 59 [(0, .yld 2), (25, .slice (.ro 1 0 0 0) m none), (26, .int .i64 (↑m : Int)), (27, .int .i64 p)], [(0, some (.segs [⟨1, 1, [.val [.slice (.own 3 0 0 4) (List.length (k4 l)) none]]⟩])), (1, some (planB true 0 m la ep)), (2, some (ndL)), (3, some (.segs [⟨List.length (k4 l), 4, [.int .i64 (k4 l), .int .i64 (a4 l), .int .i64 (b4 l), .int .i64 (g4 l)]⟩]))])) := by kernel_rfl
theorem nd_st0f (T : Pt) (n m : Nat) (la ep p : Int) : ((execT (W (tabP T) noS noL) (ndTPo T) 3 400 33 (false :: pSt) (codeOf 33 (false :: pSt)) (mkT 59 (insSt ndY m p)) ⟨hp 0 (ndC true ⟨false, n, m, la, ep⟩ (Cs.of [])), 3, [], []⟩ leafQ)).take 3 (.x (.n (.n (.x (csQ 6 (.n (.n (.c (.a (.i (.leaf [0, 1, 2, 3] 234881025))))))) (csQ 6 (.n (.n (.n (.a (.i (.leaf [0, 1, 2, 3] 234881025)))))))))) (.leaf [0, 1, 2] 0)) =
(let m0 := (0 + Int.toNat p)
let i1 := (List.take 1 (List.drop 0 [List.getD (a4 (Pt.st T)) m0 0]))
let j1 := (List.take 1 (List.drop 0 [List.getD (b4 (Pt.st T)) m0 0]))
let q0 := (List.take 1 (List.drop 0 [List.getD (k4 (Pt.st T)) m0 0]))
let m1 := (List.take 1 (List.drop 0 [List.getD (g4 (Pt.st T)) m0 0]))
let i0 := (un4 q0 i1 j1 m1)
let j0 := (okBl [.segs [⟨1, 1, [.val [.slice (.own 3 0 0 4) 1 none]]⟩], planB false n m la ep, ndL, .segs [⟨1, 4, [.int .i64 q0, .int .i64 i1, .int .i64 j1, .int .i64 m1]⟩]] [.segs [⟨1, 1, [.val [.slice (.own 3 0 0 4) (List.length (k4 i0)) none]]⟩], planB false n m la ep, ndL, .segs [⟨List.length (k4 i0), 4, [.int .i64 (k4 i0), .int .i64 (a4 i0), .int .i64 (b4 i0), .int .i64 (g4 i0)]⟩]])
let u0 := (List.take 1 (List.drop 0 [List.getD (List.set [0] 0 (List.getD (List.set [0] 0 (List.getD (k4 (Pt.st T)) m0 0)) 0 0)) 0 0]))
let v0 := (List.take 1 (List.drop 0 [List.getD (List.set [0] 0 (List.getD (List.set [0] 0 (List.getD (a4 (Pt.st T)) m0 0)) 0 0)) 0 0]))
let w0 := (List.take 1 (List.drop 0 [List.getD (List.set [0] 0 (List.getD (List.set [0] 0 (List.getD (b4 (Pt.st T)) m0 0)) 0 0)) 0 0]))
let x0 := (List.take 1 (List.drop 0 [List.getD (List.set [0] 0 (List.getD (List.set [0] 0 (List.getD (g4 (Pt.st T)) m0 0)) 0 0)) 0 0]))
let z0 : List (Nat × AVal) := [(0, .yld 2), (25, .slice (.ro 1 0 0 0) m none), (26, .int .i64 (↑m : Int)), (27, .int .i64 (wr .i64 (p + 1)))]
let u1 := (planB false n m la ep)
(.br (decide (p < (↑m : Int))) (.need (decide (0 ≤ p) && decide (p < (↑m : Int))) (.need (decide (0 + Int.toNat p < List.length (Pt.st T))) (.br (List.getD (Pt.fs T) m0 true) (.need (rf p && (rf m && true && (rf ((↑m : Int)) && (rf p && true)))) (.need j0 (.all (List O4) fun (y2 : List O4) => (.imp (y2 = un4 u0 v0 w0 x0 ++ poL T { f := true, par := 0, q := 0 }) (.leaf (.normal, mkT 59 z0, [(0, some (.segs [⟨1, 1, [.val [.slice (.own 3 0 0 4) (List.length (k4 y2)) none]]⟩])), (1, some u1), (2, some (ndL)), (3, some (.segs [⟨List.length (k4 y2), 4, [.int .i64 (k4 y2), .int .i64 (a4 y2), .int .i64 (b4 y2), .int .i64 (g4 y2)]⟩]))])))))) (.need (rf p && (rf m && true && (rf ((↑m : Int)) && (rf p && (rf m0 && true && (rf (List.getD (Pt.ns T) m0 0) && true) && (rf ((↑(List.getD (Pt.ns T) m0 0) : Int)) && true)))))) (.need j0 (.need (okQ T p { f := false, par := 0 + Int.toNat p, q := List.getD (Pt.ns T) m0 0 }) (.all (List O4) fun (y2 : List O4) => (.imp (y2 = un4 u0 v0 w0 x0 ++ poL T { f := false, par := 0 + Int.toNat p, q := List.getD (Pt.ns T) m0 0 }) (.leaf (.normal, mkT 59 z0, [(0, some (.segs [⟨1, 1, [.val [.slice (.own 3 0 0 4) (List.length (k4 y2)) none]]⟩])), (1, some u1), (2, some (ndL)), (3, some (.segs [⟨List.length (k4 y2), 4, [.int .i64 (k4 y2), .int .i64 (a4 y2), .int .i64 (b4 y2), .int .i64 (g4 y2)]⟩]))])))))))))) (.leaf (.exit 2, mkT 59 [], [(0, some (.segs [⟨1, 1, [.val [.nils]]⟩])), (1, some u1), (2, some (ndL))])))) := by kernel_rfl
theorem nd_st0t (T : Pt) (m : Nat) (la ep p : Int) : ((execT (W (tabP T) noS noL) (ndTPo T) 3 400 33 (false :: pSt) (codeOf 33 (false :: pSt)) (mkT 59 (insSt ndY m p)) ⟨hp 0 (ndC true ⟨true, 0, m, la, ep⟩ (Cs.of [])), 3, [], []⟩ leafQ)).take 3 (.x (.n (.n (.x (csQ 6 (.n (.n (.c (.a (.i (.leaf [0, 1, 2, 3] 234881025))))))) (csQ 6 (.n (.n (.n (.a (.i (.leaf [0, 1, 2, 3] 234881025)))))))))) (.leaf [0, 1, 2] 0)) =
(let m0 := (0 + Int.toNat p)
let i1 := (List.take 1 (List.drop 0 [List.getD (a4 (Pt.st T)) m0 0]))
let j1 := (List.take 1 (List.drop 0 [List.getD (b4 (Pt.st T)) m0 0]))
let q0 := (List.take 1 (List.drop 0 [List.getD (k4 (Pt.st T)) m0 0]))
let m1 := (List.take 1 (List.drop 0 [List.getD (g4 (Pt.st T)) m0 0]))
let i0 := (un4 q0 i1 j1 m1)
let j0 := (okBl [.segs [⟨1, 1, [.val [.slice (.own 3 0 0 4) 1 none]]⟩], planB true 0 m la ep, ndL, .segs [⟨1, 4, [.int .i64 q0, .int .i64 i1, .int .i64 j1, .int .i64 m1]⟩]] [.segs [⟨1, 1, [.val [.slice (.own 3 0 0 4) (List.length (k4 i0)) none]]⟩], planB true 0 m la ep, ndL, .segs [⟨List.length (k4 i0), 4, [.int .i64 (k4 i0), .int .i64 (a4 i0), .int .i64 (b4 i0), .int .i64 (g4 i0)]⟩]])
let u0 := (List.take 1 (List.drop 0 [List.getD (List.set [0] 0 (List.getD (List.set [0] 0 (List.getD (k4 (Pt.st T)) m0 0)) 0 0)) 0 0]))
let v0 := (List.take 1 (List.drop 0 [List.getD (List.set [0] 0 (List.getD (List.set [0] 0 (List.getD (a4 (Pt.st T)) m0 0)) 0 0)) 0 0]))
let w0 := (List.take 1 (List.drop 0 [List.getD (List.set [0] 0 (List.getD (List.set [0] 0 (List.getD (b4 (Pt.st T)) m0 0)) 0 0)) 0 0]))
let x0 := (List.take 1 (List.drop 0 [List.getD (List.set [0] 0 (List.getD (List.set [0] 0 (List.getD (g4 (Pt.st T)) m0 0)) 0 0)) 0 0]))
let z0 : List (Nat × AVal) := [(0, .yld 2), (25, .slice (.ro 1 0 0 0) m none), (26, .int .i64 (↑m : Int)), (27, .int .i64 (wr .i64 (p + 1)))]
(.br (decide (p < (↑m : Int))) (.need (decide (0 ≤ p) && decide (p < (↑m : Int))) (.need (decide (0 + Int.toNat p < List.length (Pt.st T))) (.br (List.getD (Pt.fs T) m0 true) (.need (rf p && (rf m && true && (rf ((↑m : Int)) && (rf p && true)))) (.need j0 (.all (List O4) fun (y2 : List O4) => (.imp (y2 = un4 u0 v0 w0 x0 ++ poL T { f := true, par := 0, q := 0 }) (.leaf (.normal, mkT 59 z0, [(0, some (.segs [⟨1, 1, [.val [.slice (.own 3 0 0 4) (List.length (k4 y2)) none]]⟩])), (1, some (planB true 0 m la ep)), (2, some (ndL)), (3, some (.segs [⟨List.length (k4 y2), 4, [.int .i64 (k4 y2), .int .i64 (a4 y2), .int .i64 (b4 y2), .int .i64 (g4 y2)]⟩]))])))))) (.need (rf p && (rf m && true && (rf ((↑m : Int)) && (rf p && (rf m0 && true && (rf (List.getD (Pt.ns T) m0 0) && true) && (rf ((↑(List.getD (Pt.ns T) m0 0) : Int)) && true)))))) (.need j0 (.need (okQ T p { f := false, par := 0 + Int.toNat p, q := List.getD (Pt.ns T) m0 0 }) (.all (List O4) fun (y2 : List O4) => (.imp (y2 = un4 u0 v0 w0 x0 ++ poL T { f := false, par := 0 + Int.toNat p, q := List.getD (Pt.ns T) m0 0 }) (.leaf (.normal, mkT 59 z0, [(0, some (.segs [⟨1, 1, [.val [.slice (.own 3 0 0 4) (List.length (k4 y2)) none]]⟩])), (1, some (planB true 0 m la ep)), (2, some (ndL)), (3, some (.segs [⟨List.length (k4 y2), 4, [.int .i64 (k4 y2), .int .i64 (a4 y2), .int .i64 (b4 y2), .int .i64 (g4 y2)]⟩]))])))))))))) (.leaf (.exit 2, mkT 59 [], [(0, some (.segs [⟨1, 1, [.val [.nils]]⟩])), (1, some (planB true 0 m la ep)), (2, some (ndL))])))) := by kernel_rfl
theorem nd_st1f (T : Pt) (n m : Nat) (la ep p : Int) (l : List O4) : ((execT (W (tabP T) noS noL) (ndTPo T) 3 400 33 (false :: pSt) (codeOf 33 (false :: pSt)) (mkT 59 (insSt ndY m p)) ⟨hp 0 (ndC false ⟨false, n, m, la, ep⟩ (Cs.of l)), 4, [], []⟩ leafQ)).take 3 (.x (.n (.n (.x (.c (.n (.n (csQ 4 (.n (.n (.n (.a (.i (.leaf [0, 1, 2, 3] 234881025)))))))))) (.c (.n (.n (csQ 4 (.n (.n (.n (.a (.i (.leaf [0, 1, 2, 3] 234881025))))))))))))) (.leaf [0, 1, 2, 3] 0)) =
(let m0 := (0 + Int.toNat p)
let u0 := (List.length (k4 l))
let i1 := (List.take u0 (List.drop 0 (a4 l)) ++ List.take 1 (List.drop 0 [List.getD (a4 (Pt.st T)) m0 0]))
let j1 := (List.take u0 (List.drop 0 (b4 l)) ++ List.take 1 (List.drop 0 [List.getD (b4 (Pt.st T)) m0 0]))
let q0 := (List.take u0 (List.drop 0 (k4 l)) ++ List.take 1 (List.drop 0 [List.getD (k4 (Pt.st T)) m0 0]))
let m1 := (List.take u0 (List.drop 0 (g4 l)) ++ List.take 1 (List.drop 0 [List.getD (g4 (Pt.st T)) m0 0]))
let i0 := (un4 q0 i1 j1 m1)
let j0 := (okBl [.segs [⟨1, 1, [.val [.slice (.own 3 0 0 4) (List.length (k4 l) + 1) none]]⟩], planB false n m la ep, ndL, .segs [⟨List.length (k4 l) + 1, 4, [.int .i64 q0, .int .i64 i1, .int .i64 j1, .int .i64 m1]⟩]] [.segs [⟨1, 1, [.val [.slice (.own 3 0 0 4) (List.length (k4 i0)) none]]⟩], planB false n m la ep, ndL, .segs [⟨List.length (k4 i0), 4, [.int .i64 (k4 i0), .int .i64 (a4 i0), .int .i64 (b4 i0), .int .i64 (g4 i0)]⟩]])
let v0 := (List.take u0 (List.drop 0 (k4 l)) ++ List.take 1 (List.drop 0 [List.getD (List.set [0] 0 (List.getD (List.set [0] 0 (List.getD (k4 (Pt.st T)) m0 0)) 0 0)) 0 0]))
let w0 := (List.take u0 (List.drop 0 (a4 l)) ++ List.take 1 (List.drop 0 [List.getD (List.set [0] 0 (List.getD (List.set [0] 0 (List.getD (a4 (Pt.st T)) m0 0)) 0 0)) 0 0]))
let x0 := (List.take u0 (List.drop 0 (b4 l)) ++ List.take 1 (List.drop 0 [List.getD (List.set [0] 0 (List.getD (List.set [0] 0 (List.getD (b4 (Pt.st T)) m0 0)) 0 0)) 0 0]))
let z0 := (List.take u0 (List.drop 0 (g4 l)) ++ List.take 1 (List.drop 0 [List.getD (List.set [0] 0 (List.getD (List.set [0] 0 (List.getD (g4 (Pt.st T)) m0 0)) 0 0)) 0 0]))
let u1 : List (Nat × AVal) := [(0, .yld 2), (25, .slice (.ro 1 0 0 0) m none), (26, .int .i64 (↑m : Int)), (27, .int .i64 (wr .i64 (p + 1)))]
let v1 : Bool := (decide ((List.length (k4 l) + 1) * 32 ≤ 35184372088832))
let w1 : Bool := (decide (0 + List.length (k4 l) ≤ List.length (k4 l)))
let x1 := (planB false n m la ep)
(.br (decide (p < (↑m : Int))) (.need (decide (0 ≤ p) && decide (p < (↑m : Int))) (.need (decide (0 + Int.toNat p < List.length (Pt.st T))) (.br (List.getD (Pt.fs T) m0 true) (.need v1 (.need w1 (.need (rf p && (rf m && true && (rf ((↑m : Int)) && (rf p && true)))) (.need j0 (.need (decide (List.length i0 ≤ 100) && true) (.all (List O4) fun (y2 : List O4) => (.imp (y2 = un4 v0 w0 x0 z0 ++ poL T { f := true, par := 0, q := 0 }) (.leaf (.normal, mkT 59 u1, [(0, some (.segs [⟨1, 1, [.val [.slice (.own 3 0 0 4) (List.length (k4 y2)) none]]⟩])), (1, some x1), (2, some (ndL)), (3, some (.segs [⟨List.length (k4 y2), 4, [.int .i64 (k4 y2), .int .i64 (a4 y2), .int .i64 (b4 y2), .int .i64 (g4 y2)]⟩]))]))))))))) (.need v1 (.need w1 (.need (rf p && (rf m && true && (rf ((↑m : Int)) && (rf p && (rf m0 && true && (rf (List.getD (Pt.ns T) m0 0) && true) && (rf ((↑(List.getD (Pt.ns T) m0 0) : Int)) && true)))))) (.need j0 (.need (decide (List.length i0 ≤ 100) && okQ T p { f := false, par := 0 + Int.toNat p, q := List.getD (Pt.ns T) m0 0 }) (.all (List O4) fun (y2 : List O4) => (.imp (y2 = un4 v0 w0 x0 z0 ++ poL T { f := false, par := 0 + Int.toNat p, q := List.getD (Pt.ns T) m0 0 }) (.leaf (.normal, mkT 59 u1, [(0, some (.segs [⟨1, 1, [.val [.slice (.own 3 0 0 4) (List.length (k4 y2)) none]]⟩])), (1, some x1), (2, some (ndL)), (3, some (.segs [⟨List.length (k4 y2), 4, [.int .i64 (k4 y2), .int .i64 (a4 y2), .int .i64 (b4 y2), .int .i64 (g4 y2)]⟩]))])))))))))))) (.leaf (.exit 2, mkT 59 [], [(0, some (.segs [⟨1, 1, [.val [.slice (.own 3 0 0 4) u0 none]]⟩])), (1, some x1), (2, some (ndL)), (3, some (.segs [⟨List.length (k4 l), 4, [.int .i64 (k4 l), .int .i64 (a4 l), .int .i64 (b4 l), .int .i64 (g4 l)]⟩]))])))) := by kernel_rfl
theorem nd_st1t (T : Pt) (m : Nat) (la ep p : Int) (l : List O4) : ((execT (W (tabP T) noS noL) (ndTPo T) 3 400 33 (false :: pSt) (codeOf 33 (false :: pSt)) (mkT 59 (insSt ndY m p)) ⟨hp 0 (ndC false ⟨true, 0, m, la, ep⟩ (Cs.of l)), 4, [], []⟩ leafQ)).take 3 (.x (.n (.n (.x (.c (.n (.n (csQ 4 (.n (.n (.n (.a (.i (.leaf [0, 1, 2, 3] 234881025)))))))))) (.c (.n (.n (csQ 4 (.n (.n (.n (.a (.i (.leaf [0, 1, 2, 3] 234881025))))))))))))) (.leaf [0, 1, 2, 3] 0)) =
(let m0 := (0 + Int.toNat p)
let u0 := (List.length (k4 l))
let i1 := (List.take u0 (List.drop 0 (a4 l)) ++ List.take 1 (List.drop 0 [List.getD (a4 (Pt.st T)) m0 0]))
let j1 := (List.take u0 (List.drop 0 (b4 l)) ++ List.take 1 (List.drop 0 [List.getD (b4 (Pt.st T)) m0 0]))
let q0 := (List.take u0 (List.drop 0 (k4 l)) ++ List.take 1 (List.drop 0 [List.getD (k4 (Pt.st T)) m0 0]))
let m1 := (List.take u0 (List.drop 0 (g4 l)) ++ List.take 1 (List.drop 0 [List.getD (g4 (Pt.st T)) m0 0]))
let i0 := (un4 q0 i1 j1 m1)
let j0 := (okBl [.segs [⟨1, 1, [.val [.slice (.own 3 0 0 4) (List.length (k4 l) + 1) none]]⟩], planB true 0 m la ep, ndL, .segs [⟨List.length (k4 l) + 1, 4, [.int .i64 q0, .int .i64 i1, .int .i64 j1, .int .i64 m1]⟩]] [.segs [⟨1, 1, [.val [.slice (.own 3 0 0 4) (List.length (k4 i0)) none]]⟩], planB true 0 m la ep, ndL, .segs [⟨List.length (k4 i0), 4, [.int .i64 (k4 i0), .int .i64 (a4 i0), .int .i64 (b4 i0), .int .i64 (g4 i0)]⟩]])
let v0 := (List.take u0 (List.drop 0 (k4 l)) ++ List.take 1 (List.drop 0 [List.getD (List.set [0] 0 (List.getD (List.set [0] 0 (List.getD (k4 (Pt.st T)) m0 0)) 0 0)) 0 0]))
let w0 := (List.take u0 (List.drop 0 (a4 l)) ++ List.take 1 (List.drop 0 [List.getD (List.set [0] 0 (List.getD (List.set [0] 0 (List.getD (a4 (Pt.st T)) m0 0)) 0 0)) 0 0]))
let x0 := (List.take u0 (List.drop 0 (b4 l)) ++ List.take 1 (List.drop 0 [List.getD (List.set [0] 0 (List.getD (List.set [0] 0 (List.getD (b4 (Pt.st T)) m0 0)) 0 0)) 0 0]))
let z0 := (List.take u0 (List.drop 0 (g4 l)) ++ List.take 1 (List.drop 0 [List.getD (List.set [0] 0 (List.getD (List.set [0] 0 (List.getD (g4 (Pt.st T)) m0 0)) 0 0)) 0 0]))
let u1 : List (Nat × AVal) := [(0, .yld 2), (25, .slice (.ro 1 0 0 0) m none), (26, .int .i64 (↑m : Int)), (27, .int .i64 (wr .i64 (p + 1)))]
let v1 : Bool := (decide ((List.length (k4 l) + 1) * 32 ≤ 35184372088832))
let w1 : Bool := (decide (0 + List.length (k4 l) ≤ List.length (k4 l)))
(.br (decide (p < (↑m : Int))) (.need (decide (0 ≤ p) && decide (p < (↑m : Int))) (.need (decide (0 + Int.toNat p < List.length (Pt.st T))) (.br (List.getD (Pt.fs T) m0 true) (.need v1 (.need w1 (.need (rf p && (rf m && true && (rf ((↑m : Int)) && (rf p && true)))) (.need j0 (.need (decide (List.length i0 ≤ 100) && true) (.all (List O4) fun (y2 : List O4) => (.imp (y2 = un4 v0 w0 x0 z0 ++ poL T { f := true, par := 0, q := 0 }) (.leaf (.normal, mkT 59 u1, [(0, some (.segs [⟨1, 1, [.val [.slice (.own 3 0 0 4) (List.length (k4 y2)) none]]⟩])), (1, some (planB true 0 m la ep)), (2, some (ndL)), (3, some (.segs [⟨List.length (k4 y2), 4, [.int .i64 (k4 y2), .int .i64 (a4 y2), .int .i64 (b4 y2), .int .i64 (g4 y2)]⟩]))]))))))))) (.need v1 (.need w1 (.need (rf p && (rf m && true && (rf ((↑m : Int)) && (rf p && (rf m0 && true && (rf (List.getD (Pt.ns T) m0 0) && true) && (rf ((↑(List.getD (Pt.ns T) m0 0) : Int)) && true)))))) (.need j0 (.need (decide (List.length i0 ≤ 100) && okQ T p { f := false, par := 0 + Int.toNat p, q := List.getD (Pt.ns T) m0 0 }) (.all (List O4) fun (y2 : List O4) => (.imp (y2 = un4 v0 w0 x0 z0 ++ poL T { f := false, par := 0 + Int.toNat p, q := List.getD (Pt.ns T) m0 0 }) (.leaf (.normal, mkT 59 u1, [(0, some (.segs [⟨1, 1, [.val [.slice (.own 3 0 0 4) (List.length (k4 y2)) none]]⟩])), (1, some (planB true 0 m la ep)), (2, some (ndL)), (3, some (.segs [⟨List.length (k4 y2), 4, [.int .i64 (k4 y2), .int .i64 (a4 y2), .int .i64 (b4 y2), .int .i64 (g4 y2)]⟩]))])))))))))))) (.leaf (.exit 2, mkT 59 [], [(0, some (.segs [⟨1, 1, [.val [.slice (.own 3 0 0 4) u0 none]]⟩])), (1, some (planB true 0 m la ep)), (2, some (ndL)), (3, some (.segs [⟨List.length (k4 l), 4, [.int .i64 (k4 l), .int .i64 (a4 l), .int .i64 (b4 l), .int .i64 (g4 l)]⟩]))])))) := by kernel_rfl
theorem nd_fn0 (T : Pt) (n m : Nat) (la ep : Int) : ((callT Try.prog (tabP T) (W (tabP T) noS noL) (ndT T) 3 33 [ndY, ndP] ⟨hp 0 (ndC true ⟨false, n, m, la, ep⟩ (Cs.of [])), 3, [], []⟩)).take 3 (.c (.n (.n (.n (.b (.a (.i (.c (.n (.n (.n (.a (.i (.leaf [0, 1, 2, 3] 0))))))))) (.a (.i (.c (.n (.n (.n (.a (.i (.leaf [0, 1, 2, 3] 0)))))))))))))) =
(let i0 := (okBl [.segs [⟨1, 1, [.val [.nils]]⟩], planB false n m la ep, ndL] [.segs [⟨1, 1, [.val [.nils]]⟩], planB false n m la ep, ndL])
(.need (rf n && true && (rf ((↑n : Int)) && true)) (.need i0 (.need (okW T ⟨false, n, m, la, ep⟩) (.both (.all (List O4) fun (y1 : List O4) => (let j0 := (un4 (k4 y1) (a4 y1) (b4 y1) (g4 y1))
(.imp (y1 = Pt.pre T ∧ y1 ≠ []) (.need (rf m && true && (rf ((↑m : Int)) && true)) (.need (okBl [.segs [⟨1, 1, [.val [.slice (.own 3 0 0 4) (List.length (k4 y1)) none]]⟩], planB false n m la ep, ndL, .segs [⟨List.length (k4 y1), 4, [.int .i64 (k4 y1), .int .i64 (a4 y1), .int .i64 (b4 y1), .int .i64 (g4 y1)]⟩]] [.segs [⟨1, 1, [.val [.slice (.own 3 0 0 4) (List.length (k4 j0)) none]]⟩], planB false n m la ep, ndL, .segs [⟨List.length (k4 j0), 4, [.int .i64 (k4 j0), .int .i64 (a4 j0), .int .i64 (b4 j0), .int .i64 (g4 j0)]⟩]]) (.need (okS false j0 && okW T ⟨false, n, m, la, ep⟩) (.all (List O4) fun (y2 : List O4) => (.imp (y2 = un4 (k4 y1) (a4 y1) (b4 y1) (g4 y1) ++ opsSt T) (.leaf (.ret, mkT 1 [], [(0, some (.segs [⟨1, 1, [.val [.slice (.own 3 0 0 4) (List.length (k4 y2)) none]]⟩])), (1, some (planB false n m la ep)), (2, some (ndL)), (3, some (.segs [⟨List.length (k4 y2), 4, [.int .i64 (k4 y2), .int .i64 (a4 y2), .int .i64 (b4 y2), .int .i64 (g4 y2)]⟩]))])))))))))) (.all (PUnit) fun (y1 : PUnit) => (.imp (Pt.pre T = []) (.need (rf m && true && (rf ((↑m : Int)) && true)) (.need i0 (.need (okW T ⟨false, n, m, la, ep⟩) (.all (List O4) fun (y2 : List O4) => (.imp (y2 = [] ++ opsSt T) (.leaf (.ret, mkT 1 [], [(0, some (.segs [⟨1, 1, [.val [.slice (.own 3 0 0 4) (List.length (k4 y2)) none]]⟩])), (1, some (planB false n m la ep)), (2, some (ndL)), (3, some (.segs [⟨List.length (k4 y2), 4, [.int .i64 (k4 y2), .int .i64 (a4 y2), .int .i64 (b4 y2), .int .i64 (g4 y2)]⟩]))])))))))))))))) := by kernel_rfl
theorem nd_fne (T : Pt) (m : Nat) (la ep : Int) : ((callT Try.prog (tabP T) (W (tabP T) noS noL) (ndT T) 3 33 [ndY, ndP] ⟨hp 0 (ndC true ⟨true, 0, m, la, ep⟩ (Cs.of [])), 3, [], []⟩)).take 3 (.c (.c (.n (.n (.b (.a (.i (.c (.n (.n (.n (.a (.i (.leaf [0, 1, 2, 3] 0))))))))) (.a (.i (.c (.n (.n (.n (.a (.i (.leaf [0, 1, 2, 3] 0)))))))))))))) =
(let i0 := (okBl [.segs [⟨1, 1, [.val [.nils]]⟩], planB true 0 m la ep, ndL] [.segs [⟨1, 1, [.val [.nils]]⟩], planB true 0 m la ep, ndL])
(.need i0 (.need (okW T ⟨true, 0, m, la, ep⟩) (.both (.all (List O4) fun (y1 : List O4) => (let j0 := (un4 (k4 y1) (a4 y1) (b4 y1) (g4 y1))
(.imp (y1 = Pt.pre T ∧ y1 ≠ []) (.need (rf m && true && (rf ((↑m : Int)) && true)) (.need (okBl [.segs [⟨1, 1, [.val [.slice (.own 3 0 0 4) (List.length (k4 y1)) none]]⟩], planB true 0 m la ep, ndL, .segs [⟨List.length (k4 y1), 4, [.int .i64 (k4 y1), .int .i64 (a4 y1), .int .i64 (b4 y1), .int .i64 (g4 y1)]⟩]] [.segs [⟨1, 1, [.val [.slice (.own 3 0 0 4) (List.length (k4 j0)) none]]⟩], planB true 0 m la ep, ndL, .segs [⟨List.length (k4 j0), 4, [.int .i64 (k4 j0), .int .i64 (a4 j0), .int .i64 (b4 j0), .int .i64 (g4 j0)]⟩]]) (.need (okS false j0 && okW T ⟨true, 0, m, la, ep⟩) (.all (List O4) fun (y2 : List O4) => (.imp (y2 = un4 (k4 y1) (a4 y1) (b4 y1) (g4 y1) ++ opsSt T) (.leaf (.ret, mkT 1 [], [(0, some (.segs [⟨1, 1, [.val [.slice (.own 3 0 0 4) (List.length (k4 y2)) none]]⟩])), (1, some (planB true 0 m la ep)), (2, some (ndL)), (3, some (.segs [⟨List.length (k4 y2), 4, [.int .i64 (k4 y2), .int .i64 (a4 y2), .int .i64 (b4 y2), .int .i64 (g4 y2)]⟩]))])))))))))) (.all (PUnit) fun (y1 : PUnit) => (.imp (Pt.pre T = []) (.need (rf m && true && (rf ((↑m : Int)) && true)) (.need i0 (.need (okW T ⟨true, 0, m, la, ep⟩) (.all (List O4) fun (y2 : List O4) => (.imp (y2 = [] ++ opsSt T) (.leaf (.ret, mkT 1 [], [(0, some (.segs [⟨1, 1, [.val [.slice (.own 3 0 0 4) (List.length (k4 y2)) none]]⟩])), (1, some (planB true 0 m la ep)), (2, some (ndL)), (3, some (.segs [⟨List.length (k4 y2), 4, [.int .i64 (k4 y2), .int .i64 (a4 y2), .int .i64 (b4 y2), .int .i64 (g4 y2)]⟩]))]))))))))))))) := by kernel_rfl
theorem nodes0 (T : Pt) (n m : Nat) (la ep : Int) : ((callT Try.prog (tabP T) (W (tabP T) noS noL) (ndTR T) 0 8 [Pw.v ⟨false, n, m, la, ep⟩] ⟨hp 0 [], 0, [], []⟩)).take 0 (.c (.n (.n (.a (.i (.leaf [1] 1)))))) =
(.need (rf n && true && true && true && (rf m && true && true && true && (rf [la] && true && (rf [ep] && true && true))) && true) (.need (okW T ⟨false, n, m, la, ep⟩) (.all (List O4) fun (y0 : List O4) => (.imp (y0 = Pt.pre T ++ opsSt T) (.leaf (.ret, mkT 1 [(0, .slice (.own 0 0 0 4) (List.length (k4 y0)) none)], [(0, some (.segs [⟨List.length (k4 y0), 4, [.int .i64 (k4 y0), .int .i64 (a4 y0), .int .i64 (b4 y0), .int .i64 (g4 y0)]⟩]))])))))) := by kernel_rfl
theorem nodese (T : Pt) (m : Nat) (la ep : Int) : ((callT Try.prog (tabP T) (W (tabP T) noS noL) (ndTR T) 0 8 [Pw.v ⟨true, 0, m, la, ep⟩] ⟨hp 0 [], 0, [], []⟩)).take 0 (.c (.n (.n (.a (.i (.leaf [1] 1)))))) =
(.need (rf m && true && true && true && (rf [la] && true && (rf [ep] && true && true)) && true) (.need (okW T ⟨true, 0, m, la, ep⟩) (.all (List O4) fun (y0 : List O4) => (.imp (y0 = Pt.pre T ++ opsSt T) (.leaf (.ret, mkT 1 [(0, .slice (.own 0 0 0 4) (List.length (k4 y0)) none)], [(0, some (.segs [⟨List.length (k4 y0), 4, [.int .i64 (k4 y0), .int .i64 (a4 y0), .int .i64 (b4 y0), .int .i64 (g4 y0)]⟩]))])))))) := by kernel_rfl
end Go.Proofs.Ytompijagcjjamaa

namespace Go.Proofs.Ytompijagcjjamaa
open Ab
theorem tabP_plain (T : Pt) : Plain (tabP T) := by
  intro tid par j v hv
  obtain ⟨_, s, hs, rfl⟩ := cellOf_seg hv
  rcases tid with _ | _ | _ | tid
  · simp only [tabP] at hs
    have hj := Nat.mod_lt j (show 0 < 4 by omega)
    generalize j % 4 = q at hs hj
    rcases q with _ | _ | _ | _ | q <;> first | omega | skip
    all_goals simp only [List.getElem?_cons_zero, List.getElem?_cons_succ, Option.some.injEq] at hs
    all_goals subst hs
    all_goals rfl
  · simp only [tabP] at hs
    have hj := Nat.mod_lt j (show 0 < 5 by omega)
    generalize j % 5 = q at hs hj
    rcases q with _ | _ | _ | _ | _ | q <;> first | omega | skip
    all_goals simp only [List.getElem?_cons_zero, List.getElem?_cons_succ, Option.some.injEq] at hs
    all_goals subst hs
    all_goals first | rfl | skip
    simp only [colAt]
    split
    · rfl
    · rfl
  · simp only [tabP] at hs
    have hj := Nat.mod_lt j (show 0 < 4 by omega)
    generalize j % 4 = q at hs hj
    rcases q with _ | _ | _ | _ | q <;> first | omega | skip
    all_goals simp only [List.getElem?_cons_zero, List.getElem?_cons_succ, Option.some.injEq] at hs
    all_goals subst hs
    all_goals rfl
  · simp only [tabP, Nat.mod_one, List.getElem?_cons_zero, Option.some.injEq] at hs
    subst hs; rfl
theorem k4_length (l : List O4) : (k4 l).length = l.length := List.length_map _
theorem k4_get {l : List O4} {i : Nat} (h : i < l.length) : (k4 l).getD i 0 = (l.getD i z4).k := by rw [k4, getD_map h, getD_at h]
theorem a4_get {l : List O4} {i : Nat} (h : i < l.length) : (a4 l).getD i 0 = (l.getD i z4).a := by rw [a4, getD_map h, getD_at h]
theorem b4_get {l : List O4} {i : Nat} (h : i < l.length) : (b4 l).getD i 0 = (l.getD i z4).b := by rw [b4, getD_map h, getD_at h]
theorem g4_get {l : List O4} {i : Nat} (h : i < l.length) : (g4 l).getD i 0 = (l.getD i z4).g := by rw [g4, getD_map h, getD_at h]
theorem col_grown (l : List O4) (f : O4 → Int) (x : O4) : List.take (k4 l).length (l.map f) ++ List.take 1 [f x] = (l ++ [x]).map f := by
  rw [k4_length, List.take_of_length_le (by simp)]
  simp
theorem okW_iff {T : Pt} {w : Pw} : okW T w = true ↔ w.e = T.e ∧ w.n = T.pre.length ∧ w.m = T.st.length := by
  simp only [okW, Bool.and_eq_true, decide_eq_true_eq]
noncomputable def ndH (w : Pw) (l : List O4) : List Blk := ndC l.isEmpty w (Cs.of l)
def ndStep (l : List O4) (a : Nd) : Res (List O4) := .on (l ++ [a.x])
theorem ndH_snoc (w : Pw) (l : List O4) (x : O4) : ndH w (l ++ [x]) = ndC false w (Cs.of (l ++ [x])) := by
  cases l <;> rfl
theorem runS_nd : ∀ (L : List Nd) (l : List O4), runS ndStep L l = .on (l ++ L.map Nd.x)
  | [], l => by simp [runS]
  | a :: L, l => by
    simp only [runS, ndStep]
    have := runS_nd L (l ++ [a.x])
    rw [this]; simp
theorem noS_ok {E : Nat → Nat → Seg} {ra : Nat → Nat → Nat × Nat} {base : Nat} : SumsOK Try.prog E ra base noS := fun _ _ h => by cases h
theorem gk (l : List O4) (x : O4) : List.take (k4 l).length (List.drop 0 (k4 l)) ++ List.take 1 (List.drop 0 [x.k]) = k4 (l ++ [x]) := col_grown l O4.k x
theorem ga (l : List O4) (x : O4) : List.take (k4 l).length (List.drop 0 (a4 l)) ++ List.take 1 (List.drop 0 [x.a]) = a4 (l ++ [x]) := col_grown l O4.a x
theorem gb (l : List O4) (x : O4) : List.take (k4 l).length (List.drop 0 (b4 l)) ++ List.take 1 (List.drop 0 [x.b]) = b4 (l ++ [x]) := col_grown l O4.b x
theorem gg (l : List O4) (x : O4) : List.take (k4 l).length (List.drop 0 (g4 l)) ++ List.take 1 (List.drop 0 [x.g]) = g4 (l ++ [x]) := col_grown l O4.g x
theorem gn (l : List O4) (x : O4) : (k4 l).length + 1 = (k4 (l ++ [x])).length := by simp [k4]
section
variable {ra : Nat → Nat → Nat × Nat} {base : Nat}
theorem wP (T : Pt) : ExecOK Try.prog (tabP T) ra base (W (tabP T) noS noL) := W_ok noS_ok noL_ok
theorem nd_pre {T : Pt} (h : T.Ok) {w : Pw} (hw : okW T w = true) {i : Nat} {a : Nd} {l : List O4} (ha : (itemsAt 0 0 T.pre)[i]? = some a) (hl : l.length ≤ 200) :
    Takes Try.prog (tabP T) ra base 3 (codeOf 33 (false :: pPre)) (mkT 59 (insPre ndY ndP w (i : Int))) (hp 0 (ndH w l)) fun y => PostR (ndH w) .normal (insPre ndY ndP w ((i + 1 : Nat) : Int)) (ndStep l a) y := by
  obtain ⟨hi, rfl⟩ := itemsAt_get 0 T.pre 0 i a ha
  obtain ⟨he, hn, hm⟩ := okW_iff.1 hw
  obtain ⟨e, n, m, la, ep⟩ := w
  simp only at he hn hm
  have he' : e = false := by
    cases e with
    | false => rfl
    | true => have := h.e he.symm; rw [this] at hi; simp at hi
  subst he'
  have hp4 := h.pre
  have hwr : wr .i64 ((i : Int) + 1) = ((i + 1 : Nat) : Int) := by rw [wr_in ⟨by omega, by omega⟩]; omega
  have hin : (i : Int) < (n : Int) := by omega
  have e1 := k4_get hi
  have e2 := a4_get hi
  have e3 := b4_get hi
  have e4 := g4_get hi
  show Takes _ _ _ _ _ _ _ _ fun y => y = (AExit.normal, mkT 59 (insPre ndY ndP ⟨false, n, m, la, ep⟩ ((i + 1 : Nat) : Int)), hp 0 (ndH ⟨false, n, m, la, ep⟩ (l ++ [T.pre.getD i z4])))
  rw [ndH_snoc]
  cases l with
  | nil =>
    refine takes_of_tree (tabP_plain T) (wP T) (.inr (by kernel_rfl)) (hp_below _) (nd_pre0 T n m la ep i) ?_
    simp only [Tree.holds, rf_eq, hin, decide_true, decide_false, Int.toNat_natCast, Nat.zero_add, hi, hwr, e1, e2, e3, e4, Bool.and_self, Bool.and_true, Bool.true_and, true_and, decide_eq_true_eq, true_implies, Bool.true_eq_false, false_implies, and_true]
    first | exact ⟨by omega, rfl⟩ | rfl | trace_state
  | cons z l =>
    refine takes_of_tree (tabP_plain T) (wP T) (.inr (by kernel_rfl)) (hp_below _) (nd_pre1 T n m la ep i (z :: l)) ?_
    simp only [Tree.holds, rf_eq, hin, decide_true, decide_false, Int.toNat_natCast, Nat.zero_add, hi, hwr, e1, e2, e3, e4, gk, ga, gb, gg, gn _ (T.pre.getD i z4), Bool.and_self, Bool.and_true, Bool.true_and, true_and, decide_eq_true_eq, true_implies, Bool.true_eq_false, false_implies, and_true]
    exact ⟨by omega, by rw [k4_length, List.length_append, List.length_singleton]; omega, Nat.le_refl _, rfl⟩
theorem nd_pre_end {T : Pt} (h : T.Ok) {w : Pw} (hw : okW T w = true) {l : List O4} (hl : T.e = true → l = []) :
    Takes Try.prog (tabP T) ra base 3 (codeOf 33 (false :: pPre)) (mkT 59 (insPre ndY ndP w (T.pre.length : Int))) (hp 0 (ndH w l)) fun y => y = (.exit 0, mkT 59 [(0, ndY), (1, ndP)], hp 0 (ndH w l)) := by
  obtain ⟨he, hn, hm⟩ := okW_iff.1 hw
  obtain ⟨e, n, m, la, ep⟩ := w
  simp only at he hn hm
  cases e with
  | true =>
    have hl := hl he.symm
    subst hl
    have hn0 : n = 0 := by rw [hn, h.e he.symm]; rfl
    have hp0 : T.pre.length = 0 := by rw [h.e he.symm]; rfl
    subst hn0
    rw [hp0]
    refine takes_of_tree (tabP_plain T) (wP T) (.inr (by kernel_rfl)) (hp_below _) (nd_pree T m la ep) ?_
    simp only [Tree.holds]
    rfl
  | false =>
    have hn' : ¬ ((T.pre.length : Int) < (n : Int)) := by omega
    cases l with
    | nil =>
      refine takes_of_tree (tabP_plain T) (wP T) (.inr (by kernel_rfl)) (hp_below _) (nd_pre0 T n m la ep (T.pre.length : Int)) ?_
      simp only [Tree.holds, rf_eq, hn', decide_false, Bool.false_eq_true, false_implies, true_and, true_implies]
      rfl
    | cons z l =>
      refine takes_of_tree (tabP_plain T) (wP T) (.inr (by kernel_rfl)) (hp_below _) (nd_pre1 T n m la ep (T.pre.length : Int) (z :: l)) ?_
      simp only [Tree.holds, rf_eq, hn', decide_false, Bool.false_eq_true, false_implies, true_and, true_implies]
      rfl
theorem okQ_iff {T : Pt} {p : Int} {y : Pq} : okQ T p y = true ↔ y.q = (poL T y).length ∧ (y.f = false → p = y.par ∧ y.par ≤ 10) := by
  obtain ⟨f, par, q⟩ := y
  cases f <;> simp [okQ]
theorem nd_po {T : Pt} (h : T.Ok) {w : Pw} {p : Int} {y : Pq} (hq : okQ T p y = true) {i : Nat} {a : Nd} {l : List O4} (ha : (itemsAt (p + 1) 1 (poL T y))[i]? = some a) (hl : l.length ≤ 200) :
    Takes Try.prog (tabP T) ra base 3 (codeOf 33 (false :: pPo)) (mkT 59 (insPo ndY w.m p y (i : Int))) (hp 0 (ndC false w (Cs.of l))) fun z => PostR (fun l => ndC false w (Cs.of l)) .normal (insPo ndY w.m p y ((i + 1 : Nat) : Int)) (ndStep l a) z := by
  obtain ⟨hi, rfl⟩ := itemsAt_get _ _ _ i a ha
  obtain ⟨hq1, _⟩ := okQ_iff.1 hq
  obtain ⟨f, par, q⟩ := y
  cases f with
  | true => exact absurd hi (Nat.not_lt_zero _)
  | false =>
    simp only [poL] at hi hq1
    have hp4 := h.po par
    have hwr : wr .i64 ((i : Int) + 1) = ((i + 1 : Nat) : Int) := by rw [wr_in ⟨by omega, by omega⟩]; omega
    have hin : (i : Int) < (q : Int) := by omega
    have e1 := k4_get hi
    have e2 := a4_get hi
    have e3 := b4_get hi
    have e4 := g4_get hi
    obtain ⟨e, n, m, la, ep⟩ := w
    show Takes _ _ _ _ _ _ _ _ fun z => z = (AExit.normal, mkT 59 (insPo ndY m p ⟨false, par, q⟩ ((i + 1 : Nat) : Int)), hp 0 (ndC false ⟨e, n, m, la, ep⟩ (Cs.of (l ++ [(T.po par).getD i z4]))))
    cases e with
    | false =>
      refine takes_of_tree (tabP_plain T) (wP T) (.inr (by kernel_rfl)) (hp_below _) (nd_po1f T n m par q la ep p i l) ?_
      simp only [Tree.holds, rf_eq, hin, decide_true, decide_false, Int.toNat_natCast, Nat.zero_add, hi, hwr, e1, e2, e3, e4, gk, ga, gb, gg, gn _ ((T.po par).getD i z4), Bool.and_self, Bool.and_true, Bool.true_and, true_and, decide_eq_true_eq, true_implies, Bool.true_eq_false, false_implies, and_true]
      exact ⟨by omega, by rw [k4_length, List.length_append, List.length_singleton]; omega, Nat.le_refl _, rfl⟩
    | true =>
      refine takes_of_tree (tabP_plain T) (wP T) (.inr (by kernel_rfl)) (hp_below _) (nd_po1t T m par q la ep p i l) ?_
      simp only [Tree.holds, rf_eq, hin, decide_true, decide_false, Int.toNat_natCast, Nat.zero_add, hi, hwr, e1, e2, e3, e4, gk, ga, gb, gg, gn _ ((T.po par).getD i z4), Bool.and_self, Bool.and_true, Bool.true_and, true_and, decide_eq_true_eq, true_implies, Bool.true_eq_false, false_implies, and_true]
      exact ⟨by omega, by rw [k4_length, List.length_append, List.length_singleton]; omega, Nat.le_refl _, rfl⟩
theorem nd_po_end {T : Pt} {w : Pw} {p : Int} {y : Pq} (hq : okQ T p y = true) {l : List O4} :
    Takes Try.prog (tabP T) ra base 3 (codeOf 33 (false :: pPo)) (mkT 59 (insPo ndY w.m p y ((poL T y).length : Int))) (hp 0 (ndC false w (Cs.of l))) fun z => z = (.exit 4, mkT 59 (outPo ndY w.m p), hp 0 (ndC false w (Cs.of l))) := by
  obtain ⟨hq1, _⟩ := okQ_iff.1 hq
  obtain ⟨f, par, q⟩ := y
  obtain ⟨e, n, m, la, ep⟩ := w
  simp only at hq1
  have hn : ¬ (((poL T ⟨f, par, q⟩).length : Int) < (q : Int)) := by
    rw [hq1]; exact Int.lt_irrefl _
  cases f with
  | true =>
    have hq0 : q = 0 := hq1
    subst hq0
    cases e with
    | false =>
      refine takes_of_tree (tabP_plain T) (wP T) (.inr (by kernel_rfl)) (hp_below _) (nd_poef T n m la ep p l) ?_
      simp only [Tree.holds]
      rfl
    | true =>
      refine takes_of_tree (tabP_plain T) (wP T) (.inr (by kernel_rfl)) (hp_below _) (nd_poet T m la ep p l) ?_
      simp only [Tree.holds]
      rfl
  | false =>
    cases e with
    | false =>
      refine takes_of_tree (tabP_plain T) (wP T) (.inr (by kernel_rfl)) (hp_below _) (nd_po1f T n m par q la ep p ((poL T ⟨false, par, q⟩).length : Int) l) ?_
      simp only [Tree.holds, rf_eq, hn, decide_false, Bool.false_eq_true, false_implies, true_and, true_implies]
      rfl
    | true =>
      refine takes_of_tree (tabP_plain T) (wP T) (.inr (by kernel_rfl)) (hp_below _) (nd_po1t T m par q la ep p ((poL T ⟨false, par, q⟩).length : Int) l) ?_
      simp only [Tree.holds, rf_eq, hn, decide_false, Bool.false_eq_true, false_implies, true_and, true_implies]
      rfl
theorem itemsAt_x (s : Int) : ∀ (l : List O4) (j : Nat), (itemsAt s j l).map Nd.x = l
  | [], _ => rfl
  | x :: l, j => by simp [itemsAt, itemsAt_x s l (j + 1)]
theorem poL_le {T : Pt} (h : T.Ok) (y : Pq) : (poL T y).length ≤ 4 := by
  obtain ⟨f, par, q⟩ := y
  cases f with
  | true => exact Nat.zero_le _
  | false => exact h.po par
theorem nd_po_takes {T : Pt} (h : T.Ok) (x : NdX) (hx : (ndPoD T).pre x = true) : Takes Try.prog (tabP T) ra base 3 (.loop (codeOf 33 (false :: pPo))) (mkT 59 ((ndPoD T).ins x)) (hp 0 ((ndPoD T).blks x)) fun y => PostL 59 x y (ndPoD T).alts := by
  simp only [ndPoD, Bool.and_eq_true, decide_eq_true_eq] at hx
  obtain ⟨hx1, hx2⟩ := hx
  have h4 := poL_le h x.y
  refine (iter_loop (C := fun l => ndC false x.w (Cs.of l)) (step := ndStep) (ins := fun i => insPo ndY x.w.m x.p x.y (i : Int)) (outs := outPo ndY x.w.m x.p) (ex := 4) (inv := fun i l => l.length ≤ 100 + i) (itemsAt (x.p + 1) 1 (poL T x.y)) ?_ ?_ ?_ (s := x.s) hx1).mono fun y hy => ?_
  · intro i a s ha hs
    have := (itemsAt_get _ _ _ _ _ ha).1
    exact nd_po h hx2 ha (by omega)
  · intro i a s s' ha hs he
    simp only [ndStep, Res.on.injEq] at he
    subst he
    simp only [List.length_append, List.length_singleton]; omega
  · intro s _
    rw [itemsAt_length]
    exact nd_po_end hx2
  · rw [runS_nd, itemsAt_x] at hy
    exact ⟨_, rfl, hy⟩
theorem ndTPo_ok {T : Pt} (h : T.Ok) : ToldsOK Try.prog (tabP T) ra base 3 (ndTPo T) :=
  sumT_ok noT_ok rfl (toldX_ok (c := .loop (codeOf 33 (false :: pPo))) okBl_eq (by kernel_rfl) (nd_po_takes h))
end
end Go.Proofs.Ytompijagcjjamaa

namespace Go.Proofs.Ytompijagcjjamaa
open Ab
theorem getD_set1 (v d : Int) : List.getD (List.set [d] 0 v) 0 0 = v := rfl
theorem take1 (v : Int) : List.take 1 (List.drop 0 [v]) = [v] := rfl
theorem gk2 (l : List O4) (x : O4) : List.take (k4 l).length (List.drop 0 (k4 l)) ++ [x.k] = k4 (l ++ [x]) := col_grown l O4.k x
theorem ga2 (l : List O4) (x : O4) : List.take (k4 l).length (List.drop 0 (a4 l)) ++ [x.a] = a4 (l ++ [x]) := col_grown l O4.a x
theorem gb2 (l : List O4) (x : O4) : List.take (k4 l).length (List.drop 0 (b4 l)) ++ [x.b] = b4 (l ++ [x]) := col_grown l O4.b x
theorem gg2 (l : List O4) (x : O4) : List.take (k4 l).length (List.drop 0 (g4 l)) ++ [x.g] = g4 (l ++ [x]) := col_grown l O4.g x
theorem un4_one (x : O4) : un4 [x.k] [x.a] [x.b] [x.g] = [x] := rfl
theorem ndH_ne (w : Pw) {l : List O4} (h : l ≠ []) : ndH w l = ndC false w (Cs.of l) := by
  cases l with
  | nil => exact absurd rfl h
  | cons x l => rfl
section
variable {ra : Nat → Nat → Nat × Nat} {base : Nat}
theorem nd_st {T : Pt} (h : T.Ok) {w : Pw} (hw : okW T w = true) {p : Nat} (hp0 : p < T.st.length) {l : List O4} (hl : l.length ≤ 50) :
    Takes Try.prog (tabP T) ra base 3 (codeOf 33 (false :: pSt)) (mkT 59 (insSt ndY w.m (p : Int))) (hp 0 (ndH w l)) fun y => PostR (ndH w) .normal (insSt ndY w.m ((p + 1 : Nat) : Int)) (stStep ndStep T.po l (p, T.st.getD p z4)) y := by
  obtain ⟨he, hn, hm⟩ := okW_iff.1 hw
  obtain ⟨e, n, m, la, ep⟩ := w
  simp only at he hn hm
  have hp4 := h.st
  have hwr : wr .i64 ((p : Int) + 1) = ((p + 1 : Nat) : Int) := by rw [wr_in ⟨by omega, by omega⟩]; omega
  have hin : (p : Int) < (m : Int) := by omega
  have e1 := k4_get hp0
  have e2 := a4_get hp0
  have e3 := b4_get hp0
  have e4 := g4_get hp0
  have hr : stStep ndStep T.po l (p, T.st.getD p z4) = .on ((l ++ [T.st.getD p z4]) ++ T.po p) := by
    simp only [stStep, ndStep, runS_nd, itemsAt_x]
  rw [hr]
  cases e with
  | false =>
    cases l with
    | nil =>
      refine takes_of_treeQ (tabP_plain T) (wP T) (ndTPo_ok h) (.inr (by kernel_rfl)) (hp_below _) (nd_st0f T n m la ep p) ?_
      simp only [TreeQ.holds, rf_eq, hin, decide_true, decide_false, Int.toNat_natCast, Nat.zero_add, hp0, hwr, e1, e2, e3, e4, getD_set1, gk2, ga2, gb2, gg2, take1, un4_of, un4_one, gn _ (T.st.getD p z4), Bool.and_self, Bool.and_eq_true, Bool.and_true, Bool.true_and, true_and, decide_eq_true_eq, true_implies, Bool.true_eq_false, false_implies, and_true]
      refine ⟨by omega, fun hf => ?_, fun hf => ?_⟩
      · have hq : okQ T (p : Int) ⟨true, 0, 0⟩ = true := okQ_iff.2 ⟨rfl, fun h => (by cases h)⟩
        refine ⟨okBl_self rfl, fun y hy => ?_⟩
        have hy' : y = ([] ++ [T.st.getD p z4]) ++ T.po p := by rw [hy]; rw [h.fs p hp0 hf]; rfl
        subst hy'
        show _ = _
        rw [ndH_ne _ (by simp)]
        rfl
      · have hq : okQ T (p : Int) ⟨false, p, T.ns.getD p 0⟩ = true := okQ_iff.2 ⟨h.ns p hp0 hf, fun _ => ⟨rfl, by show p ≤ 10; omega⟩⟩
        refine ⟨okBl_self rfl, hq, fun y hy => ?_⟩
        have hy' : y = ([] ++ [T.st.getD p z4]) ++ T.po p := by rw [hy]; rfl
        subst hy'
        show _ = _
        rw [ndH_ne _ (by simp)]
        rfl
    | cons z l =>
      refine takes_of_treeQ (tabP_plain T) (wP T) (ndTPo_ok h) (.inr (by kernel_rfl)) (hp_below _) (nd_st1f T n m la ep p (z :: l)) ?_
      simp only [TreeQ.holds, rf_eq, hin, decide_true, decide_false, Int.toNat_natCast, Nat.zero_add, hp0, hwr, e1, e2, e3, e4, getD_set1, gk2, ga2, gb2, gg2, take1, un4_of, un4_one, gn _ (T.st.getD p z4), Bool.and_self, Bool.and_eq_true, Bool.and_true, Bool.true_and, true_and, decide_eq_true_eq, true_implies, Bool.true_eq_false, false_implies, and_true]
      refine ⟨by omega, fun hf => ?_, fun hf => ?_⟩
      · have hq : okQ T (p : Int) ⟨true, 0, 0⟩ = true := okQ_iff.2 ⟨rfl, fun h => (by cases h)⟩
        refine ⟨by rw [k4_length, List.length_append, List.length_singleton]; omega, Nat.le_refl _, okBl_self rfl, by rw [List.length_append, List.length_singleton]; omega, fun y hy => ?_⟩
        have hy' : y = ((z :: l) ++ [T.st.getD p z4]) ++ T.po p := by rw [hy]; rw [h.fs p hp0 hf]; rfl
        subst hy'
        show _ = _
        rw [ndH_ne _ (by simp)]
        rfl
      · have hq : okQ T (p : Int) ⟨false, p, T.ns.getD p 0⟩ = true := okQ_iff.2 ⟨h.ns p hp0 hf, fun _ => ⟨rfl, by show p ≤ 10; omega⟩⟩
        refine ⟨by rw [k4_length, List.length_append, List.length_singleton]; omega, Nat.le_refl _, okBl_self rfl, ⟨by rw [List.length_append, List.length_singleton]; omega, hq⟩, fun y hy => ?_⟩
        have hy' : y = ((z :: l) ++ [T.st.getD p z4]) ++ T.po p := by rw [hy]; rfl
        subst hy'
        show _ = _
        rw [ndH_ne _ (by simp)]
        rfl
  | true =>
    cases l with
    | nil =>
      refine takes_of_treeQ (tabP_plain T) (wP T) (ndTPo_ok h) (.inr (by kernel_rfl)) (hp_below _) (nd_st0t T m la ep p) ?_
      simp only [TreeQ.holds, rf_eq, hin, decide_true, decide_false, Int.toNat_natCast, Nat.zero_add, hp0, hwr, e1, e2, e3, e4, getD_set1, gk2, ga2, gb2, gg2, take1, un4_of, un4_one, gn _ (T.st.getD p z4), Bool.and_self, Bool.and_eq_true, Bool.and_true, Bool.true_and, true_and, decide_eq_true_eq, true_implies, Bool.true_eq_false, false_implies, and_true]
      refine ⟨by omega, fun hf => ?_, fun hf => ?_⟩
      · have hq : okQ T (p : Int) ⟨true, 0, 0⟩ = true := okQ_iff.2 ⟨rfl, fun h => (by cases h)⟩
        refine ⟨okBl_self rfl, fun y hy => ?_⟩
        have hy' : y = ([] ++ [T.st.getD p z4]) ++ T.po p := by rw [hy]; rw [h.fs p hp0 hf]; rfl
        subst hy'
        show _ = _
        rw [ndH_ne _ (by simp)]
        rfl
      · have hq : okQ T (p : Int) ⟨false, p, T.ns.getD p 0⟩ = true := okQ_iff.2 ⟨h.ns p hp0 hf, fun _ => ⟨rfl, by show p ≤ 10; omega⟩⟩
        refine ⟨okBl_self rfl, hq, fun y hy => ?_⟩
        have hy' : y = ([] ++ [T.st.getD p z4]) ++ T.po p := by rw [hy]; rfl
        subst hy'
        show _ = _
        rw [ndH_ne _ (by simp)]
        rfl
    | cons z l =>
      refine takes_of_treeQ (tabP_plain T) (wP T) (ndTPo_ok h) (.inr (by kernel_rfl)) (hp_below _) (nd_st1t T m la ep p (z :: l)) ?_
      simp only [TreeQ.holds, rf_eq, hin, decide_true, decide_false, Int.toNat_natCast, Nat.zero_add, hp0, hwr, e1, e2, e3, e4, getD_set1, gk2, ga2, gb2, gg2, take1, un4_of, un4_one, gn _ (T.st.getD p z4), Bool.and_self, Bool.and_eq_true, Bool.and_true, Bool.true_and, true_and, decide_eq_true_eq, true_implies, Bool.true_eq_false, false_implies, and_true]
      refine ⟨by omega, fun hf => ?_, fun hf => ?_⟩
      · have hq : okQ T (p : Int) ⟨true, 0, 0⟩ = true := okQ_iff.2 ⟨rfl, fun h => (by cases h)⟩
        refine ⟨by rw [k4_length, List.length_append, List.length_singleton]; omega, Nat.le_refl _, okBl_self rfl, by rw [List.length_append, List.length_singleton]; omega, fun y hy => ?_⟩
        have hy' : y = ((z :: l) ++ [T.st.getD p z4]) ++ T.po p := by rw [hy]; rw [h.fs p hp0 hf]; rfl
        subst hy'
        show _ = _
        rw [ndH_ne _ (by simp)]
        rfl
      · have hq : okQ T (p : Int) ⟨false, p, T.ns.getD p 0⟩ = true := okQ_iff.2 ⟨h.ns p hp0 hf, fun _ => ⟨rfl, by show p ≤ 10; omega⟩⟩
        refine ⟨by rw [k4_length, List.length_append, List.length_singleton]; omega, Nat.le_refl _, okBl_self rfl, ⟨by rw [List.length_append, List.length_singleton]; omega, hq⟩, fun y hy => ?_⟩
        have hy' : y = ((z :: l) ++ [T.st.getD p z4]) ++ T.po p := by rw [hy]; rfl
        subst hy'
        show _ = _
        rw [ndH_ne _ (by simp)]
        rfl
theorem nd_st_end {T : Pt} (h : T.Ok) {w : Pw} (hw : okW T w = true) {l : List O4} :
    Takes Try.prog (tabP T) ra base 3 (codeOf 33 (false :: pSt)) (mkT 59 (insSt ndY w.m (T.st.length : Int))) (hp 0 (ndH w l)) fun y => y = (.exit 2, mkT 59 [], hp 0 (ndH w l)) := by
  obtain ⟨he, hn, hm⟩ := okW_iff.1 hw
  obtain ⟨e, n, m, la, ep⟩ := w
  simp only at he hn hm
  have hn' : ¬ ((T.st.length : Int) < (m : Int)) := by omega
  cases e with
  | false =>
    cases l with
    | nil =>
      refine takes_of_treeQ (tabP_plain T) (wP T) (ndTPo_ok h) (.inr (by kernel_rfl)) (hp_below _) (nd_st0f T n m la ep (T.st.length : Int)) ?_
      simp only [TreeQ.holds, rf_eq, hn', decide_false, Bool.false_eq_true, false_implies, true_and, true_implies]
      rfl
    | cons z l =>
      refine takes_of_treeQ (tabP_plain T) (wP T) (ndTPo_ok h) (.inr (by kernel_rfl)) (hp_below _) (nd_st1f T n m la ep (T.st.length : Int) (z :: l)) ?_
      simp only [TreeQ.holds, rf_eq, hn', decide_false, Bool.false_eq_true, false_implies, true_and, true_implies]
      rfl
  | true =>
    cases l with
    | nil =>
      refine takes_of_treeQ (tabP_plain T) (wP T) (ndTPo_ok h) (.inr (by kernel_rfl)) (hp_below _) (nd_st0t T m la ep (T.st.length : Int)) ?_
      simp only [TreeQ.holds, rf_eq, hn', decide_false, Bool.false_eq_true, false_implies, true_and, true_implies]
      rfl
    | cons z l =>
      refine takes_of_treeQ (tabP_plain T) (wP T) (ndTPo_ok h) (.inr (by kernel_rfl)) (hp_below _) (nd_st1t T m la ep (T.st.length : Int) (z :: l)) ?_
      simp only [TreeQ.holds, rf_eq, hn', decide_false, Bool.false_eq_true, false_implies, true_and, true_implies]
      rfl
theorem runS_ndg (po : Nat → List O4) (L : List O4) (p : Nat) (l : List O4) : runS (stStep ndStep po) (groups p L) l = .on (l ++ (stItems po p L).map Nd.x) := by
  rw [runS_groups, runS_nd]
theorem nd_sts {T : Pt} (h : T.Ok) (h0 : T.st ≠ []) {w : Pw} (hw : okW T w = true) {l : List O4} (hl : l.length ≤ 10) :
    Takes Try.prog (tabP T) ra base 3 (.loop (codeOf 33 (false :: pSt))) (mkT 59 (insSt ndY w.m 0)) (hp 0 (ndH w l)) fun y => y = (.exit 2, mkT 59 [], hp 0 (ndC false w (Cs.of (l ++ opsSt T)))) := by
  have h2 := h.st
  refine (iter_loop (C := ndH w) (step := stStep ndStep T.po) (ins := fun i => insSt ndY w.m (i : Int)) (outs := []) (ex := 2) (inv := fun i l => l.length ≤ 10 + 10 * i) (groups 0 T.st) ?_ ?_ ?_ (s := l) (by omega)).mono fun y hy => ?_
  · intro i a s ha hs
    obtain ⟨hi, rfl⟩ := groups_get _ _ _ _ ha
    simp only [Nat.zero_add]
    exact nd_st h hw hi (by omega)
  · intro i a s s' ha hs he
    obtain ⟨hi, rfl⟩ := groups_get _ _ _ _ ha
    have := h.po i
    simp only [stStep, ndStep, runS_nd, itemsAt_x, Res.on.injEq, Nat.zero_add] at he
    subst he
    simp only [List.length_append, List.length_singleton]; omega
  · intro s _
    rw [groups_length]
    exact nd_st_end h hw
  · rw [runS_ndg] at hy
    simp only [PostR] at hy
    rw [hy, ndH_ne]
    · rfl
    · cases hs : T.st with
      | nil => exact absurd hs h0
      | cons x L => simp [stItems]
theorem nd_pres {T : Pt} (h : T.Ok) {w : Pw} (hw : okW T w = true) :
    Takes Try.prog (tabP T) ra base 3 (.loop (codeOf 33 (false :: pPre))) (mkT 59 (insPre ndY ndP w 0)) (hp 0 (ndH w [])) fun y => y = (.exit 0, mkT 59 [(0, ndY), (1, ndP)], hp 0 (ndH w T.pre)) := by
  have h2 := h.pre
  refine (iter_loop (C := ndH w) (step := ndStep) (ins := fun i => insPre ndY ndP w (i : Int)) (outs := [(0, ndY), (1, ndP)]) (ex := 0) (inv := fun i l => l.length ≤ i ∧ (T.e = true → l = [])) (itemsAt 0 0 T.pre) ?_ ?_ ?_ (s := []) ⟨Nat.zero_le _, fun _ => rfl⟩).mono fun y hy => ?_
  · intro i a s ha hs
    have := (itemsAt_get _ _ _ _ _ ha).1
    exact nd_pre h hw ha (by omega)
  · intro i a s s' ha hs he
    have := (itemsAt_get _ _ _ _ _ ha).1
    simp only [ndStep, Res.on.injEq] at he
    subst he
    refine ⟨by simp only [List.length_append, List.length_singleton]; omega, fun he => ?_⟩
    rw [h.e he] at this
    simp at this
  · intro s hs
    rw [itemsAt_length]
    exact nd_pre_end h hw hs.2
  · rw [runS_nd, itemsAt_x] at hy
    exact hy
theorem ndT_ok {T : Pt} (h : T.Ok) (h0 : T.st ≠ []) : ToldsOK Try.prog (tabP T) ra base 3 (ndT T) := by
  refine sumT_ok (sumT_ok noT_ok rfl (toldX_ok (c := .loop (codeOf 33 (false :: pSt))) okBl_eq (by kernel_rfl) fun x hx => ?_)) rfl (toldX_ok (c := .loop (codeOf 33 (false :: pPre))) okBl_eq (by kernel_rfl) fun x hx => ?_)
  · obtain ⟨b, s, w, p, y⟩ := x
    simp only [ndStD, okS, Bool.and_eq_true, decide_eq_true_eq] at hx
    obtain ⟨⟨hs, rfl⟩, hw⟩ := hx
    exact (nd_sts h h0 hw hs).mono fun y hy => ⟨_, rfl, hy⟩
  · refine (nd_pres h hx).mono fun y hy => ?_
    cases hp : T.pre with
    | nil =>
      rw [hp] at hy
      exact .inr ⟨(), hp, hy⟩
    | cons z L =>
      rw [hp] at hy
      exact .inl ⟨T.pre, ⟨rfl, by rw [hp]; simp⟩, by rw [hp]; exact hy⟩
theorem nd_33 {T : Pt} (h : T.Ok) (h0 : T.st ≠ []) {w : Pw} (hw : okW T w = true) : Gives Try.prog (tabP T) ra base 3 33 [ndY, ndP] (hp 0 (ndC true w (Cs.of []))) fun _ h' => h' = hp 0 (ndC false w (Cs.of (T.pre ++ opsSt T))) := by
  have hp4 := h.pre
  have hw' := hw
  obtain ⟨he, hn, hm⟩ := okW_iff.1 hw
  obtain ⟨e, n, m, la, ep⟩ := w
  simp only at he hn hm
  have s1 : ∀ l, l = T.pre ∧ l ≠ [] → okS false l = true := by
    rintro l ⟨rfl, hne⟩
    simp only [okS, Bool.and_eq_true, decide_eq_true_eq]
    refine ⟨by omega, ?_⟩
    cases hl : T.pre with
    | nil => exact absurd hl hne
    | cons => rfl
  cases e with
  | false =>
    refine gives_of_treeQ (tabP_plain T) (wP T) (ndT_ok h h0) (hp_below _) (nd_fn0 T n m la ep) ?_
    simp only [TreeQ.holds, rf_eq, decide_true, Bool.and_self, Bool.and_true, Bool.true_and, true_and, hw', un4_of, Bool.and_eq_true, and_true]
    refine ⟨okBl_self rfl, fun l hl => ⟨okBl_self rfl, s1 l hl, fun l' hl' => ?_⟩, fun _ hl => ⟨okBl_self rfl, fun l' hl' => ?_⟩⟩
    · rw [hl', hl.1]; exact ⟨_, rfl, rfl⟩
    · rw [hl', hl]; exact ⟨_, rfl, rfl⟩
  | true =>
    have hn0 : n = 0 := by rw [hn, h.e he.symm]; rfl
    subst hn0
    refine gives_of_treeQ (tabP_plain T) (wP T) (ndT_ok h h0) (hp_below _) (nd_fne T m la ep) ?_
    simp only [TreeQ.holds, rf_eq, decide_true, Bool.and_self, Bool.and_true, Bool.true_and, true_and, hw', un4_of, Bool.and_eq_true, and_true]
    refine ⟨okBl_self rfl, fun l hl => ⟨okBl_self rfl, s1 l hl, fun l' hl' => ?_⟩, fun _ hl => ⟨okBl_self rfl, fun l' hl' => ?_⟩⟩
    · rw [hl', hl.1]; exact ⟨_, rfl, rfl⟩
    · rw [hl', hl]; exact ⟨_, rfl, rfl⟩
theorem nd_rg {T : Pt} (h : T.Ok) (h0 : T.st ≠ []) {w : Pw} (hw : okW T w = true) : Takes Try.prog (tabP T) ra base 0 (codeOf 8 pNd) (mkT 14 ((ndD T).ins w)) (hp 0 ((ndD T).blks w)) fun y => PostL 14 w y (ndD T).alts := by
  have hs : codeOf 8 pNd = .rangeFunc (.tmp 6) #[7, 8] (rfAs 8 pNd) (rfBd 8 pNd) := by kernel_rfl
  refine takes_range (tabP_plain T) Try.names hs (f := 33) (cap := [.ptr (.own 1 0 0 0)]) rfl ⟨_, Try.func33, by kernel_rfl⟩ (Nat.zero_le _) ?_
  refine (nd_33 h h0 hw).mono fun v h' hh => ?_
  subst hh
  exact ⟨_, _, _, _, .ready, .normal, [0, 3], 4, _, rfl, rfl, rfl, _, rfl, rfl⟩
theorem ndTR_ok {T : Pt} (h : T.Ok) (h0 : T.st ≠ []) : ToldsOK Try.prog (tabP T) ra base 0 (ndTR T) :=
  sumT_ok noT_ok rfl (toldR_ok (c := codeOf 8 pNd) (by kernel_rfl) fun w hw => nd_rg h h0 hw)
theorem nodes_gives {T : Pt} (h : T.Ok) (h0 : T.st ≠ []) {w : Pw} (hw : okW T w = true) : Gives Try.prog (tabP T) ra base 0 8 [w.v] (hp 0 []) fun v h' => v = .slice (.own 0 0 0 4) (Cs.of (T.pre ++ opsSt T)).k.length none ∧ h' = hp 0 [(Cs.of (T.pre ++ opsSt T)).blk] := by
  have hw' := hw
  obtain ⟨he, hn, hm⟩ := okW_iff.1 hw
  obtain ⟨e, n, m, la, ep⟩ := w
  simp only at he hn hm
  cases e with
  | false =>
    refine gives_of_treeQ (tabP_plain T) (wP T) (ndTR_ok h h0) (hp_below _) (nodes0 T n m la ep) ?_
    simp only [TreeQ.holds, rf_eq, decide_true, Bool.and_self, Bool.and_true, Bool.true_and, true_and, hw', un4_of, Bool.and_eq_true, and_true]
    rintro l rfl
    exact ⟨_, rfl, rfl, rfl⟩
  | true =>
    have hn0 : n = 0 := by rw [hn, h.e he.symm]; rfl
    subst hn0
    refine gives_of_treeQ (tabP_plain T) (wP T) (ndTR_ok h h0) (hp_below _) (nodese T m la ep) ?_
    simp only [TreeQ.holds, rf_eq, decide_true, Bool.and_self, Bool.and_true, Bool.true_and, true_and, hw', un4_of, Bool.and_eq_true, and_true]
    rintro l rfl
    exact ⟨_, rfl, rfl, rfl⟩
end
end Go.Proofs.Ytompijagcjjamaa

namespace Go.Proofs.Ytompijagcjjamaa
open Ab
inductive Rt
  | pr
  | st (z : Int)
  | po (z : Int)
def Rt.ok : Rt → Nd → Bool
  | .pr, a => decide (a.s = 0)
  | .st q, a => decide (0 < a.s) && (decide (a.i = 0) && decide (a.s = q))
  | .po q, a => decide (a.s = q) && (decide (0 < a.s) && !(decide (a.i = 0)))
structure Ls where
  l : List Int
  n : Int
def thStep (r : Rt) (s : Ls) (a : Nd) : Res Ls := .on ⟨match r.ok a with
  | true => s.l ++ [s.n]
  | false => s.l, s.n + 1⟩
def pTh : List Bool := [false, true, false, true, true]
def Rt.fn : Rt → AVal
  | .pr => .fn 25 []
  | .st _ => .fn 26 [.ptr (.own 0 0 0 0)]
  | .po _ => .fn 28 [.ptr (.own 0 0 0 0)]
def Rt.num : Rt → List Blk
  | .pr => []
  | .st z => [numB z]
  | .po z => [numB z]
def Rt.d : Rt → Nat
  | .pr => 0
  | .st _ => 1
  | .po _ => 1
def Rt.ts : Rt → List (Nat × AVal)
  | .pr => [(3, .ptr (.own 0 0 0 0)), (4, .ptr (.own 1 0 0 0)), (5, .ptr (.own 2 0 0 0)), (8, .fn 33 [.ptr (.own 3 0 0 0)])]
  | .st _ => [(3, .ptr (.own 1 0 0 0)), (4, .ptr (.own 2 0 0 0)), (5, .ptr (.own 3 0 0 0)), (8, .fn 33 [.ptr (.own 4 0 0 0)])]
  | .po _ => [(3, .ptr (.own 1 0 0 0)), (4, .ptr (.own 2 0 0 0)), (5, .ptr (.own 3 0 0 0)), (8, .fn 33 [.ptr (.own 4 0 0 0)])]
noncomputable def thL (r : Rt) : Blk := .loop (mkT 21 r.ts) [9, 10] (rfAs 24 pTh) (rfBd 24 pTh) .ready none
noncomputable def thA (r : Rt) (w : Pw) (v : AVal) (n : Int) : List Blk := match r with
  | .pr => [cellB (.fn 25 []), cellB v, numB n, w.blk, thL .pr]
  | .st z => [numB z, cellB (.fn 26 [.ptr (.own 0 0 0 0)]), cellB v, numB n, w.blk, thL (.st z)]
  | .po z => [numB z, cellB (.fn 28 [.ptr (.own 0 0 0 0)]), cellB v, numB n, w.blk, thL (.po z)]
def Rt.j : Rt → Nat
  | .pr => 5
  | .st _ => 6
  | .po _ => 6
noncomputable def thC (r : Rt) (w : Pw) (b : Bool) (l : List Int) (n : Int) : List Blk := match b with
  | true => thA r w .nils n
  | false => thA r w (.slice (.own r.j 0 0 1) l.length none) n ++ [intsB l]
def thY : Rt → AVal
  | .pr => .yld 4
  | .st _ => .yld 5
  | .po _ => .yld 5
def thP : Rt → AVal
  | .pr => .ptr (.own 3 0 0 0)
  | .st _ => .ptr (.own 4 0 0 0)
  | .po _ => .ptr (.own 4 0 0 0)
noncomputable def thH (r : Rt) (w : Pw) (s : Ls) : List Blk := thC r w s.l.isEmpty s.l s.n
structure ThX where
  r : Rt
  b : Bool
  s : Ls
  w : Pw
  p : Int
  y : Pq
def rtOf (f : Nat) (z : Int) : Rt := match Nat.beq f 26 with
  | true => .st z
  | false => .po z
def listOf : List Blk → Option (Bool × List Int)
  | [] => some (true, [])
  | [.segs [⟨_, _, [.int _ l]⟩]] => some (false, l)
  | _ => none
def thOf (Bs : List Blk) : Option (Rt × Bool × Ls × Pw) := match Bs with
  | .segs [⟨_, _, [.val [.fn _ _]]⟩] :: _ :: .segs [⟨_, _, [.int _ [n]]⟩] :: A :: _ :: R => match pwOf A, listOf R with
    | some w, some (b, l) => some (.pr, b, ⟨l, n⟩, w)
    | _, _ => none
  | .segs [⟨_, _, [.int _ [z]]⟩] :: .segs [⟨_, _, [.val [.fn f _]]⟩] :: _ :: .segs [⟨_, _, [.int _ [n]]⟩] :: A :: _ :: R => match pwOf A, listOf R with
    | some w, some (b, l) => some (rtOf f z, b, ⟨l, n⟩, w)
    | _, _ => none
  | _ => none
def okT (m : Nat) (b : Bool) (s : Ls) : Bool := decide (s.l.isEmpty = b) && (decide (s.l.length ≤ m) && (decide (0 ≤ s.n) && decide (s.n ≤ m)))
def okRd (d : Nat) (r : Rt) : Bool := decide (r.d = d)
def thR (r : Rt) (L : List Nd) (s s' : Ls) : Prop := runS (thStep r) L s = .on s'
def thPoP (T : Pt) (x : ThX) (s' : Ls) : Prop := thR x.r (itemsAt (x.p + 1) 1 (poL T x.y)) x.s s' ∧ s'.l ≠ []
def thPoN (T : Pt) (x : ThX) (n : Int) : Prop := thR x.r (itemsAt (x.p + 1) 1 (poL T x.y)) x.s ⟨[], n⟩
def thStP (T : Pt) (x : ThX) (s' : Ls) : Prop := thR x.r (stItems T.po 0 T.st) x.s s' ∧ s'.l ≠ []
def thStN (T : Pt) (x : ThX) (n : Int) : Prop := thR x.r (stItems T.po 0 T.st) x.s ⟨[], n⟩
def thPrP (T : Pt) (r : Rt) (s' : Ls) : Prop := thR r (itemsAt 0 0 T.pre) ⟨[], 0⟩ s' ∧ s'.l ≠ []
def thPrN (T : Pt) (r : Rt) (n : Int) : Prop := thR r (itemsAt 0 0 T.pre) ⟨[], 0⟩ ⟨[], n⟩
def thAP (T : Pt) (r : Rt) (s' : Ls) : Prop := thR r (nodesT T) ⟨[], 0⟩ s' ∧ s'.l ≠ []
def thAN (T : Pt) (r : Rt) (n : Int) : Prop := thR r (nodesT T) ⟨[], 0⟩ ⟨[], n⟩
noncomputable def thPoD (T : Pt) (d : Nat) : RDeal ThX where
  ins x := insPo (thY x.r) x.w.m x.p x.y 0
  blks x := thC x.r x.w x.b x.s.l x.s.n
  pre x := okRd d x.r && (okT 100 x.b x.s && okQ T x.p x.y)
  alts := [⟨Ls, .exit 4, thPoP T, fun x _ => outPo (thY x.r) x.w.m x.p, fun x s => thC x.r x.w false s.l s.n⟩,
    ⟨Int, .exit 4, thPoN T, fun x _ => outPo (thY x.r) x.w.m x.p, fun x n => thC x.r x.w true [] n⟩]
def thPoO (us : List AVal) (Bs : List Blk) : Option ThX := match us with
  | [_, .int _ p, _, _, _, v, _, _] => match pqOf v, thOf Bs with
    | some y, some (r, b, s, w) => some ⟨r, b, s, w, p, y⟩
    | _, _ => none
  | _ => none
noncomputable def thTPo (T : Pt) (d : Nat) : Tolds := sumT 33 pPo (toldX okBl 59 (thPoD T d) [0, 5, 25, 26, 27, 41, 42, 43] thPoO) noT
noncomputable def thStD (T : Pt) (d : Nat) : RDeal ThX where
  ins x := insSt (thY x.r) x.w.m 0
  blks x := thC x.r x.w x.b x.s.l x.s.n
  pre x := okRd d x.r && (okT 10 x.b x.s && okW T x.w)
  alts := [⟨Ls, .exit 2, thStP T, fun _ _ => [], fun x s => thC x.r x.w false s.l s.n⟩,
    ⟨Int, .exit 2, thStN T, fun _ _ => [], fun x n => thC x.r x.w true [] n⟩]
def thStO (_ : List AVal) (Bs : List Blk) : Option ThX := match thOf Bs with
  | some (r, b, s, w) => some ⟨r, b, s, w, 0, ⟨true, 0, 0⟩⟩
  | none => none
noncomputable def thPrD (T : Pt) (d : Nat) : RDeal ThX where
  ins x := insPre (thY x.r) (thP x.r) x.w 0
  blks x := thC x.r x.w true [] 0
  pre x := okRd d x.r && okW T x.w
  alts := [⟨Ls, .exit 0, fun x s => thPrP T x.r s, fun x _ => [(0, thY x.r), (1, thP x.r)], fun x s => thC x.r x.w false s.l s.n⟩,
    ⟨Int, .exit 0, fun x n => thPrN T x.r n, fun x _ => [(0, thY x.r), (1, thP x.r)], fun x n => thC x.r x.w true [] n⟩]
noncomputable def thT (T : Pt) (d : Nat) : Tolds := sumT 33 pPre (toldX okBl 59 (thPrD T d) [0, 1, 10, 11, 12] thStO) (sumT 33 pSt (toldX okBl 59 (thStD T d) [0, 25, 26, 27] thStO) noT)
structure ThW where
  r : Rt
  w : Pw
noncomputable def thD (T : Pt) (d : Nat) : RDeal ThW where
  ins x := x.r.ts
  blks x := x.r.num ++ [cellB x.r.fn, cellB .nils, numB 0, x.w.blk]
  pre x := okRd d x.r && okW T x.w
  alts := [⟨Ls, .normal, fun x s => thAP T x.r s, fun x _ => [(4, .ptr (.own x.r.d 0 0 0))], fun x s => x.r.num ++ [cellB (.slice (.own (x.r.d + 1) 0 0 1) s.l.length none), intsB s.l]⟩,
    ⟨Int, .normal, fun x n => thAN T x.r n, fun x _ => [(4, .ptr (.own x.r.d 0 0 0))], fun x _ => x.r.num ++ [cellB .nils]⟩]
def thRO (_ : List AVal) (Bs : List Blk) : Option ThW := match Bs with
  | [_, _, _, A] => match pwOf A with
    | some w => some ⟨.pr, w⟩
    | none => none
  | [.segs [⟨_, _, [.int _ [z]]⟩], .segs [⟨_, _, [.val [.fn f _]]⟩], _, _, A] => match pwOf A with
    | some w => some ⟨rtOf f z, w⟩
    | none => none
  | _ => none
noncomputable def thTR (T : Pt) (d : Nat) : Tolds := sumT 24 pTh (toldR 21 (thD T d) [3, 4, 5, 8] thRO) noT
end Go.Proofs.Ytompijagcjjamaa
