/- Parts of the walk: The program's facts; the walk; the code at a place; sink: the chapter's examples, run; sink: records, by columns; comparing them: contracts; sink: comparing, as trees; sink: sorting: states; sink: sorting's rounds, as trees; sink: the plain law of sorting: insertion, merging; a list that is cut is sorted by parts; sink: comparing keeps its contract; rows of records as lists; sink: sorting: contracts; sink: swapRange keeps its contract; sink: sorting: contracts of loops and functions; sink: insertion, rotation, as trees; sink: insertion and rotation keep their contracts; sink: insertion sort, rotation: functions; sink: rotation keeps its contract; where one belongs is found; one goes to its place; sink: one goes to its place; sink: merging: the last three pieces: contracts; sink: merging, as trees; sink: merging keeps its contract; sink: merging keeps its contract. -/
import Derived.Test.YtgkejpfahpbnkaaRows
import Derived.Test.YtgkejpfahpbnkaaE05
import Derived.Test.YtgkejpfahpbnkaaE06

set_option linter.unusedSimpArgs false
set_option linter.unusedVariables false
namespace Go.Proofs.Ytgkejpfahpbnkaa
open Go.ChangeShapes Go.WideShapes Go.ChangeAt Go.RowKit Ab
theorem Try.own : ownKnob Try.prog.godebug = none := by kernel_rfl
theorem Try.laidOut : laidOutB Try.prog = true := by kernel_rfl
theorem Try.names : NamesOK Try.prog := names_ok (by kernel_rfl)
theorem Try.mixed : Try.prog.follows .mixedOrders = true := by kernel_rfl
theorem ext {E : Nat → Nat → Seg} {ra : Nat → Nat → Nat × Nat} : ExtsOK Try.prog E ra (fun _ => none) := extNone_ok
noncomputable def W (E : Nat → Nat → Seg) (S : Sums) (L : Loops) : Walk := exec Try.prog E S (fun _ => none) L 400
noncomputable def codeOf (f : FuncId) (p : List Bool) : Code := match codeAt Try.prog f p with
  | some c => c
  | none => .skip
def noS : Sums := fun _ => none
theorem W_ok {E : Nat → Nat → Seg} {ra : Nat → Nat → Nat × Nat} {base : Nat} {S : Sums} {L : Loops} (hS : SumsOK Try.prog E ra base S) (hL : LoopsOK Try.prog E ra base L) : ExecOK Try.prog E ra base (W E S L) :=
  exec_sound hL hS ext Try.names Try.mixed 400
def trueD : CDeal Unit where
  args _ := []
  blks _ := []
  pre _ := true
  out _ := .bool true
  blks' _ := []
end Go.Proofs.Ytgkejpfahpbnkaa

namespace Go.Proofs.Ytgkejpfahpbnkaa
open Ab
theorem works_true {E : Nat → Nat → Seg} : evalTrue (callB Try.prog E noS (W E noS noL) 5 []) = true := by kernel_rfl
end Go.Proofs.Ytgkejpfahpbnkaa

namespace Go.Proofs.Ytgkejpfahpbnkaa
open Ab
structure Rc where
  k : Int
  t : Int
  v : Int
  s : Int
  e : Bool
  f : Bool
def Rc.w (x : Rc) : AVal := .agg [.int .u32 x.k, .int .i64 x.t, .int .i64 x.v, .int .u8 x.s, .bool x.e, .bool x.f]
def z6 : Rc := ⟨0, 0, 0, 0, false, false⟩
structure C6 where
  k : List Int
  t : List Int
  v : List Int
  s : List Int
  e : List Bool
  f : List Bool
def C6.seg (n : Nat) (c : C6) : Seg := ⟨n, 6, [.int .u32 c.k, .int .i64 c.t, .int .i64 c.v, .int .u8 c.s, .bool c.e, .bool c.f]⟩
def C6.blkN (n : Nat) (c : C6) : Blk := .segs [c.seg n]
def C6.blk (c : C6) : Blk := c.blkN c.k.length
def C6.at (c : C6) (i : Nat) : Rc := ⟨c.k.getD i 0, c.t.getD i 0, c.v.getD i 0, c.s.getD i 0, c.e.getD i false, c.f.getD i false⟩
def C6.put (c : C6) (i : Nat) (x : Rc) : C6 := ⟨c.k.set i x.k, c.t.set i x.t, c.v.set i x.v, c.s.set i x.s, c.e.set i x.e, c.f.set i x.f⟩
def cols (l : List Rc) : C6 := ⟨l.map Rc.k, l.map Rc.t, l.map Rc.v, l.map Rc.s, l.map Rc.e, l.map Rc.f⟩
def c6O : Blk → Option C6
  | .segs [⟨_, _, [.int _ k, .int _ t, .int _ v, .int _ s, .bool e, .bool f]⟩] => some ⟨k, t, v, s, e, f⟩
  | _ => none
def cmpI (x y : Int) : Int := if x < y then -1 else if y < x then 1 else 0
def bI (b : Bool) : Int := cond b 1 0
def orI (a b : Int) : Int := if a = 0 then b else a
def ordI (x y : Rc) : Int := orI (cmpI x.t y.t) (orI (cmpI x.k y.k) (orI (cmpI x.v y.v) (orI (cmpI x.s y.s) (orI (bI x.e - bI y.e) (bI x.f - bI y.f)))))
structure I2 where
  a : Int
  b : Int
def cmpD (q : IntKind) : CDeal I2 := ⟨fun x => [.int q x.a, .int q x.b], fun _ => [], fun _ => true, fun x => .int .i64 (cmpI x.a x.b), fun _ => []⟩
def i2O (us : List AVal) (_ : List Blk) : Option I2 := match us with
  | [.int _ a, .int _ b] => some ⟨a, b⟩
  | _ => none
def truD : CDeal Bool := ⟨fun x => [.bool x], fun _ => [], fun _ => true, fun x => .int .i64 (bI x), fun _ => []⟩
def booO (us : List AVal) (_ : List Blk) : Option Bool := match us with
  | [.bool b] => some b
  | _ => none
structure R2 where
  a : Rc
  b : Rc
def rcO : AVal → Option Rc
  | .agg [.int _ k, .int _ t, .int _ v, .int _ s, .bool e, .bool f] => some ⟨k, t, v, s, e, f⟩
  | _ => none
def r2O (us : List AVal) (_ : List Blk) : Option R2 := match us with
  | [a, b] => match rcO a, rcO b with
    | some a, some b => some ⟨a, b⟩
    | _, _ => none
  | _ => none
def ordD : CDeal R2 := ⟨fun x => [x.a.w, x.b.w], fun _ => [], fun _ => true, fun x => .int .i64 (ordI x.a x.b), fun _ => []⟩
def SC : Sums := sumF 56 (callG (cmpD .i64) i2O) (sumF 57 (callG (cmpD .u32) i2O) (sumF 58 (callG (cmpD .u8) i2O) (sumF 59 (callG truD booO) noS)))
def SO : Sums := sumF 46 (callG ordD r2O) noS
end Go.Proofs.Ytgkejpfahpbnkaa

namespace Go.Proofs.Ytgkejpfahpbnkaa
open Ab
theorem cmp56 (E : Nat → Nat → Seg) (x y : Int) : ((callB Try.prog E noS (W E noS noL) 56 [.int .i64 x, .int .i64 y]).full ⟨hp 0 [], 0, [], []⟩ leafV).take 0 (.f (.f (.x (.leaf [] 1) (.x (.leaf [] 1) (.leaf [] 1))))) =
  (.but (!decide (x = x)) (.but (!decide (y = y)) (.br (decide (x < y))
  (.leaf (.ret, mkT 1 [(0, .int .i64 (-1))], []))
  (.br (decide (y < x))
    (.leaf (.ret, mkT 1 [(0, .int .i64 1)], []))
    (.leaf (.ret, mkT 1 [(0, .int .i64 0)], [])))))) := by kernel_rfl
theorem cmp57 (E : Nat → Nat → Seg) (x y : Int) : ((callB Try.prog E noS (W E noS noL) 57 [.int .u32 x, .int .u32 y]).full ⟨hp 0 [], 0, [], []⟩ leafV).take 0 (.f (.f (.x (.leaf [] 1) (.x (.leaf [] 1) (.leaf [] 1))))) =
  (.but (!decide (x = x)) (.but (!decide (y = y)) (.br (decide (x < y))
  (.leaf (.ret, mkT 1 [(0, .int .i64 (-1))], []))
  (.br (decide (y < x))
    (.leaf (.ret, mkT 1 [(0, .int .i64 1)], []))
    (.leaf (.ret, mkT 1 [(0, .int .i64 0)], [])))))) := by kernel_rfl
theorem cmp58 (E : Nat → Nat → Seg) (x y : Int) : ((callB Try.prog E noS (W E noS noL) 58 [.int .u8 x, .int .u8 y]).full ⟨hp 0 [], 0, [], []⟩ leafV).take 0 (.f (.f (.x (.leaf [] 1) (.x (.leaf [] 1) (.leaf [] 1))))) =
  (.but (!decide (x = x)) (.but (!decide (y = y)) (.br (decide (x < y))
  (.leaf (.ret, mkT 1 [(0, .int .i64 (-1))], []))
  (.br (decide (y < x))
    (.leaf (.ret, mkT 1 [(0, .int .i64 1)], []))
    (.leaf (.ret, mkT 1 [(0, .int .i64 0)], [])))))) := by kernel_rfl
theorem cmp59 (E : Nat → Nat → Seg) (b : Bool) : ((callB Try.prog E noS (W E noS noL) 59 [.bool b]).full ⟨hp 0 [], 0, [], []⟩ leafV).take 0 (.x (.leaf [] 1) (.leaf [] 1)) =
  (.br (b)
  (.leaf (.ret, mkT 1 [(0, .int .i64 1)], []))
  (.leaf (.ret, mkT 1 [(0, .int .i64 0)], []))) := by kernel_rfl
theorem cmp46 (E : Nat → Nat → Seg) (x y : Rc) : ((callB Try.prog E SC (W E SC noL) 46 [x.w, y.w]).full ⟨hp 0 [], 0, [], []⟩ leafV).take 0 (.c (.n (.c (.c (.n (.c (.c (.n (.c (.c (.n (.c (.c (.n (.c (.c (.n (.c (.c (.n (.c (.c (.n (cs 4 (.x (.c (.leaf [] 1)) (.c (.c (.c (.x (.c (.leaf [] 1)) (.c (.c (.c (.x (.c (.leaf [] 1)) (.c (.c (.c (.x (.c (.leaf [] 1)) (.c (.c (.c (.x (.c (.leaf [] 1)) (.c (.c (.c (.x (.c (.leaf [] 1)) (.c (.c (.leaf [] 1)))))))))))))))))))))))))))))))))))))))))))))))) =
  (.need (decide (Rc.t x = Rc.t x) && (decide (Rc.t y = Rc.t y) && true) && true) (.need (decide (Rc.k x = Rc.k x) && (decide (Rc.k y = Rc.k y) && true) && true) (.need (decide (Rc.v x = Rc.v x) && (decide (Rc.v y = Rc.v y) && true) && true) (.need (decide (Rc.s x = Rc.s x) && (decide (Rc.s y = Rc.s y) && true) && true) (.need (decide (Rc.e x = Rc.e x) && true && true) (.need (decide (Rc.e y = Rc.e y) && true && true) (.need (decide (Rc.f x = Rc.f x) && true && true) (.need (decide (Rc.f y = Rc.f y) && true && true) (.br (!decide (cmpI (Rc.t x) (Rc.t y) = 0))
  (.leaf (.ret, mkT 1 [(0, .int .i64 (cmpI (Rc.t x) (Rc.t y)))], []))
  (.br (!decide (cmpI (Rc.k x) (Rc.k y) = 0))
    (.leaf (.ret, mkT 1 [(0, .int .i64 (cmpI (Rc.k x) (Rc.k y)))], []))
    (.br (!decide (cmpI (Rc.v x) (Rc.v y) = 0))
      (.leaf (.ret, mkT 1 [(0, .int .i64 (cmpI (Rc.v x) (Rc.v y)))], []))
      (.br (!decide (cmpI (Rc.s x) (Rc.s y) = 0))
        (.leaf (.ret, mkT 1 [(0, .int .i64 (cmpI (Rc.s x) (Rc.s y)))], []))
        (.br (!decide (wr .i64 (bI (Rc.e x) - bI (Rc.e y)) = 0))
          (.leaf (.ret, mkT 1 [(0, .int .i64 (wr .i64 (bI (Rc.e x) - bI (Rc.e y))))], []))
          (.br (!decide (wr .i64 (bI (Rc.f x) - bI (Rc.f y)) = 0))
            (.leaf (.ret, mkT 1 [(0, .int .i64 (wr .i64 (bI (Rc.f x) - bI (Rc.f y))))], []))
            (.leaf (.ret, mkT 1 [(0, .int .i64 0)], [])))))))))))))))) := by kernel_rfl
end Go.Proofs.Ytgkejpfahpbnkaa

namespace Go.Proofs.Ytgkejpfahpbnkaa
open Ab
def ix (i : Int) : Nat := 0 + i.toNat
def C6.swp (c : C6) (i j : Nat) : C6 := (c.put i (c.at j)).put j (c.at i)
def sl (m : Nat) : AVal := .slice (.own 0 0 0 6) m none
def md (i j : Int) : Int := wr .i64 (Int.fdiv (wr .u64 (wr .i64 (i + j))) 2)
def nI (m : Nat) (i : Int) (t : Tree State) : Tree State := .need (inL i m) (.need (nL i m) t)
def lf (m : Nat) (e : AExit) (n : Nat) (ts : List (Nat × AVal)) (c : C6) : Tree State := .leaf (e, mkT n ts, hp 0 [c.blkN m])
end Go.Proofs.Ytgkejpfahpbnkaa

namespace Go.Proofs.Ytgkejpfahpbnkaa
open Ab
def srT (m : Nat) (a b n i : Int) : List (Nat × AVal) := [(0, sl m), (1, .int .i64 a), (2, .int .i64 b), (3, .int .i64 n), (10, .int .i64 i)]
theorem sr_tree (E : Nat → Nat → Seg) (m : Nat) (c : C6) (a b n i : Int) : ((W E noS noL 69 [false, false, true] false (codeOf 69 [false, false, true]) (mkT 38 (srT m a b n i))).full ⟨hp 0 [c.blkN m], 1, [], []⟩ leafS).take 1 (.x (.n (.n (.n (.n (.n (.n (.n (.n (.c (.leaf [0] 1039)))))))))) (.leaf [0] 0)) =
  .br (decide (i < n)) (nI m (wr .i64 (b + i)) (nI m (wr .i64 (a + i)) (nI m (wr .i64 (a + i)) (nI m (wr .i64 (b + i)) (lf m .normal 38 (srT m a b n (wr .i64 (i + 1))) (c.swp (ix (wr .i64 (a + i))) (ix (wr .i64 (b + i))))))))) (lf m (.exit 0) 38 [] c) := by kernel_rfl
def qI : List Bool := [false, true, false, false, true, false, false, true]
def iiT (m : Nat) (a b i : Int) (r : List (Nat × AVal)) : List (Nat × AVal) := [(0, sl m), (1, .int .i64 a), (2, .int .i64 b), (3, .fn 46 []), (8, .int .i64 i)] ++ r
theorem ii_tree (E : Nat → Nat → Seg) (m : Nat) (c : C6) (a b i j : Int) : ((W E SO noL 66 (false :: qI) false (codeOf 66 (false :: qI)) (mkT 53 (iiT m a b i [(9, .int .i64 j)]))).full ⟨hp 0 [c.blkN m], 1, [], []⟩ leafS).take 1 (.x (.c (.c (.c (.n (.c (.n (cs 4 (.n (.c (.n (.c (.c (.n (.c (.c (.c (.x (.n (.n (.n (.n (.n (.n (.n (.n (.c (.leaf [0] 783)))))))))) (.leaf [0] 271)))))))))))))))))) (cs 14 (.leaf [0] 271))) =
  .br (decide (a < j)) (nI m j (nI m (wr .i64 (j - 1)) (.need (eV [(c.at (ix j)).w, (c.at (ix (wr .i64 (j - 1)))).w]) (.br (decide (ordI (c.at (ix j)) (c.at (ix (wr .i64 (j - 1)))) < 0))
    (nI m (wr .i64 (j - 1)) (nI m j (nI m j (nI m (wr .i64 (j - 1)) (lf m .normal 53 (iiT m a b i [(9, .int .i64 (wr .i64 (j - 1)))]) (c.swp (ix j) (ix (wr .i64 (j - 1)))))))))
    (lf m (.exit 2) 53 (iiT m a b i []) c))))) (lf m (.exit 2) 53 (iiT m a b i []) c) := by kernel_rfl
def q0 : List Bool := [false, false, true, true, false, true, false]
theorem s0_tree (E : Nat → Nat → Seg) (m : Nat) (c : C6) (a i j : Int) : ((W E SO noL 67 (false :: q0) false (codeOf 67 (false :: q0)) (mkT 220 [(0, sl m), (1, .int .i64 a), (4, .fn 46 []), (10, .int .i64 i), (11, .int .i64 j)])).full ⟨hp 0 [c.blkN m], 1, [], []⟩ leafS).take 1 (.x (.c (.n (.n (.n (.n (.c (.n (.c (.c (.x (.leaf [0] 3091) (.leaf [0] 3091))))))))))) (.leaf [0] 1027)) =
  .br (decide (i < j)) (nI m (md i j) (nI m a (.need (eV [(c.at (ix (md i j))).w, (c.at (ix a)).w]) (.br (decide (ordI (c.at (ix (md i j))) (c.at (ix a)) < 0))
    (lf m .normal 220 [(0, sl m), (1, .int .i64 a), (4, .fn 46 []), (10, .int .i64 (wr .i64 (md i j + 1))), (11, .int .i64 j)] c)
    (lf m .normal 220 [(0, sl m), (1, .int .i64 a), (4, .fn 46 []), (10, .int .i64 i), (11, .int .i64 (md i j))] c)))))
    (lf m (.exit 0) 220 [(0, sl m), (1, .int .i64 a), (10, .int .i64 i)] c) := by kernel_rfl
def q2 : List Bool := [false, true, false, true, true, true, false, true, false]
theorem s2_tree (E : Nat → Nat → Seg) (m : Nat) (c : C6) (i k : Int) : ((W E noS noL 67 (false :: q2) false (codeOf 67 (false :: q2)) (mkT 220 [(0, sl m), (10, .int .i64 i), (13, .int .i64 k)])).full ⟨hp 0 [c.blkN m], 1, [], []⟩ leafS).take 1 (.x (.n (.n (.n (.n (.n (.n (.n (.n (.c (.leaf [0] 9217)))))))))) (.leaf [0] 0)) =
  .br (decide (k < wr .i64 (i - 1))) (nI m (wr .i64 (k + 1)) (nI m k (nI m k (nI m (wr .i64 (k + 1)) (lf m .normal 220 [(0, sl m), (10, .int .i64 i), (13, .int .i64 (wr .i64 (k + 1)))] (c.swp (ix k) (ix (wr .i64 (k + 1))))))))) (lf m (.exit 2) 220 [] c) := by kernel_rfl
def q4 : List Bool := [false, false, true, true, false, true, false, true]
theorem s4_tree (E : Nat → Nat → Seg) (m : Nat) (c : C6) (p i j : Int) : ((W E SO noL 67 (false :: q4) false (codeOf 67 (false :: q4)) (mkT 220 [(0, sl m), (2, .int .i64 p), (4, .fn 46 []), (14, .int .i64 i), (15, .int .i64 j)])).full ⟨hp 0 [c.blkN m], 1, [], []⟩ leafS).take 1 (.x (.c (.n (.n (.n (.n (.c (.n (.c (.c (.x (.leaf [0] 49173) (.leaf [0] 49173))))))))))) (.leaf [0] 16389)) =
  .br (decide (i < j)) (nI m p (nI m (md i j) (.need (eV [(c.at (ix p)).w, (c.at (ix (md i j))).w]) (.br (!decide (ordI (c.at (ix p)) (c.at (ix (md i j))) < 0))
    (lf m .normal 220 [(0, sl m), (2, .int .i64 p), (4, .fn 46 []), (14, .int .i64 (wr .i64 (md i j + 1))), (15, .int .i64 j)] c)
    (lf m .normal 220 [(0, sl m), (2, .int .i64 p), (4, .fn 46 []), (14, .int .i64 i), (15, .int .i64 (md i j))] c)))))
    (lf m (.exit 4) 220 [(0, sl m), (2, .int .i64 p), (14, .int .i64 i)] c) := by kernel_rfl
def q6 : List Bool := [false, true, false, true, true, true, false, true, false, true]
theorem s6_tree (E : Nat → Nat → Seg) (m : Nat) (c : C6) (i k : Int) : ((W E noS noL 67 (false :: q6) false (codeOf 67 (false :: q6)) (mkT 220 [(0, sl m), (14, .int .i64 i), (17, .int .i64 k)])).full ⟨hp 0 [c.blkN m], 1, [], []⟩ leafS).take 1 (.x (.n (.n (.n (.n (.n (.n (.n (.n (.c (.leaf [0] 147457)))))))))) (.leaf [0] 0)) =
  .br (decide (i < k)) (nI m (wr .i64 (k - 1)) (nI m k (nI m k (nI m (wr .i64 (k - 1)) (lf m .normal 220 [(0, sl m), (14, .int .i64 i), (17, .int .i64 (wr .i64 (k - 1)))] (c.swp (ix k) (ix (wr .i64 (k - 1))))))))) (lf m (.exit 6) 220 [] c) := by kernel_rfl
def q8 : List Bool := [false, false, true, true, true, true, true, true, true]
def s8T (m : Nat) (a p b d n i : Int) (r : List (Nat × AVal)) : List (Nat × AVal) := [(0, sl m), (1, .int .i64 a), (2, .int .i64 p), (3, .int .i64 b), (4, .fn 46 []), (18, .int .i64 d), (19, .int .i64 n), (20, .int .i64 i)] ++ r
theorem s8_tree (E : Nat → Nat → Seg) (m : Nat) (c : C6) (a p b d n i r q : Int) : ((W E SO noL 67 (false :: q8) false (codeOf 67 (false :: q8)) (mkT 220 (s8T m a p b d n i [(21, .int .i64 r), (22, .int .i64 q)]))).full ⟨hp 0 [c.blkN m], 1, [], []⟩ leafS).take 1 (.x (.c (.n (.n (.n (.n (.c (.n (.c (.c (.x (.leaf [0] 8126495) (.leaf [0] 8126495))))))))))) (.leaf [0] 1835039)) =
  .br (decide (i < r)) (nI m (wr .i64 (q - md i r)) (nI m (md i r) (.need (eV [(c.at (ix (wr .i64 (q - md i r)))).w, (c.at (ix (md i r))).w]) (.br (!decide (ordI (c.at (ix (wr .i64 (q - md i r)))) (c.at (ix (md i r))) < 0))
    (lf m .normal 220 (s8T m a p b d n (wr .i64 (md i r + 1)) [(21, .int .i64 r), (22, .int .i64 q)]) c)
    (lf m .normal 220 (s8T m a p b d n i [(21, .int .i64 (md i r)), (22, .int .i64 q)]) c)))))
    (lf m (.exit 8) 220 (s8T m a p b d n i []) c) := by kernel_rfl
end Go.Proofs.Ytgkejpfahpbnkaa

namespace Go.Proofs.Ytgkejpfahpbnkaa
open Ab
def OkC (C : Rc → Rc → Int) : Prop := (∀ a b, C a b < 0 ↔ 0 < C b a) ∧ ∀ a b c, C a b ≤ 0 → C b c ≤ 0 → C a c ≤ 0
theorem okC_or {C D : Rc → Rc → Int} (h1 : OkC C) (h2 : OkC D) : OkC fun a b => orI (C a b) (D a b) := by
  obtain ⟨a1, a2⟩ := h1
  obtain ⟨b1, b2⟩ := h2
  refine ⟨fun a b => ?_, fun a b c => ?_⟩
  · have x1 := a1 a b; have x2 := a1 b a; have x3 := b1 a b
    simp only [orI]
    split <;> split <;> omega
  · have x1 := a2 a b c; have x2 := b2 a b c
    have y1 := a1 a b; have y2 := a1 b a; have y3 := a1 b c; have y4 := a1 c b; have y5 := a1 a c; have y6 := a1 c a
    have z1 := a2 c a b; have z2 := a2 b c a
    simp only [orI]
    split <;> split <;> split <;> omega
theorem okC_key (f : Rc → Int) : OkC fun a b => cmpI (f a) (f b) := by
  refine ⟨fun a b => ?_, fun a b c => ?_⟩
  · simp only [cmpI]; repeat' split
    all_goals omega
  · simp only [cmpI]; repeat' split
    all_goals omega
theorem okC_bool (f : Rc → Bool) : OkC fun a b => bI (f a) - bI (f b) := by
  refine ⟨fun a b => ?_, fun a b c => ?_⟩ <;> dsimp only <;> omega
theorem okC_ord : OkC ordI := okC_or (okC_key Rc.t) (okC_or (okC_key Rc.k) (okC_or (okC_key Rc.v) (okC_or (okC_key Rc.s) (okC_or (okC_bool Rc.e) (okC_bool Rc.f)))))
def lt (a b : Rc) : Bool := decide (ordI a b < 0)
theorem lt_iff {a b : Rc} : lt a b = true ↔ ordI a b < 0 := decide_eq_true_iff
theorem lt_no {a b : Rc} : lt a b = false ↔ ordI b a ≤ 0 := by
  have := okC_ord.1 b a
  have h2 := okC_ord.1 a b
  simp only [lt, decide_eq_false_iff_not]; omega
theorem lt_le {a b c : Rc} (h1 : lt a b = true) (h2 : lt c b = false) : lt a c = true := by
  rw [lt_no] at h2
  rw [lt_iff] at h1 ⊢
  have x := okC_ord.2 c a b; have y := okC_ord.1 a c; have z := okC_ord.1 a b; have w := okC_ord.2 b c a; have v := okC_ord.1 b a
  omega
theorem le_lt {a b c : Rc} (h1 : lt b a = false) (h2 : lt b c = true) : lt a c = true := by
  rw [lt_no] at h1
  rw [lt_iff] at h2 ⊢
  have y := okC_ord.1 a c; have w := okC_ord.2 c a b; have v := okC_ord.1 b c
  omega
theorem lt_not {a b : Rc} (h : lt a b = true) : lt b a = false := by
  rw [lt_iff] at h
  rw [lt_no]; omega
theorem lt_tr {a b c : Rc} (h1 : lt a b = true) (h2 : lt b c = true) : lt a c = true := lt_le h1 (lt_not h2)
theorem le_tr {a b c : Rc} (h1 : lt b a = false) (h2 : lt c b = false) : lt c a = false := by
  rw [lt_no] at *
  exact okC_ord.2 _ _ _ h1 h2
theorem le_time {a b : Rc} (h : lt b a = false) : a.t ≤ b.t := by
  by_cases hc : b.t < a.t
  · exfalso
    have h1 : cmpI b.t a.t = -1 := by rw [cmpI, if_pos hc]
    have h2 : ordI b a = -1 := by rw [ordI, h1]; rfl
    rw [lt, h2] at h
    exact absurd h (by decide)
  · omega
def Sd : List Rc → Prop := List.Pairwise fun a b => lt b a = false
def ins (x : Rc) : List Rc → List Rc
  | [] => [x]
  | y :: l => if lt x y then x :: y :: l else y :: ins x l
def isort (l : List Rc) : List Rc := l.foldl (fun s x => ins x s) []
def mrg : List Rc → List Rc → List Rc
  | [], v => v
  | u, [] => u
  | x :: u, y :: v => if lt y x then y :: mrg (x :: u) v else x :: mrg u (y :: v)
termination_by u v => u.length + v.length
theorem mrg_nil (v : List Rc) : mrg [] v = v := by unfold mrg; rfl
theorem mrg_nil' (u : List Rc) : mrg u [] = u := by cases u <;> (unfold mrg; rfl)
theorem mrg_cons (x y : Rc) (u v : List Rc) : mrg (x :: u) (y :: v) = if lt y x then y :: mrg (x :: u) v else x :: mrg u (y :: v) := by
  conv => lhs; unfold mrg
theorem isort_snoc (l : List Rc) (x : Rc) : isort (l ++ [x]) = ins x (isort l) := by simp [isort, List.foldl_append]
theorem ins_perm (x : Rc) : ∀ l, (ins x l).Perm (x :: l)
  | [] => .refl _
  | y :: l => by
    simp only [ins]
    split
    · exact .refl _
    · exact ((ins_perm x l).cons y).trans (.swap x y l)
theorem ins_sd {x : Rc} : ∀ {l}, Sd l → Sd (ins x l)
  | [], _ => List.pairwise_singleton _ _
  | y :: l, h => by
    obtain ⟨h1, h2⟩ := List.pairwise_cons.1 h
    simp only [ins]
    split
    · rename_i hx
      refine List.pairwise_cons.2 ⟨fun z hz => ?_, h⟩
      rcases List.mem_cons.1 hz with rfl | hz
      · exact lt_not hx
      · exact le_tr (lt_not hx) (h1 z hz)
    · rename_i hx
      refine List.pairwise_cons.2 ⟨fun z hz => ?_, ins_sd h2⟩
      rcases List.mem_cons.1 ((ins_perm x l).mem_iff.1 hz) with rfl | hz
      · simpa using hx
      · exact h1 z hz
theorem isort_perm (l : List Rc) : (isort l).Perm l := by
  have : ∀ (l s : List Rc), (l.foldl (fun s x => ins x s) s).Perm (s ++ l) := by
    intro l
    induction l with
    | nil => intro s; simp
    | cons x l ih =>
      intro s
      refine (ih _).trans ?_
      refine ((ins_perm x s).append_right l).trans ?_
      exact (List.perm_middle (l₁ := s)).symm
  simpa [isort] using this l []
theorem isort_sd (l : List Rc) : Sd (isort l) := by
  have : ∀ (l s : List Rc), Sd s → Sd (l.foldl (fun s x => ins x s) s) := by
    intro l
    induction l with
    | nil => intro s h; exact h
    | cons x l ih => intro s h; exact ih _ (ins_sd h)
  exact this l [] .nil
theorem isort_length (l : List Rc) : (isort l).length = l.length := (isort_perm l).length_eq
theorem mrg_length (u v : List Rc) : (mrg u v).length = u.length + v.length := by
  induction u generalizing v with
  | nil => simp [mrg_nil]
  | cons x u ihu =>
    induction v with
    | nil => simp [mrg_nil']
    | cons y v ihv =>
      rw [mrg_cons]
      split
      · simp only [List.length_cons, ihv]; omega
      · simp only [List.length_cons, ihu]; omega
theorem mrg_ins (x : Rc) (a b : List Rc) : ins x (mrg a b) = mrg a (ins x b) := by
  induction a generalizing b with
  | nil => simp [mrg_nil]
  | cons p a iha =>
    induction b with
    | nil =>
      simp only [mrg_nil', ins, mrg_cons, mrg_nil']
      have := iha []
      simp only [mrg_nil', ins] at this
      split
      · rfl
      · rw [this]
    | cons q b ihb =>
      rw [mrg_cons]
      cases hqp : lt q p
      · simp only [Bool.false_eq_true, if_false, ins]
        cases hxp : lt x p
        · simp only [Bool.false_eq_true, if_false, iha, ins]
          cases hxq : lt x q
          · simp only [Bool.false_eq_true, if_false, mrg_cons, hqp]
          · simp only [if_true, mrg_cons, hxp, Bool.false_eq_true, if_false]
        · have hxq : lt x q = true := lt_le hxp hqp
          simp only [if_true, hxq, mrg_cons, hxp, hqp, Bool.false_eq_true, if_false]
      · simp only [if_true, ins]
        cases hxq : lt x q
        · simp only [Bool.false_eq_true, if_false, mrg_cons, hqp, if_true, ihb]
        · have hxp : lt x p = true := lt_tr hxq hqp
          simp only [if_true, mrg_cons, hxp, hqp]
theorem isort_append (u v : List Rc) : isort (u ++ v) = mrg (isort u) (isort v) := by
  suffices h : ∀ w : List Rc, isort (u ++ w.reverse) = mrg (isort u) (isort w.reverse) by simpa using h v.reverse
  intro w
  induction w with
  | nil => simp [isort, mrg_nil']
  | cons x w ih => rw [List.reverse_cons, ← List.append_assoc, isort_snoc, isort_snoc, ih, mrg_ins]
theorem mrg_cut {u1 u2 v1 v2 : List Rc} (h1 : ∀ x ∈ u1, ∀ y ∈ v2, lt y x = false) (h2 : ∀ y ∈ v1, ∀ x ∈ u2, lt y x = true) : mrg (u1 ++ u2) (v1 ++ v2) = mrg u1 v1 ++ mrg u2 v2 := by
  induction u1 generalizing v1 with
  | nil =>
    simp only [List.nil_append, mrg_nil]
    induction v1 with
    | nil => rfl
    | cons y v ih =>
      have ih := ih fun z hz => h2 z (List.mem_cons_of_mem _ hz)
      cases u2 with
      | nil => simp only [mrg_nil]
      | cons x u =>
        rw [List.cons_append, mrg_cons, if_pos (h2 y List.mem_cons_self x List.mem_cons_self), ih]; rfl
  | cons p u ihu =>
    induction v1 with
    | nil =>
      simp only [List.nil_append, mrg_nil', List.cons_append]
      have ih := ihu (fun x hx => h1 x (List.mem_cons_of_mem _ hx)) (v1 := []) (by simp)
      simp only [List.nil_append, mrg_nil'] at ih
      cases v2 with
      | nil => simp only [mrg_nil', List.cons_append]
      | cons y v => rw [mrg_cons, h1 p List.mem_cons_self y List.mem_cons_self]; simp only [Bool.false_eq_true, if_false, ih]
    | cons y v ihv =>
      have iv := ihv fun z hz => h2 z (List.mem_cons_of_mem _ hz)
      have iu := ihu (fun x hx => h1 x (List.mem_cons_of_mem _ hx)) h2
      simp only [List.cons_append] at iv iu ⊢
      rw [mrg_cons, mrg_cons]
      split
      · rw [iv]; rfl
      · rw [iu]; rfl
theorem Sd.left {u v : List Rc} (h : Sd (u ++ v)) : Sd u := (List.pairwise_append.1 h).1
theorem Sd.right {u v : List Rc} (h : Sd (u ++ v)) : Sd v := (List.pairwise_append.1 h).2.1
theorem ins_cut {x : Rc} {p q : List Rc} (h1 : ∀ y ∈ p, lt x y = false) (h2 : ∀ y ∈ q, lt x y = true) : ins x (p ++ q) = p ++ x :: q := by
  induction p with
  | nil =>
    cases q with
    | nil => rfl
    | cons y q => simp only [List.nil_append, ins, h2 y List.mem_cons_self, if_true]
  | cons y p ih =>
    simp only [List.cons_append, ins, h1 y List.mem_cons_self, Bool.false_eq_true, if_false, ih fun z hz => h1 z (List.mem_cons_of_mem _ hz)]
end Go.Proofs.Ytgkejpfahpbnkaa

namespace Go.Proofs.Ytgkejpfahpbnkaa
open Ab
section
variable {E : Nat → Nat → Seg} {ra : Nat → Nat → Nat × Nat} {base : Nat}
theorem br_by {α : Type} {Q : α → Prop} {p : Prop} [Decidable p] {a b : Tree α} (ha : p → a.holds Q) (hb : ¬ p → b.holds Q) : (Tree.br (decide p) a b).holds Q := by
  by_cases h : p
  · exact brT_yes (decide_eq_true h) (ha h)
  · exact brT_no (decide_eq_false h) (hb h)
theorem br_by' {α : Type} {Q : α → Prop} {p : Prop} [Decidable p] {a b : Tree α} (ha : ¬ p → a.holds Q) (hb : p → b.holds Q) : (Tree.br (!decide p) a b).holds Q := by
  by_cases h : p
  · exact brT_no (by rw [decide_eq_true h]; rfl) (hb h)
  · exact brT_yes (by rw [decide_eq_false h]; rfl) (ha h)
theorem but_self {α : Type} {Q : α → Prop} {x : Int} {a : Tree α} (ha : a.holds Q) : (Tree.but (!decide (x = x)) a).holds Q := ⟨by simp, ha⟩
theorem SC_ok (hE : Plain E) : SumsOK Try.prog E ra base SC := by
  refine sumG_deal hE (sumG_deal hE (sumG_deal hE (sumG_deal hE sumNone_ok ⟨_, Try.func59, by kernel_rfl⟩ fun x _ => ?_) ⟨_, Try.func58, by kernel_rfl⟩ fun x _ => ?_) ⟨_, Try.func57, by kernel_rfl⟩ fun x _ => ?_) ⟨_, Try.func56, by kernel_rfl⟩ fun x _ => ?_
  · refine (gives_of_tree hE (W_ok sumNone_ok noL_ok) sumNone_ok (hp_below _) (cmp59 E x) ?_).2
    cases x
    · exact brT_no rfl ⟨_, rfl, rfl, rfl⟩
    · exact brT_yes rfl ⟨_, rfl, rfl, rfl⟩
  all_goals
    obtain ⟨x, y⟩ := x
    first
      | refine (gives_of_tree hE (W_ok sumNone_ok noL_ok) sumNone_ok (hp_below _) (cmp58 E x y) ?_).2
      | refine (gives_of_tree hE (W_ok sumNone_ok noL_ok) sumNone_ok (hp_below _) (cmp57 E x y) ?_).2
      | refine (gives_of_tree hE (W_ok sumNone_ok noL_ok) sumNone_ok (hp_below _) (cmp56 E x y) ?_).2
    refine but_self (but_self (br_by (fun h1 => ⟨_, rfl, ?_, rfl⟩) fun h1 => br_by (fun h2 => ⟨_, rfl, ?_, rfl⟩) fun h2 => ⟨_, rfl, ?_, rfl⟩))
    · simp only [cmpD, cmpI, if_pos h1]
    · simp only [cmpD, cmpI, if_neg h1, if_pos h2]
    · simp only [cmpD, cmpI, if_neg h1, if_neg h2]
theorem wr_b (a b : Bool) : wr .i64 (bI a - bI b) = bI a - bI b := by cases a <;> cases b <;> exact wr_in ⟨by decide, by decide⟩
theorem SO_ok (hE : Plain E) : SumsOK Try.prog E ra base SO := by
  refine sumG_deal hE sumNone_ok ⟨_, Try.func46, by kernel_rfl⟩ fun x _ => ?_
  obtain ⟨x, y⟩ := x
  refine (gives_of_tree hE (W_ok (SC_ok hE) noL_ok) (SC_ok hE) (hp_below _) (cmp46 E x y) ?_).2
  rw [wr_b, wr_b]
  refine ⟨by simp, by simp, by simp, by simp, by simp, by simp, by simp, by simp, br_by' (fun h1 => ⟨_, rfl, ?_, rfl⟩) fun h1 => br_by' (fun h2 => ⟨_, rfl, ?_, rfl⟩) fun h2 => br_by' (fun h3 => ⟨_, rfl, ?_, rfl⟩) fun h3 => br_by' (fun h4 => ⟨_, rfl, ?_, rfl⟩) fun h4 => br_by' (fun h5 => ⟨_, rfl, ?_, rfl⟩) fun h5 => br_by' (fun h6 => ⟨_, rfl, ?_, rfl⟩) fun h6 => ⟨_, rfl, ?_, rfl⟩⟩
  · simp only [ordD, ordI, orI, if_neg h1]
  · simp only [ordD, ordI, orI, if_pos h1, if_neg h2]
  · simp only [ordD, ordI, orI, if_pos h1, if_pos h2, if_neg h3]
  · simp only [ordD, ordI, orI, if_pos h1, if_pos h2, if_pos h3, if_neg h4]
  · simp only [ordD, ordI, orI, if_pos h1, if_pos h2, if_pos h3, if_pos h4, if_neg h5]
  · simp only [ordD, ordI, orI, if_pos h1, if_pos h2, if_pos h3, if_pos h4, if_pos h5]
  · simp only [ordD, ordI, orI, if_pos h1, if_pos h2, if_pos h3, if_pos h4, if_pos h5, h6]
end
theorem at_cols (l : List Rc) (i : Nat) : (cols l).at i = l.getD i z6 := by
  simp only [C6.at, cols, List.getD_eq_getElem?_getD, List.getElem?_map]
  cases l[i]? <;> rfl
def swpL (l : List Rc) (i j : Nat) : List Rc := (l.set i (l.getD j z6)).set j (l.getD i z6)
theorem put_cols (l : List Rc) (i : Nat) (x : Rc) : (cols l).put i x = cols (l.set i x) := by
  simp only [C6.put, cols, List.map_set]
theorem swp_cols (l : List Rc) (i j : Nat) : (cols l).swp i j = cols (swpL l i j) := by
  rw [C6.swp, at_cols, at_cols, put_cols, put_cols]; rfl
theorem getD_mid (A B : List Rc) (x : Rc) : (A ++ x :: B).getD A.length z6 = x := by
  rw [List.getD_eq_getElem?_getD, List.getElem?_append_right (Nat.le_refl _), Nat.sub_self]; rfl
theorem set_mid (A B : List Rc) (x y : Rc) : (A ++ x :: B).set A.length y = A ++ y :: B := by
  rw [List.set_append_right _ _ (Nat.le_refl _), Nat.sub_self]; rfl
theorem swp_two {A B C : List Rc} {x y : Rc} {i j : Nat} (hi : i = A.length) (hj : j = A.length + 1 + B.length) : swpL (A ++ x :: (B ++ y :: C)) i j = A ++ y :: (B ++ x :: C) := by
  have e1 : (A ++ x :: (B ++ y :: C)).getD i z6 = x := by rw [hi]; exact getD_mid _ _ _
  have e0 : ∀ w : Rc, A ++ w :: (B ++ y :: C) = (A ++ w :: B) ++ y :: C := fun w => by simp
  have hj' : ∀ w : Rc, j = (A ++ w :: B).length := fun w => by simp; omega
  have e2 : (A ++ x :: (B ++ y :: C)).getD j z6 = y := by rw [e0, hj' x]; exact getD_mid _ _ _
  rw [swpL, e1, e2, hi, set_mid, e0, hj' y, set_mid]; simp
theorem swp_comm (l : List Rc) {i j : Nat} (h : i ≠ j) : swpL l i j = swpL l j i := by
  rw [swpL, swpL, List.set_comm _ _ h]
theorem swp_two' {A B C : List Rc} {x y : Rc} {i j : Nat} (hi : i = A.length) (hj : j = A.length + 1 + B.length) : swpL (A ++ x :: (B ++ y :: C)) j i = A ++ y :: (B ++ x :: C) := by
  rw [swp_comm _ (by omega)]; exact swp_two hi hj
end Go.Proofs.Ytgkejpfahpbnkaa

namespace Go.Proofs.Ytgkejpfahpbnkaa
open Ab
def C6.wf (m : Nat) (c : C6) : Bool := decide (c.k.length = m) && (decide (c.t.length = m) && (decide (c.v.length = m) && (decide (c.s.length = m) && (decide (c.e.length = m) && decide (c.f.length = m)))))
def C6.un (m : Nat) (c : C6) : List Rc := (List.range m).map c.at
theorem un_len (m : Nat) (c : C6) : (c.un m).length = m := by simp [C6.un]
theorem un_get (m : Nat) (c : C6) {i : Nat} (h : i < m) : (c.un m)[i]? = some (c.at i) := by simp [C6.un, h]
theorem col_un {α β : Type} (z : β) (l : List β) (g : Nat → α) (f : α → β) (m : Nat) (hl : l.length = m) (hf : ∀ i, f (g i) = l.getD i z) : (List.map g (List.range m)).map f = l := by
  apply List.ext_getElem?
  intro i
  simp only [List.getElem?_map]
  by_cases h : i < m
  · simp only [List.getElem?_range h, Option.map_some, hf, List.getD_eq_getElem?_getD, List.getElem?_eq_getElem (hl ▸ h), Option.getD_some]
  · rw [List.getElem?_eq_none (by simp; omega), List.getElem?_eq_none (by omega)]; rfl
theorem cols_un {m : Nat} {c : C6} (h : c.wf m = true) : cols (c.un m) = c := by
  simp only [C6.wf, Bool.and_eq_true, decide_eq_true_eq] at h
  obtain ⟨h1, h2, h3, h4, h5, h6⟩ := h
  obtain ⟨k, t, v, s, e, f⟩ := c
  simp only [cols, C6.un, C6.mk.injEq]
  exact ⟨col_un 0 k _ _ m h1 fun i => rfl, col_un 0 t _ _ m h2 fun i => rfl, col_un 0 v _ _ m h3 fun i => rfl, col_un 0 s _ _ m h4 fun i => rfl, col_un false e _ _ m h5 fun i => rfl, col_un false f _ _ m h6 fun i => rfl⟩
theorem cols_wf (l : List Rc) : (cols l).wf l.length = true := by simp [C6.wf, cols]
theorem un_cols (l : List Rc) : (cols l).un l.length = l := by
  apply List.ext_getElem?
  intro i
  by_cases h : i < l.length
  · rw [un_get _ _ h, at_cols, List.getD_eq_getElem?_getD, List.getElem?_eq_getElem h]; rfl
  · rw [List.getElem?_eq_none (by rw [un_len]; omega), List.getElem?_eq_none (by omega)]
def part (l : List Rc) (a b : Nat) : List Rc := (l.drop a).take (b - a)
theorem part_len (l : List Rc) {a b : Nat} (h : b ≤ l.length) : (part l a b).length = b - a := by simp only [part, List.length_take, List.length_drop]; omega
theorem part_cut (l : List Rc) {a b d : Nat} (h1 : a ≤ b) (h2 : b ≤ d) : part l a d = part l a b ++ part l b d := by
  unfold part
  have e : d - a = (b - a) + (d - b) := by omega
  rw [e, List.take_add, List.drop_drop]
  congr 3
  omega
theorem take_part (l : List Rc) (a : Nat) : l.take a = part l 0 a := by simp [part]
theorem drop_part (l : List Rc) (b : Nat) : l.drop b = part l b l.length := by
  unfold part; rw [List.take_of_length_le (by simp)]
theorem whole_part (l : List Rc) : l = part l 0 l.length := by simp [part]
structure Sx where
  m : Nat
  c : C6
  a : Int
  b : Int
  n : Int
def big : Nat := 1099511627776
def swO (l : List Rc) (a b n : Nat) : List Rc := l.take a ++ (part l b (b + n) ++ (part l (a + n) b ++ (part l a (a + n) ++ l.drop (b + n))))
def swOk (x : Sx) : Bool := x.c.wf x.m && (decide (0 ≤ x.a) && (decide (0 ≤ x.n) && (decide (x.a + x.n ≤ x.b) && (decide (x.b + x.n ≤ x.m) && decide (x.m ≤ big)))))
def Sx.out (x : Sx) : C6 := cols (swO (x.c.un x.m) x.a.toNat x.b.toNat x.n.toNat)
def swD : CDeal Sx := ⟨fun x => [sl x.m, .int .i64 x.a, .int .i64 x.b, .int .i64 x.n, .fn 46 []], fun x => [x.c.blkN x.m], swOk, fun _ => .undef, fun x => [x.out.blkN x.m]⟩
def sxO (us : List AVal) (Bs : List Blk) : Option Sx := match us, Bs with
  | [.slice _ m _, .int _ a, .int _ b, .int _ n, _], [B] => match c6O B with
    | some c => some ⟨m, c, a, b, n⟩
    | none => none
  | _, _ => none
def swL : RDeal Sx where
  ins x := srT x.m x.a x.b x.n 0
  blks x := [x.c.blkN x.m]
  pre := swOk
  alts := [⟨Unit, .exit 0, fun _ _ => True, fun _ _ => [], fun x _ => [x.out.blkN x.m]⟩]
def swLO (us : List AVal) (Bs : List Blk) : Option Sx := match us, Bs with
  | [.slice _ m _, .int _ a, .int _ b, .int _ n, _], [B] => match c6O B with
    | some c => some ⟨m, c, a, b, n⟩
    | none => none
  | _, _ => none
def qS : List Bool := [false, true]
def TS : Tolds := sumT 69 qS (toldR 38 swL [0, 1, 2, 3, 10] swLO) noT
end Go.Proofs.Ytgkejpfahpbnkaa

namespace Go.Proofs.Ytgkejpfahpbnkaa
open Ab
theorem wr_add {a b : Nat} (h : a + b ≤ 4398046511104) : wr .i64 ((a : Int) + b) = ((a + b : Nat) : Int) := by rw [wr_in ⟨by omega, by omega⟩]; omega
theorem wr_one {a : Nat} (h : a ≤ 4398046511104) : wr .i64 ((a : Int) + 1) = ((a + 1 : Nat) : Int) := by rw [wr_in ⟨by omega, by omega⟩]; omega
theorem wr_sub {a b : Nat} (h : b ≤ a) (h2 : a ≤ 4398046511104) : wr .i64 ((a : Int) - b) = ((a - b : Nat) : Int) := by rw [wr_in ⟨by omega, by omega⟩]; omega
theorem wr_sub1 {a : Nat} (h : 1 ≤ a) (h2 : a ≤ 4398046511104) : wr .i64 ((a : Int) - 1) = ((a - 1 : Nat) : Int) := by rw [wr_in ⟨by omega, by omega⟩]; omega
theorem swO_two {l : List Rc} {a b n : Nat} (h1 : a + n ≤ b) (h2 : b + n ≤ l.length) : l = l.take a ++ (part l a (a + n) ++ (part l (a + n) b ++ (part l b (b + n) ++ l.drop (b + n)))) := by
  rw [take_part, drop_part, ← part_cut l (by omega) (by omega), ← part_cut l (by omega) (by omega), ← part_cut l (by omega) (by omega), ← part_cut l (by omega) (by omega)]
  exact whole_part l
theorem cut_at {l : List Rc} {n i : Nat} (hl : l.length = n) (hi : i < n) : ∃ x r, l.drop i = x :: r ∧ l.take (i + 1) = l.take i ++ [x] ∧ l.drop (i + 1) = r := by
  refine ⟨l[i], l.drop (i + 1), List.drop_eq_getElem_cons (by omega), ?_, rfl⟩
  rw [List.take_add_one, List.getElem?_eq_getElem (by omega)]; rfl
section
variable {E : Nat → Nat → Seg} {ra : Nat → Nat → Nat × Nat} {base : Nat}
theorem nI_holds {m : Nat} {i : Int} {t : Tree State} {Q : State → Prop} (h : 0 ≤ i ∧ i < m) (ht : t.holds Q) : (nI m i t).holds Q := ⟨inL_in h, nL_in h, ht⟩
theorem sr_loop (hE : Plain E) {m : Nat} (hm : m ≤ big) {p X r Y q : List Rc} {a b n : Nat} (ha : a = p.length) (hn : X.length = n) (hY : Y.length = n) (hb : b = p.length + n + r.length) (hl : (p ++ (X ++ (r ++ (Y ++ q)))).length = m) :
    Takes Try.prog E ra base 1 (.loop (codeOf 69 [false, false, true])) (mkT 38 (srT m a b n 0)) (hp 0 [(cols (p ++ (X ++ (r ++ (Y ++ q))))).blkN m]) fun x => x = (.exit 0, mkT 38 [], hp 0 [(cols (p ++ (Y ++ (r ++ (X ++ q))))).blkN m]) := by
  simp only [List.length_append] at hl
  unfold big at hm
  refine takes_loop (fun j ts hh => ∃ i : Nat, i ≤ n ∧ i + j = n + 1 ∧ ts = mkT 38 (srT m a b n i) ∧ hh = hp 0 [(cols (p ++ ((Y.take i ++ X.drop i) ++ (r ++ ((X.take i ++ Y.drop i) ++ q))))).blkN m]) ?_ ?_ (j := n + 1) ⟨0, Nat.zero_le _, Nat.zero_add _, rfl, rfl⟩
  · rintro ts hh ⟨i, h1, h2, _⟩; omega
  · rintro j ts hh ⟨i, hi0, hj, rfl, rfl⟩
    refine takes_of_tree hE (W_ok sumNone_ok noL_ok) (.inr (by kernel_rfl)) (hp_below _) (sr_tree E m _ a b n i) ?_
    rw [wr_add (a := b) (b := i) (by omega), wr_add (a := a) (b := i) (by omega), wr_one (a := i) (by omega)]
    refine br_by (fun h => ?_) fun h => ?_
    · have hi : i < n := by omega
      refine nI_holds ⟨by omega, by omega⟩ (nI_holds ⟨by omega, by omega⟩ (nI_holds ⟨by omega, by omega⟩ (nI_holds ⟨by omega, by omega⟩ ⟨i + 1, hi, by omega, rfl, ?_⟩)))
      obtain ⟨x, X2, x1, x2, x3⟩ := cut_at hn hi
      obtain ⟨y, Y2, y1, y2, y3⟩ := cut_at hY hi
      rw [swp_cols, x1, y1, x2, y2, x3, y3]
      have e : p ++ ((Y.take i ++ x :: X2) ++ (r ++ ((X.take i ++ y :: Y2) ++ q))) = (p ++ Y.take i) ++ x :: ((X2 ++ (r ++ X.take i)) ++ y :: (Y2 ++ q)) := by simp only [List.append_assoc, List.cons_append]
      have lx : X2.length = n - i - 1 := by have := congrArg List.length x1; simp only [List.length_drop, List.length_cons] at this; omega
      rw [e, swp_two (by simp only [ix, Int.toNat_natCast, List.length_append, List.length_take]; omega) (by simp only [ix, Int.toNat_natCast, List.length_append, List.length_take]; omega)]
      simp only [List.append_assoc, List.cons_append, List.nil_append]
    · have hi : i = n := by omega
      subst hi
      have e1 : Y.take i = Y := List.take_of_length_le (by omega)
      have e2 : X.take i = X := List.take_of_length_le (by omega)
      have e3 : Y.drop i = [] := List.drop_of_length_le (by omega)
      have e4 : X.drop i = [] := List.drop_of_length_le (by omega)
      rw [e1, e2, e3, e4, List.append_nil, List.append_nil]
      exact rfl
theorem swL_ok (hE : Plain E) (x : Sx) (hx : swOk x = true) : Takes Try.prog E ra base 1 (.loop (codeOf 69 (false :: qS))) (mkT 38 (swL.ins x)) (hp 0 (swL.blks x)) fun y => PostL 38 x y swL.alts := by
  obtain ⟨m, c, a, b, n⟩ := x
  simp only [swOk, Bool.and_eq_true, decide_eq_true_eq] at hx
  obtain ⟨hw, h1, h2, h3, h4, h5⟩ := hx
  obtain ⟨a, rfl⟩ := Int.eq_ofNat_of_zero_le h1
  obtain ⟨n, rfl⟩ := Int.eq_ofNat_of_zero_le h2
  obtain ⟨b, rfl⟩ := Int.eq_ofNat_of_zero_le (show 0 ≤ b by omega)
  have hl := un_len m c
  have e := cols_un hw
  have k1 : a + n ≤ b := by omega
  have k2 : b + n ≤ (c.un m).length := by omega
  have key := sr_loop (ra := ra) (base := base) hE h5 (p := (c.un m).take a) (X := part (c.un m) a (a + n)) (r := part (c.un m) (a + n) b) (Y := part (c.un m) b (b + n)) (q := (c.un m).drop (b + n)) (a := a) (b := b) (n := n) (by rw [List.length_take]; omega) (by rw [part_len _ (by omega)]; omega) (by rw [part_len _ k2]; omega) (by rw [List.length_take, part_len _ (by omega)]; omega) (by rw [← swO_two k1 k2]; exact hl)
  rw [← swO_two k1 k2, e] at key
  exact key.mono fun y hy => ⟨(), trivial, hy⟩
theorem TS_ok (hE : Plain E) : ToldsOK Try.prog E ra base 1 TS := sumT_ok noT_ok rfl (toldR_ok (c := .loop (codeOf 69 (false :: qS))) (by kernel_rfl) (swL_ok hE))
theorem sw_tree (E : Nat → Nat → Seg) (x : Sx) : (callT Try.prog E (W E noS noL) TS 1 69 (swD.args x) ⟨hp 0 (swD.blks x), 1, [], []⟩).take 1 (.c (.n (.n (.a (.i (.leaf [0] 0)))))) =
  .need (eT 38 (srT x.m x.a x.b x.n 0) [x.c.blkN x.m] (srT x.m x.a x.b x.n 0) [x.c.blkN x.m]) (.need (swOk x) (.all Unit fun _ => .imp True (.leaf (.ret, mkT 1 [], hp 0 [x.out.blkN x.m])))) := by kernel_rfl
theorem ok_blk (m : Nat) (c : C6) : okBs [c.blkN m] = true := rfl
theorem sw_gives (hE : Plain E) (x : Sx) (hx : swOk x = true) : Gives Try.prog E ra base 1 69 (swD.args x) (hp 0 (swD.blks x)) fun v h' => v = swD.out x ∧ h' = hp 0 (swD.blks' x) :=
  gives_of_treeQ hE (W_ok sumNone_ok noL_ok) (TS_ok hE) (hp_below [_]) (sw_tree E x) ⟨eT_self rfl rfl (ok_blk _ _), hx, fun _ _ => ⟨_, rfl, rfl, rfl⟩⟩
end
end Go.Proofs.Ytgkejpfahpbnkaa

namespace Go.Proofs.Ytgkejpfahpbnkaa
open Ab
open Classical
structure Ix where
  m : Nat
  c : C6
  a : Int
  b : Int
  i : Int
def Ix.l (x : Ix) : List Rc := x.c.un x.m
def iiO (l : List Rc) (a i : Nat) : List Rc := l.take a ++ (ins (l.getD i z6) (part l a i) ++ l.drop (i + 1))
noncomputable def iiOk (x : Ix) : Bool := decide (x.c.wf x.m = true ∧ 0 ≤ x.a ∧ x.a ≤ x.i ∧ x.i < x.m ∧ x.m ≤ big ∧ Sd (part x.l x.a.toNat x.i.toNat))
noncomputable def iiL : RDeal Ix where
  ins x := iiT x.m x.a x.b x.i [(9, .int .i64 x.i)]
  blks x := [x.c.blkN x.m]
  pre := iiOk
  alts := [⟨Unit, .exit 2, fun _ _ => True, fun x _ => iiT x.m x.a x.b x.i [], fun x _ => [(cols (iiO x.l x.a.toNat x.i.toNat)).blkN x.m]⟩]
def ixO (us : List AVal) (Bs : List Blk) : Option Ix := match us, Bs with
  | .slice _ m _ :: .int _ a :: .int _ b :: _ :: .int _ i :: _, [B] => match c6O B with
    | some c => some ⟨m, c, a, b, i⟩
    | none => none
  | _, _ => none
noncomputable def TI : Tolds := sumT 66 qI (toldR 53 iiL [0, 1, 2, 3, 8, 9] ixO) noT
def insO (l : List Rc) (a b : Nat) : List Rc := l.take a ++ (isort (part l a b) ++ l.drop b)
def ioOk (x : Ix) : Bool := x.c.wf x.m && (decide (0 ≤ x.a) && (decide (x.a ≤ x.b) && (decide (x.b ≤ x.m) && decide (x.m ≤ big))))
def Ix.out (x : Ix) : C6 := cols (insO x.l x.a.toNat x.b.toNat)
noncomputable def ioL : RDeal Ix where
  ins x := iiT x.m x.a x.b (wr .i64 (x.a + 1)) []
  blks x := [x.c.blkN x.m]
  pre := ioOk
  alts := [⟨Unit, .exit 0, fun _ _ => True, fun _ _ => [], fun x _ => [x.out.blkN x.m]⟩]
noncomputable def TO : Tolds := sumT 66 qS (toldR 53 ioL [0, 1, 2, 3, 8] ixO) noT
def insD : CDeal Ix := ⟨fun x => [sl x.m, .int .i64 x.a, .int .i64 x.b, .fn 46 []], fun x => [x.c.blkN x.m], ioOk, fun _ => .undef, fun x => [x.out.blkN x.m]⟩
def ixDO (us : List AVal) (Bs : List Blk) : Option Ix := match us, Bs with
  | .slice _ m _ :: .int _ a :: .int _ b :: _, [B] => match c6O B with
    | some c => some ⟨m, c, a, b, 0⟩
    | none => none
  | _, _ => none
structure Mx where
  m : Nat
  c : C6
  a : Int
  p : Int
  b : Int
def Mx.l (x : Mx) : List Rc := x.c.un x.m
def rotO (l : List Rc) (a p b : Nat) : List Rc := l.take a ++ (part l p b ++ (part l a p ++ l.drop b))
def rotOk (x : Mx) : Bool := x.c.wf x.m && (decide (0 ≤ x.a) && (decide (x.a < x.p) && (decide (x.p < x.b) && (decide (x.b ≤ x.m) && decide (x.m ≤ big)))))
def Mx.rot (x : Mx) : C6 := cols (rotO x.l x.a.toNat x.p.toNat x.b.toNat)
def rotD : CDeal Mx := ⟨fun x => [sl x.m, .int .i64 x.a, .int .i64 x.p, .int .i64 x.b, .fn 46 []], fun x => [x.c.blkN x.m], rotOk, fun _ => .undef, fun x => [x.rot.blkN x.m]⟩
def mxO (us : List AVal) (Bs : List Blk) : Option Mx := match us, Bs with
  | .slice _ m _ :: .int _ a :: .int _ p :: .int _ b :: _, [B] => match c6O B with
    | some c => some ⟨m, c, a, p, b⟩
    | none => none
  | _, _ => none
def SW : Sums := sumF 69 (callG swD sxO) noS
def mrgO (l : List Rc) (a p b : Nat) : List Rc := l.take a ++ (mrg (part l a p) (part l p b) ++ l.drop b)
noncomputable def mrgOk (N : Nat) (x : Mx) : Bool := decide (x.c.wf x.m = true ∧ 0 ≤ x.a ∧ x.a < x.p ∧ x.p < x.b ∧ x.b ≤ x.m ∧ x.m ≤ big ∧ Sd (part x.l x.a.toNat x.p.toNat) ∧ Sd (part x.l x.p.toNat x.b.toNat) ∧ x.b - x.a ≤ N)
def Mx.mrg (x : Mx) : C6 := cols (mrgO x.l x.a.toNat x.p.toNat x.b.toNat)
noncomputable def mrgD (N : Nat) : CDeal Mx := ⟨fun x => [sl x.m, .int .i64 x.a, .int .i64 x.p, .int .i64 x.b, .fn 46 []], fun x => [x.c.blkN x.m], mrgOk N, fun _ => .undef, fun x => [x.mrg.blkN x.m]⟩
noncomputable def SM (N : Nat) : Sums := sumF 67 (callG (mrgD N) mxO) (sumF 68 (callG rotD mxO) noS)
structure Bx where
  m : Nat
  c : C6
  a : Int
  i : Int
  j : Int
def Bx.l (x : Bx) : List Rc := x.c.un x.m
def gt (l : List Rc) (i : Int) : Rc := l.getD i.toNat z6
def Fst (P : Int → Bool) (i j r : Int) : Prop := i ≤ r ∧ r ≤ j ∧ (∀ t, i ≤ t → t < r → P t = false) ∧ ∀ t, r ≤ t → t < j → P t = true
def Mono (P : Int → Bool) (i j : Int) : Prop := ∀ t s, i ≤ t → t ≤ s → s < j → P t = true → P s = true
def P0 (x : Bx) (t : Int) : Bool := !lt (gt x.l t) (gt x.l x.a)
noncomputable def s0Ok (x : Bx) : Bool := decide (x.c.wf x.m = true ∧ 0 ≤ x.a ∧ x.a < x.m ∧ 0 ≤ x.i ∧ x.i ≤ x.j ∧ x.j ≤ x.m ∧ x.m ≤ big ∧ Mono (P0 x) x.i x.j)
noncomputable def s0L : RDeal Bx where
  ins x := [(0, sl x.m), (1, .int .i64 x.a), (4, .fn 46 []), (10, .int .i64 x.i), (11, .int .i64 x.j)]
  blks x := [x.c.blkN x.m]
  pre := s0Ok
  alts := [⟨Int, .exit 0, fun x r => Fst (P0 x) x.i x.j r, fun x r => [(0, sl x.m), (1, .int .i64 x.a), (10, .int .i64 r)], fun x _ => [x.c.blkN x.m]⟩]
def bxO (us : List AVal) (Bs : List Blk) : Option Bx := match us, Bs with
  | [.slice _ m _, .int _ a, _, .int _ i, .int _ j], [B] => match c6O B with
    | some c => some ⟨m, c, a, i, j⟩
    | none => none
  | _, _ => none
def P4 (x : Bx) (t : Int) : Bool := lt (gt x.l x.a) (gt x.l t)
noncomputable def s4Ok (x : Bx) : Bool := decide (x.c.wf x.m = true ∧ 0 ≤ x.a ∧ x.a < x.m ∧ 0 ≤ x.i ∧ x.i ≤ x.j ∧ x.j ≤ x.m ∧ x.m ≤ big ∧ Mono (P4 x) x.i x.j)
noncomputable def s4L : RDeal Bx where
  ins x := [(0, sl x.m), (2, .int .i64 x.a), (4, .fn 46 []), (14, .int .i64 x.i), (15, .int .i64 x.j)]
  blks x := [x.c.blkN x.m]
  pre := s4Ok
  alts := [⟨Int, .exit 4, fun x r => Fst (P4 x) x.i x.j r, fun x r => [(0, sl x.m), (2, .int .i64 x.a), (14, .int .i64 r)], fun x _ => [x.c.blkN x.m]⟩]
structure Cx where
  m : Nat
  c : C6
  a : Int
  p : Int
  b : Int
  d : Int
  n : Int
  i : Int
  r : Int
  q : Int
def Cx.l (x : Cx) : List Rc := x.c.un x.m
def P8 (x : Cx) (t : Int) : Bool := lt (gt x.l (x.q - t)) (gt x.l t)
noncomputable def s8Ok (x : Cx) : Bool := decide (x.c.wf x.m = true ∧ 0 ≤ x.i ∧ x.i ≤ x.r ∧ x.r ≤ x.m ∧ (x.i < x.r → 0 ≤ x.q - (x.r - 1) ∧ x.q - x.i < x.m) ∧ x.q ≤ 2 * big ∧ x.m ≤ big ∧ Mono (P8 x) x.i x.r)
noncomputable def s8L : RDeal Cx where
  ins x := s8T x.m x.a x.p x.b x.d x.n x.i [(21, .int .i64 x.r), (22, .int .i64 x.q)]
  blks x := [x.c.blkN x.m]
  pre := s8Ok
  alts := [⟨Int, .exit 8, fun x r => Fst (P8 x) x.i x.r r, fun x r => s8T x.m x.a x.p x.b x.d x.n r [], fun x _ => [x.c.blkN x.m]⟩]
def cxO (us : List AVal) (Bs : List Blk) : Option Cx := match us, Bs with
  | [.slice _ m _, .int _ a, .int _ p, .int _ b, _, .int _ d, .int _ n, .int _ i, .int _ r, .int _ q], [B] => match c6O B with
    | some c => some ⟨m, c, a, p, b, d, n, i, r, q⟩
    | none => none
  | _, _ => none
structure Gx where
  m : Nat
  c : C6
  i : Int
  k : Int
def Gx.l (x : Gx) : List Rc := x.c.un x.m
def upO (l : List Rc) (a i : Nat) : List Rc := l.take a ++ (part l (a + 1) i ++ (l.getD a z6 :: l.drop i))
def s2Ok (x : Gx) : Bool := x.c.wf x.m && (decide (0 ≤ x.k) && (decide (x.k < x.i) && (decide (x.i ≤ x.m) && decide (x.m ≤ big))))
def s2L : RDeal Gx where
  ins x := [(0, sl x.m), (10, .int .i64 x.i), (13, .int .i64 x.k)]
  blks x := [x.c.blkN x.m]
  pre := s2Ok
  alts := [⟨Unit, .exit 2, fun _ _ => True, fun _ _ => [], fun x _ => [(cols (upO x.l x.k.toNat x.i.toNat)).blkN x.m]⟩]
def gxO (us : List AVal) (Bs : List Blk) : Option Gx := match us, Bs with
  | [.slice _ m _, .int _ i, .int _ k], [B] => match c6O B with
    | some c => some ⟨m, c, i, k⟩
    | none => none
  | _, _ => none
def dnO (l : List Rc) (i p : Nat) : List Rc := l.take i ++ (l.getD p z6 :: (part l i p ++ l.drop (p + 1)))
def s6Ok (x : Gx) : Bool := x.c.wf x.m && (decide (0 ≤ x.i) && (decide (x.i ≤ x.k) && (decide (x.k < x.m) && decide (x.m ≤ big))))
def s6L : RDeal Gx where
  ins x := [(0, sl x.m), (14, .int .i64 x.i), (17, .int .i64 x.k)]
  blks x := [x.c.blkN x.m]
  pre := s6Ok
  alts := [⟨Unit, .exit 6, fun _ _ => True, fun _ _ => [], fun x _ => [(cols (dnO x.l x.i.toNat x.k.toNat)).blkN x.m]⟩]
noncomputable def TM : Tolds := sumT 67 q0 (toldR 220 s0L [0, 1, 4, 10, 11] bxO) (sumT 67 q2 (toldR 220 s2L [0, 10, 13] gxO) (sumT 67 q4 (toldR 220 s4L [0, 2, 4, 14, 15] bxO) (sumT 67 q6 (toldR 220 s6L [0, 14, 17] gxO) (sumT 67 q8 (toldR 220 s8L [0, 1, 2, 3, 4, 18, 19, 20, 21, 22] cxO) noT))))
end Go.Proofs.Ytgkejpfahpbnkaa

namespace Go.Proofs.Ytgkejpfahpbnkaa
open Ab
theorem io_tree (E : Nat → Nat → Seg) (m : Nat) (c : C6) (a b i : Int) : (execT (W E noS noL) TI 1 400 66 (false :: qS) (codeOf 66 (false :: qS)) (mkT 53 (iiT m a b i [])) ⟨hp 0 [c.blkN m], 1, [], []⟩ leafQ).take 1 (.x (.c (.n (.n (.a (.i (.leaf [0] 271)))))) (.leaf [0] 0)) =
  .br (decide (i < b)) (.need (eT 53 (iiT m a b i [(9, .int .i64 i)]) [c.blkN m] (iiT m a b i [(9, .int .i64 i)]) [c.blkN m]) (.need (iiOk ⟨m, c, a, b, i⟩) (.all Unit fun _ => .imp True (.leaf (.normal, mkT 53 (iiT m a b (wr .i64 (i + 1)) []), hp 0 [(cols (iiO (c.un m) a.toNat i.toNat)).blkN m])))))
    (.leaf (.exit 0, mkT 53 [], hp 0 [c.blkN m])) := by kernel_rfl
theorem fi_tree (E : Nat → Nat → Seg) (x : Ix) : (callT Try.prog E (W E noS noL) TO 1 66 (insD.args x) ⟨hp 0 (insD.blks x), 1, [], []⟩).take 1 (.c (.n (.n (.a (.i (.leaf [0] 0)))))) =
  .need (eT 53 (iiT x.m x.a x.b (wr .i64 (x.a + 1)) []) [x.c.blkN x.m] (iiT x.m x.a x.b (wr .i64 (x.a + 1)) []) [x.c.blkN x.m]) (.need (ioOk x) (.all Unit fun _ => .imp True (.leaf (.ret, mkT 1 [], hp 0 [x.out.blkN x.m])))) := by kernel_rfl
def roT (m : Nat) (p i : Int) (r : List (Nat × AVal)) : List (Nat × AVal) := [(0, sl m), (2, .int .i64 p), (4, .fn 46 []), (10, .int .i64 i)] ++ r
theorem ro_tree (E : Nat → Nat → Seg) (m : Nat) (c : C6) (p i j : Int) : ((W E SW noL 68 [false, false, false, true, true] false (codeOf 68 [false, false, false, true, true]) (mkT 58 (roT m p i [(11, .int .i64 j)]))).full ⟨hp 0 [c.blkN m], 1, [], []⟩ leafS).take 1 (.x (.x (.n (.n (.n (.leaf [0] 3093)))) (.n (.n (.n (.leaf [0] 3093))))) (.leaf [0] 1045)) =
  .br (!decide (i = j)) (.br (decide (j < i))
      (.need (eB [c.blkN m]) (.need (eV (swD.args ⟨m, c, wr .i64 (p - i), p, j⟩)) (.need (swOk ⟨m, c, wr .i64 (p - i), p, j⟩) (lf m .normal 58 (roT m p (wr .i64 (i - j)) [(11, .int .i64 j)]) (Sx.out ⟨m, c, wr .i64 (p - i), p, j⟩)))))
      (.need (eB [c.blkN m]) (.need (eV (swD.args ⟨m, c, wr .i64 (p - i), wr .i64 (wr .i64 (p + j) - i), i⟩)) (.need (swOk ⟨m, c, wr .i64 (p - i), wr .i64 (wr .i64 (p + j) - i), i⟩) (lf m .normal 58 (roT m p i [(11, .int .i64 (wr .i64 (j - i)))]) (Sx.out ⟨m, c, wr .i64 (p - i), wr .i64 (wr .i64 (p + j) - i), i⟩))))))
    (lf m (.exit 0) 58 (roT m p i []) c) := by kernel_rfl
end Go.Proofs.Ytgkejpfahpbnkaa

namespace Go.Proofs.Ytgkejpfahpbnkaa
open Ab
theorem part_mid {A B C : List Rc} {a b : Nat} (ha : a = A.length) (hb : b = A.length + B.length) : part (A ++ (B ++ C)) a b = B := by
  rw [part, ha, hb, List.drop_left, Nat.add_sub_cancel_left, List.take_left]
theorem take_mid {A B : List Rc} {a : Nat} (ha : a = A.length) : (A ++ B).take a = A := by rw [ha, List.take_left]
theorem drop_mid {A B : List Rc} {a : Nat} (ha : a = A.length) : (A ++ B).drop a = B := by rw [ha, List.drop_left]
theorem swO_of {P X R Y Q : List Rc} {a b n : Nat} (ha : a = P.length) (hn : X.length = n) (hY : Y.length = n) (hb : b = P.length + n + R.length) : swO (P ++ (X ++ (R ++ (Y ++ Q)))) a b n = P ++ (Y ++ (R ++ (X ++ Q))) := by
  have e1 : (P ++ (X ++ (R ++ (Y ++ Q)))).take a = P := take_mid ha
  have e2 : part (P ++ (X ++ (R ++ (Y ++ Q)))) b (b + n) = Y := by
    rw [show P ++ (X ++ (R ++ (Y ++ Q))) = (P ++ X ++ R) ++ (Y ++ Q) by simp]
    exact part_mid (by simp; omega) (by simp; omega)
  have e3 : part (P ++ (X ++ (R ++ (Y ++ Q)))) (a + n) b = R := by
    rw [show P ++ (X ++ (R ++ (Y ++ Q))) = (P ++ X) ++ (R ++ (Y ++ Q)) by simp]
    exact part_mid (by simp; omega) (by simp; omega)
  have e4 : part (P ++ (X ++ (R ++ (Y ++ Q)))) a (a + n) = X := part_mid ha (by omega)
  have e5 : (P ++ (X ++ (R ++ (Y ++ Q)))).drop (b + n) = Q := by
    rw [show P ++ (X ++ (R ++ (Y ++ Q))) = (P ++ X ++ R ++ Y) ++ Q by simp]
    exact drop_mid (by simp; omega)
  rw [swO, e1, e2, e3, e4, e5]
theorem whole3 {l : List Rc} {a b : Nat} (h : a ≤ b) (hb : b ≤ l.length) : l = l.take a ++ (part l a b ++ l.drop b) := by
  rw [take_part, drop_part, ← part_cut l (by omega) (by omega), ← part_cut l (by omega) (by omega)]
  exact whole_part l
theorem whole4 {l : List Rc} {a p b : Nat} (h : a ≤ p) (h' : p ≤ b) (hb : b ≤ l.length) : l = l.take a ++ (part l a p ++ (part l p b ++ l.drop b)) := by
  rw [take_part, drop_part, ← part_cut l (by omega) (by omega), ← part_cut l (by omega) (by omega), ← part_cut l (by omega) (by omega)]
  exact whole_part l
theorem part_snoc {l : List Rc} {a i : Nat} (h : a ≤ i) (hi : i < l.length) : part l a (i + 1) = part l a i ++ [l.getD i z6] := by
  rw [part_cut l (show a ≤ i from h) (Nat.le_succ i)]
  congr 1
  rw [part, List.drop_eq_getElem_cons hi, show i + 1 - i = 1 by omega, List.getD_eq_getElem?_getD, List.getElem?_eq_getElem hi]; rfl
theorem drop_at {l : List Rc} {i : Nat} (hi : i < l.length) : l.drop i = l.getD i z6 :: l.drop (i + 1) := by
  rw [List.drop_eq_getElem_cons hi, List.getD_eq_getElem?_getD, List.getElem?_eq_getElem hi]; rfl
theorem getD_at' {A B : List Rc} {x : Rc} {i : Nat} (h : i = A.length) : (A ++ x :: B).getD i z6 = x := by rw [h]; exact getD_mid _ _ _
section
variable {E : Nat → Nat → Seg} {ra : Nat → Nat → Nat × Nat} {base : Nat}
theorem ii_loop (hE : Plain E) {m : Nat} (hm : m ≤ big) {A S R : List Rc} {x : Rc} {a i : Nat} {b : Int} (ha : a = A.length) (hi : i = a + S.length) (hl : (A ++ (S ++ x :: R)).length = m) (hS : Sd S) :
    Takes Try.prog E ra base 1 (.loop (codeOf 66 (false :: qI))) (mkT 53 (iiT m a b i [(9, .int .i64 i)])) (hp 0 [(cols (A ++ (S ++ x :: R))).blkN m]) fun y => y = (.exit 2, mkT 53 (iiT m a b i []), hp 0 [(cols (A ++ (ins x S ++ R))).blkN m]) := by
  simp only [List.length_append, List.length_cons] at hl
  unfold big at hm
  refine takes_loop (fun n ts hh => ∃ (S1 S2 : List Rc), S = S1 ++ S2 ∧ n = S1.length + 1 ∧ (∀ y ∈ S2, lt x y = true) ∧ ts = mkT 53 (iiT m a b i [(9, .int .i64 ((a + S1.length : Nat) : Int))]) ∧ hh = hp 0 [(cols (A ++ (S1 ++ x :: (S2 ++ R)))).blkN m]) ?_ ?_ (j := S.length + 1) ⟨S, [], by simp, rfl, by simp, by rw [hi], by simp⟩
  · rintro ts hh ⟨S1, S2, _, h2, _⟩; omega
  · rintro n ts hh ⟨S1, S2, hs, hn, h2, rfl, rfl⟩
    refine takes_of_tree hE (W_ok (SO_ok hE) noL_ok) (.inr (by kernel_rfl)) (hp_below _) (ii_tree E m _ a b i ((a + S1.length : Nat) : Int)) ?_
    have ls : S.length = S1.length + S2.length := by rw [hs, List.length_append]
    refine br_by (fun h => ?_) fun h => ?_
    · obtain ⟨T, y, rfl⟩ : ∃ T y, S1 = T ++ [y] := by
        rcases List.eq_nil_or_concat S1 with e | ⟨T, y, e⟩
        · subst e; simp at h
        · exact ⟨T, y, by simpa using e⟩
      have lt1 : (T ++ [y]).length = T.length + 1 := by simp
      rw [lt1] at hn ls h
      rw [lt1, wr_sub1 (a := a + (T.length + 1)) (by omega) (by omega)]
      have e0 : A ++ ((T ++ [y]) ++ x :: (S2 ++ R)) = (A ++ T) ++ y :: ([] ++ x :: (S2 ++ R)) := by simp
      have e1 : (cols (A ++ ((T ++ [y]) ++ x :: (S2 ++ R)))).at (ix ((a + (T.length + 1) : Nat) : Int)) = x := by
        rw [at_cols, show A ++ ((T ++ [y]) ++ x :: (S2 ++ R)) = (A ++ (T ++ [y])) ++ x :: (S2 ++ R) by simp]
        exact getD_at' (by simp only [ix, Int.toNat_natCast, List.length_append, lt1]; omega)
      have e2 : (cols (A ++ ((T ++ [y]) ++ x :: (S2 ++ R)))).at (ix ((a + (T.length + 1) - 1 : Nat) : Int)) = y := by
        rw [at_cols, e0]
        exact getD_at' (by simp only [ix, Int.toNat_natCast, List.length_append]; omega)
      rw [e1, e2]
      refine nI_holds ⟨by omega, by omega⟩ (nI_holds ⟨by omega, by omega⟩ ⟨eV_eq _, br_by (fun hc => ?_) fun hc => ?_⟩)
      · have hxy : lt x y = true := lt_iff.2 hc
        refine nI_holds ⟨by omega, by omega⟩ (nI_holds ⟨by omega, by omega⟩ (nI_holds ⟨by omega, by omega⟩ (nI_holds ⟨by omega, by omega⟩ ⟨T, y :: S2, by rw [hs]; simp, by omega, fun z hz => ?_, rfl, ?_⟩)))
        · rcases List.mem_cons.1 hz with rfl | hz
          · exact hxy
          · exact h2 z hz
        · rw [swp_cols, e0, swp_two' (by simp only [ix, Int.toNat_natCast, List.length_append]; omega) (by simp only [ix, Int.toNat_natCast, List.length_append, List.length_nil]; omega)]
          simp
      · have hxy : lt x y = false := by
          rw [lt, decide_eq_false hc]
        have key : ins x S = (T ++ [y]) ++ x :: S2 := by
          rw [hs]
          refine ins_cut (fun z hz => ?_) h2
          rcases List.mem_append.1 hz with hz | hz
          · have : Sd (T ++ [y]) := by rw [hs] at hS; exact hS.left
            have hzy := (List.pairwise_append.1 this).2.2 z hz y (by simp)
            exact le_tr hzy hxy
          · rw [List.mem_singleton] at hz; subst hz; exact hxy
        show _ = _
        rw [key]; simp
    · have e : S1 = [] := List.length_eq_zero_iff.1 (by omega)
      subst e
      have key : ins x S = [] ++ x :: S2 := by rw [hs]; exact ins_cut (by simp) h2
      show _ = _
      rw [key]; simp
theorem iiL_ok (hE : Plain E) (x : Ix) (hx : iiOk x = true) : Takes Try.prog E ra base 1 (.loop (codeOf 66 (false :: qI))) (mkT 53 (iiL.ins x)) (hp 0 (iiL.blks x)) fun y => PostL 53 x y iiL.alts := by
  obtain ⟨m, c, a, b, i⟩ := x
  have hx := @of_decide_eq_true _ (_) hx
  obtain ⟨hw, h1, h2, h3, h5, hs⟩ := hx
  simp only [Ix.l] at *
  obtain ⟨a, rfl⟩ := Int.eq_ofNat_of_zero_le h1
  obtain ⟨i, rfl⟩ := Int.eq_ofNat_of_zero_le (show 0 ≤ i by omega)
  simp only [Int.toNat_natCast] at hs
  have hl := un_len m c
  have e := cols_un hw
  have k : c.un m = (c.un m).take a ++ (part (c.un m) a i ++ (c.un m).getD i z6 :: (c.un m).drop (i + 1)) := by
    rw [← drop_at (by omega)]; exact whole3 (by omega) (by omega)
  have key := ii_loop (ra := ra) (base := base) hE h5 (A := (c.un m).take a) (S := part (c.un m) a i) (R := (c.un m).drop (i + 1)) (x := (c.un m).getD i z6) (a := a) (i := i) (b := b) (by rw [List.length_take]; omega) (by rw [part_len _ (by omega)]; omega) (by rw [← k]; exact hl) hs
  rw [← k, e] at key
  exact key.mono fun y hy => ⟨(), trivial, hy⟩
theorem TI_ok (hE : Plain E) : ToldsOK Try.prog E ra base 1 TI := sumT_ok noT_ok rfl (toldR_ok (c := .loop (codeOf 66 (false :: qI))) (by kernel_rfl) (iiL_ok hE))
theorem io_loop (hE : Plain E) {m : Nat} (hm : m ≤ big) {A B R : List Rc} {a b : Nat} (ha : a = A.length) (hb : b = a + B.length) (hl : (A ++ (B ++ R)).length = m) :
    Takes Try.prog E ra base 1 (.loop (codeOf 66 (false :: qS))) (mkT 53 (iiT m a b ((a + 1 : Nat) : Int) [])) (hp 0 [(cols (A ++ (B ++ R))).blkN m]) fun y => y = (.exit 0, mkT 53 [], hp 0 [(cols (A ++ (isort B ++ R))).blkN m]) := by
  simp only [List.length_append] at hl
  have hm' := hm
  unfold big at hm'
  have one : ∀ l : List Rc, isort (l.take 1) = l.take 1 := by intro l; cases l <;> rfl
  refine takes_loop (fun n ts hh => ∃ i : Nat, 1 ≤ i ∧ i ≤ B.length + 1 ∧ i + n = B.length + 2 ∧ ts = mkT 53 (iiT m a b ((a + i : Nat) : Int) []) ∧ hh = hp 0 [(cols (A ++ (isort (B.take i) ++ (B.drop i ++ R)))).blkN m]) ?_ ?_ (j := B.length + 1) ⟨1, Nat.le_refl _, by omega, by omega, rfl, by rw [one, ← List.append_assoc (B.take 1), List.take_append_drop]⟩
  · rintro ts hh ⟨i, h1, h2, h3, _⟩; omega
  · rintro n ts hh ⟨i, hi1, hi2, hn, rfl, rfl⟩
    refine takes_of_treeQ hE (W_ok sumNone_ok noL_ok) (TI_ok hE) (.inr (by kernel_rfl)) (hp_below [_]) (io_tree E m _ a b ((a + i : Nat) : Int)) ?_
    have il : (isort (B.take i)).length = min i B.length := by rw [isort_length, List.length_take]
    by_cases hi : i < B.length
    · refine br_yes (decide_eq_true (by omega)) ?_
      obtain ⟨x, r, x1, x2, x3⟩ := cut_at (l := B) rfl hi
      have lr : r.length + 1 = B.length - i := by have := congrArg List.length x1; simp only [List.length_drop, List.length_cons] at this; omega
      rw [x1]
      have ll : (A ++ (isort (B.take i) ++ (x :: r ++ R))).length = m := by simp only [List.length_append, List.length_cons, il]; omega
      have uc : (cols (A ++ (isort (B.take i) ++ (x :: r ++ R)))).un m = A ++ (isort (B.take i) ++ (x :: r ++ R)) := by rw [← ll]; exact un_cols _
      have pt : part (A ++ (isort (B.take i) ++ (x :: r ++ R))) a (a + i) = isort (B.take i) := part_mid ha (by omega)
      refine ⟨eT_self rfl rfl (ok_blk _ _), @decide_eq_true _ (_) ⟨by rw [← ll]; exact cols_wf _, by show (0 : Int) ≤ (a : Int); omega, by show (a : Int) ≤ ((a + i : Nat) : Int); omega, by show ((a + i : Nat) : Int) < (m : Int); omega, hm, ?_⟩, fun _ _ => ⟨i + 1, by omega, by omega, by omega, ?_, ?_⟩⟩
      · rw [Ix.l, uc, Int.toNat_natCast, Int.toNat_natCast, pt]; exact isort_sd _
      · rw [wr_one (by omega)]; rfl
      · rw [uc, Int.toNat_natCast, Int.toNat_natCast, iiO, pt, take_mid ha]
        have g : (A ++ (isort (B.take i) ++ (x :: r ++ R))).getD (a + i) z6 = x := by
          rw [show A ++ (isort (B.take i) ++ (x :: r ++ R)) = (A ++ isort (B.take i)) ++ x :: (r ++ R) by simp]
          exact getD_at' (by rw [List.length_append]; omega)
        have d : (A ++ (isort (B.take i) ++ (x :: r ++ R))).drop (a + i + 1) = r ++ R := by
          rw [show A ++ (isort (B.take i) ++ (x :: r ++ R)) = (A ++ (isort (B.take i) ++ [x])) ++ (r ++ R) by simp]
          exact drop_mid (by simp only [List.length_append, List.length_singleton]; omega)
        rw [g, d, x2, isort_snoc, x3]
    · refine br_no (decide_eq_false (by omega)) ?_
      show _ = _
      rw [List.take_of_length_le (by omega), List.drop_of_length_le (by omega)]; rfl
end
end Go.Proofs.Ytgkejpfahpbnkaa

namespace Go.Proofs.Ytgkejpfahpbnkaa
open Ab
section
variable {E : Nat → Nat → Seg} {ra : Nat → Nat → Nat × Nat} {base : Nat}
theorem ioL_ok (hE : Plain E) (x : Ix) (hx : ioOk x = true) : Takes Try.prog E ra base 1 (.loop (codeOf 66 (false :: qS))) (mkT 53 (ioL.ins x)) (hp 0 (ioL.blks x)) fun y => PostL 53 x y ioL.alts := by
  obtain ⟨m, c, a, b, i⟩ := x
  simp only [ioOk, Bool.and_eq_true, decide_eq_true_eq] at hx
  obtain ⟨hw, h1, h2, h3, h5⟩ := hx
  have h5' := h5
  unfold big at h5'
  obtain ⟨a, rfl⟩ := Int.eq_ofNat_of_zero_le h1
  obtain ⟨b, rfl⟩ := Int.eq_ofNat_of_zero_le (show 0 ≤ b by omega)
  have hl := un_len m c
  have e := cols_un hw
  have k := whole3 (l := c.un m) (a := a) (b := b) (by omega) (by omega)
  have key := io_loop (ra := ra) (base := base) hE h5 (A := (c.un m).take a) (B := part (c.un m) a b) (R := (c.un m).drop b) (a := a) (b := b) (by rw [List.length_take]; omega) (by rw [part_len _ (by omega)]; omega) (by rw [← k]; exact hl)
  rw [← k, e, ← wr_one (by omega)] at key
  exact key.mono fun y hy => ⟨(), trivial, hy⟩
theorem TO_ok (hE : Plain E) : ToldsOK Try.prog E ra base 1 TO := sumT_ok noT_ok rfl (toldR_ok (c := .loop (codeOf 66 (false :: qS))) (by kernel_rfl) (ioL_ok hE))
theorem ins_gives (hE : Plain E) (x : Ix) (hx : ioOk x = true) : Gives Try.prog E ra base 1 66 (insD.args x) (hp 0 (insD.blks x)) fun v h' => v = insD.out x ∧ h' = hp 0 (insD.blks' x) :=
  gives_of_treeQ hE (W_ok sumNone_ok noL_ok) (TO_ok hE) (hp_below [_]) (fi_tree E x) ⟨eT_self rfl rfl (ok_blk _ _), hx, fun _ _ => ⟨_, rfl, rfl, rfl⟩⟩
theorem SW_ok (hE : Plain E) : SumsOK Try.prog E ra base SW := sumG_deal hE sumNone_ok ⟨_, Try.func69, by kernel_rfl⟩ fun x hx => sw_gives hE x hx
structure Ox where
  m : Nat
  c : C6
  p : Int
  i : Int
  j : Int
def roOk (x : Ox) : Bool := x.c.wf x.m && (decide (1 ≤ x.i) && (decide (1 ≤ x.j) && (decide (x.i ≤ x.p) && (decide (x.p + x.j ≤ x.m) && decide (x.m ≤ big)))))
structure Oy where
  i : Int
  c : C6
def roP (x : Ox) (y : Oy) : Prop := ∃ (i : Nat) (l : List Rc), y.i = i ∧ y.c = cols l ∧ l.length = x.m ∧ 1 ≤ i ∧ (i : Int) ≤ x.p ∧ x.p + i ≤ x.m ∧ swO l (x.p - i).toNat x.p.toNat i = rotO (x.c.un x.m) (x.p - x.i).toNat x.p.toNat (x.p + x.j).toNat
def roL : RDeal Ox where
  ins x := roT x.m x.p x.i [(11, .int .i64 x.j)]
  blks x := [x.c.blkN x.m]
  pre := roOk
  alts := [⟨Oy, .exit 0, roP, fun x y => roT x.m x.p y.i [], fun x y => [y.c.blkN x.m]⟩]
def oxO (us : List AVal) (Bs : List Blk) : Option Ox := match us, Bs with
  | [.slice _ m _, .int _ p, _, .int _ i, .int _ j], [B] => match c6O B with
    | some c => some ⟨m, c, p, i, j⟩
    | none => none
  | _, _ => none
def qR0 : List Bool := [false, false, true, true]
def TR : Tolds := sumT 68 qR0 (toldR 58 roL [0, 2, 4, 10, 11] oxO) noT
theorem ro_loop (hE : Plain E) {m : Nat} (hm : m ≤ big) {P0 X0 Y0 Q0 : List Rc} {p : Nat} (hp0 : p = P0.length + X0.length) (hx0 : 1 ≤ X0.length) (hy0 : 1 ≤ Y0.length) (hl : (P0 ++ (X0 ++ (Y0 ++ Q0))).length = m) :
    Takes Try.prog E ra base 1 (.loop (codeOf 68 (false :: qR0))) (mkT 58 (roT m p (X0.length : Int) [(11, .int .i64 (Y0.length : Int))])) (hp 0 [(cols (P0 ++ (X0 ++ (Y0 ++ Q0)))).blkN m])
      fun y => ∃ (i : Nat) (l : List Rc), y = (.exit 0, mkT 58 (roT m p (i : Int) []), hp 0 [(cols l).blkN m]) ∧ l.length = m ∧ 1 ≤ i ∧ i ≤ p ∧ p + i ≤ m ∧ swO l (p - i) p i = P0 ++ (Y0 ++ (X0 ++ Q0)) := by
  have hm' := hm
  unfold big at hm'
  simp only [List.length_append] at hl
  refine takes_loop (fun n ts hh => ∃ (P X Y Q : List Rc), X.length + Y.length ≤ n ∧ 1 ≤ X.length ∧ 1 ≤ Y.length ∧ p = P.length + X.length ∧ P.length + (X.length + (Y.length + Q.length)) = m ∧ P ++ (Y ++ (X ++ Q)) = P0 ++ (Y0 ++ (X0 ++ Q0)) ∧ ts = mkT 58 (roT m p (X.length : Int) [(11, .int .i64 (Y.length : Int))]) ∧ hh = hp 0 [(cols (P ++ (X ++ (Y ++ Q)))).blkN m]) ?_ ?_ (j := X0.length + Y0.length) ⟨P0, X0, Y0, Q0, Nat.le_refl _, hx0, hy0, hp0, hl, rfl, rfl, rfl⟩
  · rintro ts hh ⟨P, X, Y, Q, h1, h2, h3, _⟩; omega
  · rintro n ts hh ⟨P, X, Y, Q, h1, h2, h3, hp1, hl1, ht, rfl, rfl⟩
    refine takes_of_tree hE (W_ok (SW_ok hE) noL_ok) (.inr (by kernel_rfl)) (hp_below _) (ro_tree E m _ p (X.length : Int) (Y.length : Int)) ?_
    have ll : (P ++ (X ++ (Y ++ Q))).length = m := by simp only [List.length_append]; exact hl1
    have wf : (cols (P ++ (X ++ (Y ++ Q)))).wf m = true := by rw [← ll]; exact cols_wf _
    have un : (cols (P ++ (X ++ (Y ++ Q)))).un m = P ++ (X ++ (Y ++ Q)) := by rw [← ll]; exact un_cols _
    refine br_by' (fun h => br_by (fun hji => ?_) fun hji => ?_) fun h => ?_
    · have hb : Y.length < X.length := by omega
      rw [wr_sub (a := p) (b := X.length) (by omega) (by omega), wr_sub (a := X.length) (b := Y.length) (by omega) (by omega)]
      have ok : swOk ⟨m, cols (P ++ (X ++ (Y ++ Q))), ((p - X.length : Nat) : Int), p, Y.length⟩ = true := by
        simp only [swOk, Bool.and_eq_true, decide_eq_true_eq]
        exact ⟨wf, by omega, by omega, by omega, by omega, hm⟩
      refine ⟨eB_eq (ok_blk _ _), eV_eq _, ok, ?_⟩
      obtain ⟨X1, X2, rfl, hX1⟩ : ∃ X1 X2, X = X1 ++ X2 ∧ X1.length = Y.length := ⟨X.take Y.length, X.drop Y.length, (List.take_append_drop _ _).symm, by rw [List.length_take]; omega⟩
      have lx : (X1 ++ X2).length = Y.length + X2.length := by rw [List.length_append, hX1]
      refine ⟨P ++ Y, X2, X1, Q, by omega, by omega, by omega, by simp only [List.length_append]; omega, by simp only [List.length_append]; omega, by rw [← ht]; simp, ?_, ?_⟩
      · rw [hX1, show (X1 ++ X2).length - Y.length = X2.length by omega]
      · show hp 0 _ = _
        simp only [Sx.out, un, Int.toNat_natCast]
        rw [show P ++ ((X1 ++ X2) ++ (Y ++ Q)) = P ++ (X1 ++ (X2 ++ (Y ++ Q))) by simp, swO_of (by omega) hX1 rfl (by omega)]
        simp
    · have hb : X.length < Y.length := by omega
      rw [wr_sub (a := p) (b := X.length) (by omega) (by omega), wr_sub (a := Y.length) (b := X.length) (by omega) (by omega), wr_add (a := p) (b := Y.length) (by omega), wr_sub (a := p + Y.length) (b := X.length) (by omega) (by omega)]
      have ok : swOk ⟨m, cols (P ++ (X ++ (Y ++ Q))), ((p - X.length : Nat) : Int), ((p + Y.length - X.length : Nat) : Int), X.length⟩ = true := by
        simp only [swOk, Bool.and_eq_true, decide_eq_true_eq]
        exact ⟨wf, by omega, by omega, by omega, by omega, hm⟩
      refine ⟨eB_eq (ok_blk _ _), eV_eq _, ok, ?_⟩
      obtain ⟨Y1, Y2, rfl, hY1⟩ : ∃ Y1 Y2, Y = Y1 ++ Y2 ∧ Y1.length = Y.length - X.length := ⟨Y.take (Y.length - X.length), Y.drop (Y.length - X.length), (List.take_append_drop _ _).symm, by rw [List.length_take]; omega⟩
      have ly : (Y1 ++ Y2).length = Y1.length + Y2.length := List.length_append
      refine ⟨P, Y2, Y1, X ++ Q, by omega, by omega, by omega, by omega, by simp only [List.length_append]; omega, by rw [← ht]; simp, ?_, ?_⟩
      · rw [show Y2.length = X.length by omega, show Y1.length = (Y1 ++ Y2).length - X.length by omega]
      · show hp 0 _ = _
        simp only [Sx.out, un, Int.toNat_natCast]
        rw [show P ++ (X ++ ((Y1 ++ Y2) ++ Q)) = P ++ (X ++ (Y1 ++ (Y2 ++ Q))) by simp, swO_of (by omega) rfl (by omega) (by omega)]
    · have hb : X.length = Y.length := by omega
      refine ⟨X.length, _, rfl, ll, h2, by omega, by omega, ?_⟩
      rw [← ht, show P ++ (X ++ (Y ++ Q)) = P ++ (X ++ ([] ++ (Y ++ Q))) by simp, swO_of (by omega) rfl hb.symm (by simp; omega)]
      rfl
theorem roL_ok (hE : Plain E) (x : Ox) (hx : roOk x = true) : Takes Try.prog E ra base 1 (.loop (codeOf 68 (false :: qR0))) (mkT 58 (roL.ins x)) (hp 0 (roL.blks x)) fun y => PostL 58 x y roL.alts := by
  obtain ⟨m, c, p, i, j⟩ := x
  simp only [roOk, Bool.and_eq_true, decide_eq_true_eq] at hx
  obtain ⟨hw, h1, h2, h3, h4, h5⟩ := hx
  obtain ⟨p, rfl⟩ := Int.eq_ofNat_of_zero_le (show 0 ≤ p by omega)
  obtain ⟨i, rfl⟩ := Int.eq_ofNat_of_zero_le (show 0 ≤ i by omega)
  obtain ⟨j, rfl⟩ := Int.eq_ofNat_of_zero_le (show 0 ≤ j by omega)
  have hl := un_len m c
  have e := cols_un hw
  have k := whole4 (l := c.un m) (a := p - i) (p := p) (b := p + j) (by omega) (by omega) (by omega)
  have lx : (part (c.un m) (p - i) p).length = i := by rw [part_len _ (by omega)]; omega
  have ly : (part (c.un m) p (p + j)).length = j := by rw [part_len _ (by omega)]; omega
  have key := ro_loop (ra := ra) (base := base) hE h5 (P0 := (c.un m).take (p - i)) (X0 := part (c.un m) (p - i) p) (Y0 := part (c.un m) p (p + j)) (Q0 := (c.un m).drop (p + j)) (p := p) (by rw [List.length_take, lx]; omega) (by omega) (by omega) (by rw [← k]; exact hl)
  rw [← k, e, lx, ly] at key
  refine key.mono ?_
  rintro y ⟨r, l, rfl, g1, g2, g3, g4, g5⟩
  refine ⟨⟨(r : Int), cols l⟩, ⟨r, l, rfl, rfl, g1, g2, by show (r : Int) ≤ (p : Int); omega, by show (p : Int) + r ≤ (m : Int); omega, ?_⟩, rfl⟩
  show swO l ((p : Int) - r).toNat (p : Int).toNat r = rotO (c.un m) ((p : Int) - i).toNat (p : Int).toNat ((p : Int) + j).toNat
  rw [show ((p : Int) - r).toNat = p - r by omega, show ((p : Int) - i).toNat = p - i by omega, show ((p : Int) + j).toNat = p + j by omega, Int.toNat_natCast, g5]
  rfl
theorem TR_ok (hE : Plain E) : ToldsOK Try.prog E ra base 1 TR := sumT_ok noT_ok rfl (toldR_ok (c := .loop (codeOf 68 (false :: qR0))) (by kernel_rfl) (roL_ok hE))
end
end Go.Proofs.Ytgkejpfahpbnkaa

namespace Go.Proofs.Ytgkejpfahpbnkaa
open Ab
def Inv (P : Int → Bool) (i0 j0 i j : Int) : Prop := i0 ≤ i ∧ i ≤ j ∧ j ≤ j0 ∧ (∀ t, i0 ≤ t → t < i → P t = false) ∧ ∀ t, j ≤ t → t < j0 → P t = true
theorem inv_start {P : Int → Bool} {i j : Int} (h : i ≤ j) : Inv P i j i j := ⟨Int.le_refl _, h, Int.le_refl _, fun t h1 h2 => by omega, fun t h1 h2 => by omega⟩
theorem inv_yes {P : Int → Bool} {i0 j0 i j d : Int} (hm : Mono P i0 j0) (h : Inv P i0 j0 i j) (h1 : i ≤ d) (h2 : d < j) (hp : P d = true) : Inv P i0 j0 i d := by
  obtain ⟨a, b, c, e, f⟩ := h
  exact ⟨a, h1, by omega, e, fun t g1 g2 => hm d t (by omega) g1 g2 hp⟩
theorem inv_no {P : Int → Bool} {i0 j0 i j d : Int} (hm : Mono P i0 j0) (h : Inv P i0 j0 i j) (h1 : i ≤ d) (h2 : d < j) (hp : P d = false) : Inv P i0 j0 (d + 1) j := by
  obtain ⟨a, b, c, e, f⟩ := h
  refine ⟨by omega, by omega, c, fun t g1 g2 => ?_, f⟩
  cases hq : P t
  · rfl
  · exact absurd (hm t d g1 (by omega) (by omega) hq) (by rw [hp]; exact Bool.false_ne_true)
theorem inv_end {P : Int → Bool} {i0 j0 i j : Int} (h : Inv P i0 j0 i j) (he : ¬ i < j) : Fst P i0 j0 i := by
  obtain ⟨a, b, c, e, f⟩ := h
  have : i = j := by omega
  subst this
  exact ⟨a, c, e, f⟩
theorem md_eq {i j : Int} (h1 : 0 ≤ i) (h2 : i ≤ j) (h3 : j ≤ 4398046511104) : md i j = (i + j) / 2 := by
  rw [md, wr_in (v := i + j) ⟨by omega, by omega⟩]
  have : wr .u64 (i + j) = i + j := wr_u64 (by omega)
  rw [this, Int.fdiv_eq_ediv_of_nonneg _ (by omega), wr_in ⟨by omega, by omega⟩]
theorem wr_i1 {d : Int} (h1 : 0 ≤ d) (h2 : d ≤ 4398046511104) : wr .i64 (d + 1) = d + 1 := wr_in ⟨by omega, by omega⟩
section
variable {E : Nat → Nat → Seg} {ra : Nat → Nat → Nat × Nat} {base : Nat}
theorem fr_tree (E : Nat → Nat → Seg) (x : Mx) : (callT Try.prog E (W E SW noL) TR 1 68 (rotD.args x) ⟨hp 0 (rotD.blks x), 1, [], []⟩).take 1 (.c (.n (.n (.a (.i (.n (.n (.n (.leaf [0] 0))))))))) =
  .need (eT 58 (roT x.m x.p (wr .i64 (x.p - x.a)) [(11, .int .i64 (wr .i64 (x.b - x.p)))]) [x.c.blkN x.m] (roT x.m x.p (wr .i64 (x.p - x.a)) [(11, .int .i64 (wr .i64 (x.b - x.p)))]) [x.c.blkN x.m])
    (.need (roOk ⟨x.m, x.c, x.p, wr .i64 (x.p - x.a), wr .i64 (x.b - x.p)⟩) (.all Oy fun y => .imp (roP ⟨x.m, x.c, x.p, wr .i64 (x.p - x.a), wr .i64 (x.b - x.p)⟩ y)
      (.need (eB [y.c.blkN x.m]) (.need (eV (swD.args ⟨x.m, y.c, wr .i64 (x.p - y.i), x.p, y.i⟩)) (.need (swOk ⟨x.m, y.c, wr .i64 (x.p - y.i), x.p, y.i⟩) (.leaf (.ret, mkT 1 [], hp 0 [(Sx.out ⟨x.m, y.c, wr .i64 (x.p - y.i), x.p, y.i⟩).blkN x.m]))))))) := by kernel_rfl
theorem rot_gives (hE : Plain E) (x : Mx) (hx : rotOk x = true) : Gives Try.prog E ra base 1 68 (rotD.args x) (hp 0 (rotD.blks x)) fun v h' => v = rotD.out x ∧ h' = hp 0 (rotD.blks' x) := by
  refine gives_of_treeQ hE (W_ok (SW_ok hE) noL_ok) (TR_ok hE) (hp_below [_]) (fr_tree E x) ?_
  obtain ⟨m, c, a, p, b⟩ := x
  simp only [rotOk, Bool.and_eq_true, decide_eq_true_eq] at hx
  obtain ⟨hw, h1, h2, h3, h4, h5⟩ := hx
  have h5' := h5
  unfold big at h5'
  obtain ⟨a, rfl⟩ := Int.eq_ofNat_of_zero_le h1
  obtain ⟨p, rfl⟩ := Int.eq_ofNat_of_zero_le (show 0 ≤ p by omega)
  obtain ⟨b, rfl⟩ := Int.eq_ofNat_of_zero_le (show 0 ≤ b by omega)
  simp only [wr_sub (a := p) (b := a) (by omega) (by omega), wr_sub (a := b) (b := p) (by omega) (by omega)]
  refine ⟨eT_self rfl rfl (ok_blk _ _), ?_, ?_⟩
  · simp only [roOk, Bool.and_eq_true, decide_eq_true_eq]
    exact ⟨hw, by omega, by omega, by omega, by omega, h5⟩
  · rintro ⟨i, c'⟩ ⟨i, l, rfl, rfl, g1, g2, g3, g4, g5⟩
    simp only at g1 g3 g4 g5
    rw [wr_sub (a := p) (b := i) (by omega) (by omega)]
    refine ⟨eB_eq (ok_blk _ _), eV_eq _, ?_, _, rfl, rfl, ?_⟩
    · simp only [swOk, Bool.and_eq_true, decide_eq_true_eq]
      exact ⟨by rw [← g1]; exact cols_wf _, by omega, by omega, by omega, by omega, h5⟩
    · have un : (cols l).un m = l := by rw [← g1]; exact un_cols _
      simp only [Sx.out, un, Int.toNat_natCast, rotD, Mx.rot, Mx.l]
      rw [show ((p : Int) - i).toNat = p - i by omega, show ((p : Int) - ((p - a : Nat) : Int)).toNat = a by omega, show ((p : Int) + ((b - p : Nat) : Int)).toNat = b by omega, Int.toNat_natCast] at g5
      rw [g5]
theorem at_un {m : Nat} {c : C6} (hw : c.wf m = true) {i : Int} : c.at (ix i) = gt (c.un m) i := by
  have h := at_cols (c.un m) (ix i)
  rw [cols_un hw] at h
  rw [h, gt, ix, Nat.zero_add]
theorem s0_ok (hE : Plain E) (x : Bx) (hx : s0Ok x = true) : Takes Try.prog E ra base 1 (.loop (codeOf 67 (false :: q0))) (mkT 220 (s0L.ins x)) (hp 0 (s0L.blks x)) fun y => PostL 220 x y s0L.alts := by
  obtain ⟨m, c, a, i0, j0⟩ := x
  have hx := @of_decide_eq_true _ (_) hx
  obtain ⟨hw, a1, a2, h1, h2, h3, h5, hM⟩ := hx
  unfold big at h5
  simp only at hw a1 a2 h1 h2 h3 h5 hM
  refine takes_loop (fun n ts hh => ∃ i j : Int, (j - i).toNat + 1 ≤ n ∧ Inv (P0 ⟨m, c, a, i0, j0⟩) i0 j0 i j ∧ ts = mkT 220 [(0, sl m), (1, .int .i64 a), (4, .fn 46 []), (10, .int .i64 i), (11, .int .i64 j)] ∧ hh = hp 0 [c.blkN m]) ?_ ?_ (j := (j0 - i0).toNat + 1) ⟨i0, j0, Nat.le_refl _, inv_start h2, rfl, rfl⟩
  · rintro ts hh ⟨i, j, h, _⟩; omega
  · rintro n ts hh ⟨i, j, hn, hI, rfl, rfl⟩
    have k1 := hI.1; have k2 := hI.2.1; have k3 := hI.2.2.1
    refine takes_of_tree hE (W_ok (SO_ok hE) noL_ok) (.inr (by kernel_rfl)) (hp_below _) (s0_tree E m c a i j) ?_
    rw [md_eq (by omega) k2 (by omega), at_un hw, at_un hw, wr_i1 (by omega) (by omega)]
    refine br_by (fun h => nI_holds ⟨by omega, by omega⟩ (nI_holds ⟨by omega, by omega⟩ ⟨eV_eq _, br_by (fun hc => ?_) fun hc => ?_⟩)) fun h => ?_
    · refine ⟨(i + j) / 2 + 1, j, by omega, inv_no hM hI (by omega) (by omega) ?_, rfl, rfl⟩
      have hd := decide_eq_true hc; show (!decide (ordI (gt (C6.un m c) ((i + j) / 2)) (gt (C6.un m c) a) < 0)) = false; rw [hd]; rfl
    · refine ⟨i, (i + j) / 2, by omega, inv_yes hM hI (by omega) (by omega) ?_, rfl, rfl⟩
      have hd := decide_eq_false hc; show (!decide (ordI (gt (C6.un m c) ((i + j) / 2)) (gt (C6.un m c) a) < 0)) = true; rw [hd]; rfl
    · exact ⟨i, inv_end hI h, rfl⟩
theorem s4_ok (hE : Plain E) (x : Bx) (hx : s4Ok x = true) : Takes Try.prog E ra base 1 (.loop (codeOf 67 (false :: q4))) (mkT 220 (s4L.ins x)) (hp 0 (s4L.blks x)) fun y => PostL 220 x y s4L.alts := by
  obtain ⟨m, c, a, i0, j0⟩ := x
  have hx := @of_decide_eq_true _ (_) hx
  obtain ⟨hw, a1, a2, h1, h2, h3, h5, hM⟩ := hx
  unfold big at h5
  simp only at hw a1 a2 h1 h2 h3 h5 hM
  refine takes_loop (fun n ts hh => ∃ i j : Int, (j - i).toNat + 1 ≤ n ∧ Inv (P4 ⟨m, c, a, i0, j0⟩) i0 j0 i j ∧ ts = mkT 220 [(0, sl m), (2, .int .i64 a), (4, .fn 46 []), (14, .int .i64 i), (15, .int .i64 j)] ∧ hh = hp 0 [c.blkN m]) ?_ ?_ (j := (j0 - i0).toNat + 1) ⟨i0, j0, Nat.le_refl _, inv_start h2, rfl, rfl⟩
  · rintro ts hh ⟨i, j, h, _⟩; omega
  · rintro n ts hh ⟨i, j, hn, hI, rfl, rfl⟩
    have k1 := hI.1; have k2 := hI.2.1; have k3 := hI.2.2.1
    refine takes_of_tree hE (W_ok (SO_ok hE) noL_ok) (.inr (by kernel_rfl)) (hp_below _) (s4_tree E m c a i j) ?_
    rw [md_eq (by omega) k2 (by omega), at_un hw, at_un hw, wr_i1 (by omega) (by omega)]
    refine br_by (fun h => nI_holds ⟨by omega, by omega⟩ (nI_holds ⟨by omega, by omega⟩ ⟨eV_eq _, br_by' (fun hc => ?_) fun hc => ?_⟩)) fun h => ?_
    · refine ⟨(i + j) / 2 + 1, j, by omega, inv_no hM hI (by omega) (by omega) ?_, rfl, rfl⟩
      exact decide_eq_false hc
    · refine ⟨i, (i + j) / 2, by omega, inv_yes hM hI (by omega) (by omega) ?_, rfl, rfl⟩
      exact decide_eq_true hc
    · exact ⟨i, inv_end hI h, rfl⟩
theorem s8_ok (hE : Plain E) (x : Cx) (hx : s8Ok x = true) : Takes Try.prog E ra base 1 (.loop (codeOf 67 (false :: q8))) (mkT 220 (s8L.ins x)) (hp 0 (s8L.blks x)) fun y => PostL 220 x y s8L.alts := by
  obtain ⟨m, c, a, p, b, d, n', i0, j0, q⟩ := x
  have hx := @of_decide_eq_true _ (_) hx
  obtain ⟨hw, h1, h2, h3, h4, h6, h5, hM⟩ := hx
  unfold big at h5 h6
  simp only at hw h1 h2 h3 h4 h5 h6 hM
  refine takes_loop (fun n ts hh => ∃ i j : Int, (j - i).toNat + 1 ≤ n ∧ Inv (P8 ⟨m, c, a, p, b, d, n', i0, j0, q⟩) i0 j0 i j ∧ ts = mkT 220 (s8T m a p b d n' i [(21, .int .i64 j), (22, .int .i64 q)]) ∧ hh = hp 0 [c.blkN m]) ?_ ?_ (j := (j0 - i0).toNat + 1) ⟨i0, j0, Nat.le_refl _, inv_start h2, rfl, rfl⟩
  · rintro ts hh ⟨i, j, h, _⟩; omega
  · rintro n ts hh ⟨i, j, hn, hI, rfl, rfl⟩
    have k1 := hI.1; have k2 := hI.2.1; have k3 := hI.2.2.1
    refine takes_of_tree hE (W_ok (SO_ok hE) noL_ok) (.inr (by kernel_rfl)) (hp_below _) (s8_tree E m c a p b d n' i j q) ?_
    refine br_by (fun h => ?_) fun h => ?_
    · have h4 := h4 (by omega)
      have wq : wr .i64 (q - (i + j) / 2) = q - (i + j) / 2 := wr_in ⟨by omega, by omega⟩
      rw [md_eq (by omega) k2 (by omega), wq, at_un hw, at_un hw, wr_i1 (by omega) (by omega)]
      clear wq
      refine nI_holds ⟨by omega, by omega⟩ (nI_holds ⟨by omega, by omega⟩ ⟨eV_eq _, br_by' (fun hc => ?_) fun hc => ?_⟩)
      · refine ⟨(i + j) / 2 + 1, j, by omega, inv_no hM hI (by omega) (by omega) ?_, rfl, rfl⟩
        exact decide_eq_false hc
      · refine ⟨i, (i + j) / 2, by omega, inv_yes hM hI (by omega) (by omega) ?_, rfl, rfl⟩
        exact decide_eq_true hc
    · exact ⟨i, inv_end hI h, rfl⟩
end
end Go.Proofs.Ytgkejpfahpbnkaa

namespace Go.Proofs.Ytgkejpfahpbnkaa
open Ab
section
variable {E : Nat → Nat → Seg} {ra : Nat → Nat → Nat × Nat} {base : Nat}
theorem s2_loop (hE : Plain E) {m : Nat} (hm : m ≤ big) {A Y R : List Rc} {x : Rc} {a i : Nat} (ha : a = A.length) (hi : i = a + 1 + Y.length) (hl : (A ++ (x :: Y ++ R)).length = m) :
    Takes Try.prog E ra base 1 (.loop (codeOf 67 (false :: q2))) (mkT 220 [(0, sl m), (10, .int .i64 i), (13, .int .i64 a)]) (hp 0 [(cols (A ++ (x :: Y ++ R))).blkN m]) fun y => y = (.exit 2, mkT 220 [], hp 0 [(cols (A ++ (Y ++ x :: R))).blkN m]) := by
  simp only [List.length_append, List.length_cons] at hl
  unfold big at hm
  refine takes_loop (fun n ts hh => ∃ Y1 Y2, Y = Y1 ++ Y2 ∧ Y2.length + 1 ≤ n ∧ ts = mkT 220 [(0, sl m), (10, .int .i64 i), (13, .int .i64 ((a + Y1.length : Nat) : Int))] ∧ hh = hp 0 [(cols (A ++ (Y1 ++ x :: (Y2 ++ R)))).blkN m]) ?_ ?_ (j := Y.length + 1) ⟨[], Y, rfl, Nat.le_refl _, rfl, rfl⟩
  · rintro ts hh ⟨Y1, Y2, _, h, _⟩; omega
  · rintro n ts hh ⟨Y1, Y2, hs, hn, rfl, rfl⟩
    refine takes_of_tree hE (W_ok sumNone_ok noL_ok) (.inr (by kernel_rfl)) (hp_below _) (s2_tree E m _ i ((a + Y1.length : Nat) : Int)) ?_
    have ls : Y.length = Y1.length + Y2.length := by rw [hs, List.length_append]
    rw [wr_sub1 (a := i) (by omega) (by omega), wr_one (a := a + Y1.length) (by omega)]
    refine br_by (fun h => ?_) fun h => ?_
    · cases Y2 with
      | nil => simp at ls; omega
      | cons y T =>
        rw [List.length_cons] at ls hn
        refine nI_holds ⟨by omega, by omega⟩ (nI_holds ⟨by omega, by omega⟩ (nI_holds ⟨by omega, by omega⟩ (nI_holds ⟨by omega, by omega⟩ ⟨Y1 ++ [y], T, by rw [hs]; simp, by omega, ?_, ?_⟩)))
        · rw [List.length_append, List.length_singleton, ← Nat.add_assoc]
        · rw [swp_cols, show A ++ (Y1 ++ x :: (y :: T ++ R)) = (A ++ Y1) ++ x :: ([] ++ y :: (T ++ R)) by simp, swp_two (by simp only [ix, Int.toNat_natCast, List.length_append]; omega) (by simp only [ix, Int.toNat_natCast, List.length_append, List.length_nil]; omega)]
          simp
    · cases Y2 with
      | nil =>
        show _ = _
        rw [hs]; simp
      | cons y T => rw [List.length_cons] at ls; omega
theorem s6_loop (hE : Plain E) {m : Nat} (hm : m ≤ big) {A Y R : List Rc} {x : Rc} {i p : Nat} (ha : i = A.length) (hp' : p = i + Y.length) (hl : (A ++ (Y ++ x :: R)).length = m) :
    Takes Try.prog E ra base 1 (.loop (codeOf 67 (false :: q6))) (mkT 220 [(0, sl m), (14, .int .i64 i), (17, .int .i64 p)]) (hp 0 [(cols (A ++ (Y ++ x :: R))).blkN m]) fun y => y = (.exit 6, mkT 220 [], hp 0 [(cols (A ++ (x :: Y ++ R))).blkN m]) := by
  simp only [List.length_append, List.length_cons] at hl
  unfold big at hm
  refine takes_loop (fun n ts hh => ∃ Y1 Y2, Y = Y1 ++ Y2 ∧ Y1.length + 1 ≤ n ∧ ts = mkT 220 [(0, sl m), (14, .int .i64 i), (17, .int .i64 ((i + Y1.length : Nat) : Int))] ∧ hh = hp 0 [(cols (A ++ (Y1 ++ x :: (Y2 ++ R)))).blkN m]) ?_ ?_ (j := Y.length + 1) ⟨Y, [], by simp, Nat.le_refl _, by rw [hp'], by simp⟩
  · rintro ts hh ⟨Y1, Y2, _, h, _⟩; omega
  · rintro n ts hh ⟨Y1, Y2, hs, hn, rfl, rfl⟩
    refine takes_of_tree hE (W_ok sumNone_ok noL_ok) (.inr (by kernel_rfl)) (hp_below _) (s6_tree E m _ i ((i + Y1.length : Nat) : Int)) ?_
    have ls : Y.length = Y1.length + Y2.length := by rw [hs, List.length_append]
    refine br_by (fun h => ?_) fun h => ?_
    · obtain ⟨T, y, rfl⟩ : ∃ T y, Y1 = T ++ [y] := by
        rcases List.eq_nil_or_concat Y1 with e | ⟨T, y, e⟩
        · subst e; simp at h
        · exact ⟨T, y, by simpa using e⟩
      have lt1 : (T ++ [y]).length = T.length + 1 := by simp
      rw [lt1] at hn ls h
      rw [lt1, wr_sub1 (a := i + (T.length + 1)) (by omega) (by omega)]
      refine nI_holds ⟨by omega, by omega⟩ (nI_holds ⟨by omega, by omega⟩ (nI_holds ⟨by omega, by omega⟩ (nI_holds ⟨by omega, by omega⟩ ⟨T, y :: Y2, by rw [hs]; simp, by omega, rfl, ?_⟩)))
      rw [swp_cols, show A ++ ((T ++ [y]) ++ x :: (Y2 ++ R)) = (A ++ T) ++ y :: ([] ++ x :: (Y2 ++ R)) by simp, swp_two' (by simp only [ix, Int.toNat_natCast, List.length_append]; omega) (by simp only [ix, Int.toNat_natCast, List.length_append, List.length_nil]; omega)]
      simp
    · have e : Y1 = [] := List.length_eq_zero_iff.1 (by omega)
      subst e
      show _ = _
      rw [hs]; simp
theorem s2_ok (hE : Plain E) (x : Gx) (hx : s2Ok x = true) : Takes Try.prog E ra base 1 (.loop (codeOf 67 (false :: q2))) (mkT 220 (s2L.ins x)) (hp 0 (s2L.blks x)) fun y => PostL 220 x y s2L.alts := by
  obtain ⟨m, c, i, k⟩ := x
  simp only [s2Ok, Bool.and_eq_true, decide_eq_true_eq] at hx
  obtain ⟨hw, h1, h2, h3, h5⟩ := hx
  obtain ⟨k, rfl⟩ := Int.eq_ofNat_of_zero_le h1
  obtain ⟨i, rfl⟩ := Int.eq_ofNat_of_zero_le (show 0 ≤ i by omega)
  have hl := un_len m c
  have e := cols_un hw
  have kk : c.un m = (c.un m).take k ++ ((c.un m).getD k z6 :: part (c.un m) (k + 1) i ++ (c.un m).drop i) := by
    have : part (c.un m) (k + 1) i ++ (c.un m).drop i = (c.un m).drop (k + 1) := by rw [drop_part, drop_part, ← part_cut _ (by omega) (by omega)]
    rw [List.cons_append, this, ← drop_at (by omega), List.take_append_drop]
  have key := s2_loop (ra := ra) (base := base) hE h5 (A := (c.un m).take k) (x := (c.un m).getD k z6) (Y := part (c.un m) (k + 1) i) (R := (c.un m).drop i) (a := k) (i := i) (by rw [List.length_take]; omega) (by rw [part_len _ (by omega)]; omega) (by rw [← kk]; exact hl)
  rw [← kk, e] at key
  exact key.mono fun y hy => ⟨(), trivial, hy⟩
theorem s6_ok (hE : Plain E) (x : Gx) (hx : s6Ok x = true) : Takes Try.prog E ra base 1 (.loop (codeOf 67 (false :: q6))) (mkT 220 (s6L.ins x)) (hp 0 (s6L.blks x)) fun y => PostL 220 x y s6L.alts := by
  obtain ⟨m, c, i, k⟩ := x
  simp only [s6Ok, Bool.and_eq_true, decide_eq_true_eq] at hx
  obtain ⟨hw, h1, h2, h3, h5⟩ := hx
  obtain ⟨i, rfl⟩ := Int.eq_ofNat_of_zero_le h1
  obtain ⟨k, rfl⟩ := Int.eq_ofNat_of_zero_le (show 0 ≤ k by omega)
  have hl := un_len m c
  have e := cols_un hw
  have kk : c.un m = (c.un m).take i ++ (part (c.un m) i k ++ (c.un m).getD k z6 :: (c.un m).drop (k + 1)) := by
    rw [← drop_at (by omega)]; exact whole3 (by omega) (by omega)
  have key := s6_loop (ra := ra) (base := base) hE h5 (A := (c.un m).take i) (x := (c.un m).getD k z6) (Y := part (c.un m) i k) (R := (c.un m).drop (k + 1)) (i := i) (p := k) (by rw [List.length_take]; omega) (by rw [part_len _ (by omega)]; omega) (by rw [← kk]; exact hl)
  rw [← kk, e] at key
  exact key.mono fun y hy => ⟨(), trivial, hy⟩
end
end Go.Proofs.Ytgkejpfahpbnkaa

namespace Go.Proofs.Ytgkejpfahpbnkaa
open Ab
open Classical
structure Tx where
  m : Nat
  c : C6
  a : Int
  p : Int
  b : Int
  d : Int
  s : Int
  e : Int
def Tx.l (x : Tx) : List Rc := x.c.un x.m
def qR : List Bool := [false, true, true, true, true, true, true, true, true, true]
def qM1 : List Bool := [false, true, true, true, true, true, true, true, true, true, true]
def qM2 : List Bool := [true, true, true, true, true, true, true, true, true, true, true]
def rT (x : Tx) (r : List (Nat × AVal)) : List (Nat × AVal) := [(0, sl x.m), (1, .int .i64 x.a)] ++ (r ++ [(3, .int .i64 x.b), (4, .fn 46 []), (18, .int .i64 x.d), (20, .int .i64 x.s), (24, .int .i64 x.e)])
def rOk (x : Tx) : Bool := x.c.wf x.m && (decide (0 ≤ x.s) && (decide (x.s ≤ x.p) && (decide (x.p ≤ x.e) && (decide (x.e ≤ x.m) && decide (x.m ≤ big)))))
def rL : RDeal Tx where
  ins x := rT x [(2, .int .i64 x.p)]
  blks x := [x.c.blkN x.m]
  pre := rOk
  alts := [⟨Unit, .normal, fun _ _ => True, fun x _ => rT x [], fun x _ => [(cols (rotO x.l x.s.toNat x.p.toNat x.e.toNat)).blkN x.m]⟩]
def txO (us : List AVal) (Bs : List Blk) : Option Tx := match us, Bs with
  | [.slice _ m _, .int _ a, .int _ p, .int _ b, _, .int _ d, .int _ s, .int _ e], [B] => match c6O B with
    | some c => some ⟨m, c, a, p, b, d, s, e⟩
    | none => none
  | _, _ => none
noncomputable def m1Ok (N : Nat) (x : Tx) : Bool := decide (x.c.wf x.m = true ∧ 0 ≤ x.a ∧ x.a ≤ x.s ∧ x.s ≤ x.d ∧ x.d ≤ x.m ∧ x.m ≤ big ∧ Sd (part x.l x.a.toNat x.s.toNat) ∧ Sd (part x.l x.s.toNat x.d.toNat) ∧ x.d - x.a ≤ N)
def m1T (x : Tx) (r : List (Nat × AVal)) : List (Nat × AVal) := (0, sl x.m) :: (r ++ [(3, .int .i64 x.b), (4, .fn 46 []), (18, .int .i64 x.d), (24, .int .i64 x.e)])
noncomputable def m1L (N : Nat) : RDeal Tx where
  ins x := rT x []
  blks x := [x.c.blkN x.m]
  pre := m1Ok N
  alts := [⟨Unit, .normal, fun _ _ => True, fun x _ => m1T x [], fun x _ => [(cols (mrgO x.l x.a.toNat x.s.toNat x.d.toNat)).blkN x.m]⟩]
def m1O (us : List AVal) (Bs : List Blk) : Option Tx := match us, Bs with
  | [.slice _ m _, .int _ a, .int _ b, _, .int _ d, .int _ s, .int _ e], [B] => match c6O B with
    | some c => some ⟨m, c, a, 0, b, d, s, e⟩
    | none => none
  | _, _ => none
noncomputable def m2Ok (N : Nat) (x : Tx) : Bool := decide (x.c.wf x.m = true ∧ 0 ≤ x.d ∧ x.d ≤ x.e ∧ x.e ≤ x.b ∧ x.b ≤ x.m ∧ x.m ≤ big ∧ Sd (part x.l x.d.toNat x.e.toNat) ∧ Sd (part x.l x.e.toNat x.b.toNat) ∧ x.b - x.d ≤ N)
noncomputable def m2L (N : Nat) : RDeal Tx where
  ins x := m1T x []
  blks x := [x.c.blkN x.m]
  pre := m2Ok N
  alts := [⟨Unit, .normal, fun _ _ => True, fun _ _ => [], fun x _ => [(cols (mrgO x.l x.d.toNat x.e.toNat x.b.toNat)).blkN x.m]⟩]
def m2O (us : List AVal) (Bs : List Blk) : Option Tx := match us, Bs with
  | [.slice _ m _, .int _ b, _, .int _ d, .int _ e], [B] => match c6O B with
    | some c => some ⟨m, c, 0, 0, b, d, 0, e⟩
    | none => none
  | _, _ => none
noncomputable def TF (N : Nat) : Tolds := sumT 67 qR (toldR 220 rL [0, 1, 2, 3, 4, 18, 20, 24] txO) (sumT 67 qM1 (toldR 220 (m1L N) [0, 1, 3, 4, 18, 20, 24] m1O) (sumT 67 qM2 (toldR 220 (m2L N) [0, 3, 4, 18, 24] m2O) TM))
end Go.Proofs.Ytgkejpfahpbnkaa

namespace Go.Proofs.Ytgkejpfahpbnkaa
open Ab
def lfT (m : Nat) (ts : List (Nat × AVal)) (c : C6) : Tree State := .leaf (.normal, mkT 220 ts, hp 0 [c.blkN m])
theorem rr_tree (E : Nat → Nat → Seg) (N : Nat) (x : Tx) : ((W E (SM N) noL 67 qR false (codeOf 67 qR) (mkT 220 (rL.ins x))).full ⟨hp 0 (rL.blks x), 1, [], []⟩ leafS).take 1 (.x (.c (.c (.x (.n (.n (.n (.leaf [0] 18087963)))) (.leaf [0] 18087963)))) (cs 4 (.leaf [0] 18087963))) =
  .br (decide (x.s < x.p)) (.br (decide (x.p < x.e)) (.need (eB [x.c.blkN x.m]) (.need (eV (rotD.args ⟨x.m, x.c, x.s, x.p, x.e⟩)) (.need (rotOk ⟨x.m, x.c, x.s, x.p, x.e⟩) (lfT x.m (rT x []) (Mx.rot ⟨x.m, x.c, x.s, x.p, x.e⟩))))) (lfT x.m (rT x []) x.c)) (lfT x.m (rT x []) x.c) := by kernel_rfl
theorem rm1_tree (E : Nat → Nat → Seg) (N : Nat) (x : Tx) : ((W E (SM N) noL 67 qM1 false (codeOf 67 qM1) (mkT 220 ((m1L N).ins x))).full ⟨hp 0 ((m1L N).blks x), 1, [], []⟩ leafS).take 1 (.x (.c (.c (.x (.n (.n (.n (.leaf [0] 17039385)))) (.leaf [0] 17039385)))) (cs 4 (.leaf [0] 17039385))) =
  .br (decide (x.a < x.s)) (.br (decide (x.s < x.d)) (.need (eB [x.c.blkN x.m]) (.need (eV (rotD.args ⟨x.m, x.c, x.a, x.s, x.d⟩)) (.need (mrgOk N ⟨x.m, x.c, x.a, x.s, x.d⟩) (lfT x.m (m1T x []) (Mx.mrg ⟨x.m, x.c, x.a, x.s, x.d⟩))))) (lfT x.m (m1T x []) x.c)) (lfT x.m (m1T x []) x.c) := by kernel_rfl
theorem rm2_tree (E : Nat → Nat → Seg) (N : Nat) (x : Tx) : ((W E (SM N) noL 67 qM2 false (codeOf 67 qM2) (mkT 220 ((m2L N).ins x))).full ⟨hp 0 ((m2L N).blks x), 1, [], []⟩ leafS).take 1 (.x (.c (.c (.x (.n (.n (.n (.leaf [0] 0)))) (.leaf [0] 0)))) (cs 4 (.leaf [0] 0))) =
  .br (decide (x.d < x.e)) (.br (decide (x.e < x.b)) (.need (eB [x.c.blkN x.m]) (.need (eV (rotD.args ⟨x.m, x.c, x.d, x.e, x.b⟩)) (.need (mrgOk N ⟨x.m, x.c, x.d, x.e, x.b⟩) (lfT x.m [] (Mx.mrg ⟨x.m, x.c, x.d, x.e, x.b⟩))))) (lfT x.m [] x.c)) (lfT x.m [] x.c) := by kernel_rfl
def eS (ts : List (Nat × AVal)) (m : Nat) (c : C6) : Bool := eT 220 ts [c.blkN m] ts [c.blkN m]
noncomputable def mT (N : Nat) (x : Mx) (d n q lo hi : Int) : TreeQ State :=
  .need (eS (s8T x.m x.a x.p x.b d n lo [(21, .int .i64 hi), (22, .int .i64 q)]) x.m x.c) (.need (s8Ok ⟨x.m, x.c, x.a, x.p, x.b, d, n, lo, hi, q⟩) (.all Int fun y => .imp (Fst (P8 ⟨x.m, x.c, x.a, x.p, x.b, d, n, lo, hi, q⟩) lo hi y) (
    .need (eS (rT ⟨x.m, x.c, x.a, x.p, x.b, d, y, wr .i64 (n - y)⟩ [(2, .int .i64 x.p)]) x.m x.c) (.need (rOk ⟨x.m, x.c, x.a, x.p, x.b, d, y, wr .i64 (n - y)⟩) (.all Unit fun _ => .imp True (
    .need (eS (rT ⟨x.m, x.c, x.a, x.p, x.b, d, y, wr .i64 (n - y)⟩ []) x.m (cols (rotO x.l y.toNat x.p.toNat (wr .i64 (n - y)).toNat))) (.need (m1Ok N ⟨x.m, cols (rotO x.l y.toNat x.p.toNat (wr .i64 (n - y)).toNat), x.a, 0, x.b, d, y, wr .i64 (n - y)⟩) (.all Unit fun _ => .imp True (
    .need (eS (m1T ⟨x.m, x.c, 0, 0, x.b, d, 0, wr .i64 (n - y)⟩ []) x.m (cols (mrgO ((cols (rotO x.l y.toNat x.p.toNat (wr .i64 (n - y)).toNat)).un x.m) x.a.toNat y.toNat d.toNat))) (.need (m2Ok N ⟨x.m, cols (mrgO ((cols (rotO x.l y.toNat x.p.toNat (wr .i64 (n - y)).toNat)).un x.m) x.a.toNat y.toNat d.toNat), 0, 0, x.b, d, 0, wr .i64 (n - y)⟩) (.all Unit fun _ => .imp True (
    .leaf (.ret, mkT 1 [], hp 0 [(cols (mrgO ((cols (mrgO ((cols (rotO x.l y.toNat x.p.toNat (wr .i64 (n - y)).toNat)).un x.m) x.a.toNat y.toNat d.toNat)).un x.m) d.toNat (wr .i64 (n - y)).toNat x.b.toNat)).blkN x.m])))))))))))))
theorem fm_tree (E : Nat → Nat → Seg) (N : Nat) (x : Mx) : (callT Try.prog E (W E (SM N) noL) (TF N) 1 67 ((mrgD N).args x) ⟨hp 0 ((mrgD N).blks x), 1, [], []⟩).take 1 (.x (.c (.n (.n (.a (.i (.c (.n (.n (.a (.i (.leaf [0] 0))))))))))) (.x (.c (.n (.n (.a (.i (.c (.n (.n (.a (.i (.leaf [0] 0))))))))))) (.c (.x (.c (.n (.n (.a (.i (.c (.n (.n (.a (.i (.c (.n (.n (.a (.i (.c (.n (.n (.a (.i (.leaf [0] 0))))))))))))))))))))) (.c (.n (.n (.a (.i (.c (.n (.n (.a (.i (.c (.n (.n (.a (.i (.c (.n (.n (.a (.i (.leaf [0] 0))))))))))))))))))))))))) =
  .br (decide (wr .i64 (x.p - x.a) = 1))
    (.need (eS [(0, sl x.m), (1, .int .i64 x.a), (4, .fn 46 []), (10, .int .i64 x.p), (11, .int .i64 x.b)] x.m x.c) (.need (s0Ok ⟨x.m, x.c, x.a, x.p, x.b⟩) (.all Int fun y => .imp (Fst (P0 ⟨x.m, x.c, x.a, x.p, x.b⟩) x.p x.b y)
      (.need (eS [(0, sl x.m), (10, .int .i64 y), (13, .int .i64 x.a)] x.m x.c) (.need (s2Ok ⟨x.m, x.c, y, x.a⟩) (.all Unit fun _ => .imp True (.leaf (.ret, mkT 1 [], hp 0 [(cols (upO x.l x.a.toNat y.toNat)).blkN x.m]))))))))
    (.br (decide (wr .i64 (x.b - x.p) = 1))
      (.need (eS [(0, sl x.m), (2, .int .i64 x.p), (4, .fn 46 []), (14, .int .i64 x.a), (15, .int .i64 x.p)] x.m x.c) (.need (s4Ok ⟨x.m, x.c, x.p, x.a, x.p⟩) (.all Int fun y => .imp (Fst (P4 ⟨x.m, x.c, x.p, x.a, x.p⟩) x.a x.p y)
        (.need (eS [(0, sl x.m), (14, .int .i64 y), (17, .int .i64 x.p)] x.m x.c) (.need (s6Ok ⟨x.m, x.c, y, x.p⟩) (.all Unit fun _ => .imp True (.leaf (.ret, mkT 1 [], hp 0 [(cols (dnO x.l y.toNat x.p.toNat)).blkN x.m]))))))))
      (.br (decide (md x.a x.b < x.p))
        (mT N x (md x.a x.b) (wr .i64 (md x.a x.b + x.p)) (wr .i64 (wr .i64 (md x.a x.b + x.p) - 1)) (wr .i64 (wr .i64 (md x.a x.b + x.p) - x.b)) (md x.a x.b))
        (mT N x (md x.a x.b) (wr .i64 (md x.a x.b + x.p)) (wr .i64 (wr .i64 (md x.a x.b + x.p) - 1)) x.a x.p))) := by kernel_rfl
end Go.Proofs.Ytgkejpfahpbnkaa

namespace Go.Proofs.Ytgkejpfahpbnkaa
open Ab
open Classical
theorem lt_self (x : Rc) : lt x x = false := by
  cases h : lt x x
  · rfl
  · exact (lt_not h).symm.trans h |>.symm ▸ rfl
theorem part_get {l : List Rc} {a b t : Nat} (h1 : a ≤ t) (h2 : t < b) (hb : b ≤ l.length) : (part l a b)[t - a]? = some (l.getD t z6) := by
  rw [part, List.getElem?_take_of_lt (by omega), List.getElem?_drop, show a + (t - a) = t by omega, List.getD_eq_getElem?_getD, List.getElem?_eq_getElem (by omega)]; rfl
theorem mem_part {l : List Rc} {a b : Nat} (hb : b ≤ l.length) {x : Rc} (h : x ∈ part l a b) : ∃ t, a ≤ t ∧ t < b ∧ x = l.getD t z6 := by
  obtain ⟨i, hi, rfl⟩ := List.getElem_of_mem h
  have hl := part_len l (a := a) hb
  have hp := part_get (l := l) (a := a) (b := b) (t := a + i) (by omega) (by omega) hb
  rw [show a + i - a = i by omega, List.getElem?_eq_getElem hi] at hp
  exact ⟨a + i, by omega, by omega, by simpa using hp⟩
theorem sd_get {l : List Rc} {a b t s : Nat} (h : Sd (part l a b)) (hb : b ≤ l.length) (h1 : a ≤ t) (h2 : t ≤ s) (h3 : s < b) : lt (l.getD s z6) (l.getD t z6) = false := by
  rcases Nat.eq_or_lt_of_le h2 with rfl | h2
  · exact lt_self _
  · have e1 := part_get (l := l) (a := a) (b := b) (t := t) h1 (by omega) hb
    have e2 := part_get (l := l) (a := a) (b := b) (t := s) (by omega) h3 hb
    obtain ⟨k1, f1⟩ := List.getElem?_eq_some_iff.1 e1
    obtain ⟨k2, f2⟩ := List.getElem?_eq_some_iff.1 e2
    have := List.pairwise_iff_getElem.1 h (t - a) (s - a) k1 k2 (by omega)
    rw [f1, f2] at this
    exact this
theorem part_nil {l : List Rc} {a b : Nat} (h : b ≤ a) : part l a b = [] := by rw [part, show b - a = 0 by omega, List.take_zero]
theorem mrg_one {x : Rc} {v1 v2 : List Rc} (h1 : ∀ y ∈ v1, lt y x = true) (h2 : ∀ y ∈ v2, lt y x = false) : mrg [x] (v1 ++ v2) = v1 ++ x :: v2 := by
  have e1 := mrg_cut (u1 := []) (u2 := [x]) (v1 := v1) (v2 := v2) (by simp) (fun y hy z hz => by rw [List.mem_singleton] at hz; subst hz; exact h1 y hy)
  have e2 := mrg_cut (u1 := [x]) (u2 := []) (v1 := []) (v2 := v2) (fun z hz y hy => by rw [List.mem_singleton] at hz; subst hz; exact h2 y hy) (by simp)
  simp only [List.nil_append, List.append_nil, mrg_nil, mrg_nil'] at e1 e2
  rw [e1, e2]; rfl
theorem mrg_last {y : Rc} {u1 u2 : List Rc} (h1 : ∀ x ∈ u1, lt y x = false) (h2 : ∀ x ∈ u2, lt y x = true) : mrg (u1 ++ u2) [y] = u1 ++ y :: u2 := by
  have e1 := mrg_cut (u1 := u1) (u2 := u2) (v1 := [y]) (v2 := []) (by simp) (fun z hz x hx => by rw [List.mem_singleton] at hz; subst hz; exact h2 x hx)
  have e2 := mrg_cut (u1 := u1) (u2 := []) (v1 := []) (v2 := [y]) (fun x hx z hz => by rw [List.mem_singleton] at hz; subst hz; exact h1 x hx) (by simp)
  simp only [List.append_nil, List.nil_append, mrg_nil, mrg_nil'] at e1 e2
  rw [e1, e2]; simp
theorem up_mrg {l : List Rc} {a b r : Nat} (h1 : a + 1 ≤ r) (h2 : r ≤ b) (hb : b ≤ l.length) (f1 : ∀ t, a + 1 ≤ t → t < r → lt (l.getD t z6) (l.getD a z6) = true) (f2 : ∀ t, r ≤ t → t < b → lt (l.getD t z6) (l.getD a z6) = false) : upO l a r = mrgO l a (a + 1) b := by
  have e0 : part l a (a + 1) = [l.getD a z6] := by rw [part_snoc (Nat.le_refl a) (by omega), part_nil (Nat.le_refl a)]; rfl
  have e1 := part_cut l h1 h2
  have e2 : mrg [l.getD a z6] (part l (a + 1) r ++ part l r b) = part l (a + 1) r ++ l.getD a z6 :: part l r b := by
    refine mrg_one (fun y hy => ?_) fun y hy => ?_
    · obtain ⟨t, t1, t2, rfl⟩ := mem_part (by omega) hy
      exact f1 t t1 t2
    · obtain ⟨t, t1, t2, rfl⟩ := mem_part hb hy
      exact f2 t t1 t2
  rw [upO, mrgO, e0, e1, e2, drop_part l r, part_cut l h2 hb, drop_part l b]
  simp
theorem dn_mrg {l : List Rc} {a p r : Nat} (h1 : a ≤ r) (h2 : r ≤ p) (hb : p + 1 ≤ l.length) (f1 : ∀ t, a ≤ t → t < r → lt (l.getD p z6) (l.getD t z6) = false) (f2 : ∀ t, r ≤ t → t < p → lt (l.getD p z6) (l.getD t z6) = true) : dnO l r p = mrgO l a p (p + 1) := by
  have e0 : part l p (p + 1) = [l.getD p z6] := by rw [part_snoc (Nat.le_refl p) (by omega), part_nil (Nat.le_refl p)]; rfl
  have e1 := part_cut l h1 h2
  have e2 : mrg (part l a r ++ part l r p) [l.getD p z6] = part l a r ++ l.getD p z6 :: part l r p := by
    refine mrg_last (fun y hy => ?_) fun y hy => ?_
    · obtain ⟨t, t1, t2, rfl⟩ := mem_part (by omega) hy
      exact f1 t t1 t2
    · obtain ⟨t, t1, t2, rfl⟩ := mem_part (by omega) hy
      exact f2 t t1 t2
  rw [dnO, mrgO, e0, e1, e2, take_part l r, part_cut l (Nat.zero_le a) h1, take_part l a]
  simp
theorem cut_mrg {l : List Rc} {a p b d s e : Nat} (ha : a ≤ s) (hs : s ≤ p) (he : p ≤ e) (heb : e ≤ b) (hb : b ≤ l.length) (hd : d + p = s + e) (hsd : s ≤ d) (f1 : ∀ x ∈ part l a s, ∀ y ∈ part l e b, lt y x = false) (f2 : ∀ y ∈ part l p e, ∀ x ∈ part l s p, lt y x = true) :
    (part (rotO l s p e) a s = part l a s ∧ part (rotO l s p e) s d = part l p e) ∧
    (part (mrgO (rotO l s p e) a s d) d e = part l s p ∧ part (mrgO (rotO l s p e) a s d) e b = part l e b) ∧
    mrgO (mrgO (rotO l s p e) a s d) d e b = mrgO l a p b := by
  have lA : (l.take a).length = a := by rw [List.length_take]; omega
  have l1 := part_len l (a := a) (b := s) (by omega)
  have l2 := part_len l (a := s) (b := p) (by omega)
  have l3 := part_len l (a := p) (b := e) (by omega)
  have l4 := part_len l (a := e) (b := b) hb
  have lm := mrg_length (part l a s) (part l p e)
  have r0 : rotO l s p e = l.take a ++ (part l a s ++ (part l p e ++ (part l s p ++ (part l e b ++ l.drop b)))) := by
    rw [rotO, take_part l s, part_cut l (Nat.zero_le a) ha, ← take_part, drop_part l e, part_cut l heb hb, ← drop_part]; simp
  have a1 : part (rotO l s p e) a s = part l a s := by rw [r0]; exact part_mid (by omega) (by omega)
  have a2 : part (rotO l s p e) s d = part l p e := by
    rw [r0, ← List.append_assoc (l.take a)]; exact part_mid (by rw [List.length_append]; omega) (by rw [List.length_append]; omega)
  have a3 : (rotO l s p e).take a = l.take a := by rw [r0]; exact take_mid (by omega)
  have a4 : (rotO l s p e).drop d = part l s p ++ (part l e b ++ l.drop b) := by
    rw [r0, ← List.append_assoc (l.take a), ← List.append_assoc]; exact drop_mid (by simp only [List.length_append]; omega)
  have m0 : mrgO (rotO l s p e) a s d = l.take a ++ (mrg (part l a s) (part l p e) ++ (part l s p ++ (part l e b ++ l.drop b))) := by
    rw [mrgO, a1, a2, a3, a4]
  have b1 : part (mrgO (rotO l s p e) a s d) d e = part l s p := by
    rw [m0, ← List.append_assoc (l.take a)]; exact part_mid (by rw [List.length_append]; omega) (by rw [List.length_append]; omega)
  have b2 : part (mrgO (rotO l s p e) a s d) e b = part l e b := by
    rw [m0, ← List.append_assoc (l.take a), ← List.append_assoc]; exact part_mid (by simp only [List.length_append]; omega) (by simp only [List.length_append]; omega)
  have b3 : (mrgO (rotO l s p e) a s d).take d = l.take a ++ mrg (part l a s) (part l p e) := by
    rw [m0, ← List.append_assoc (l.take a)]; exact take_mid (by rw [List.length_append]; omega)
  have b4 : (mrgO (rotO l s p e) a s d).drop b = l.drop b := by
    rw [m0, ← List.append_assoc (l.take a), ← List.append_assoc, ← List.append_assoc]; exact drop_mid (by simp only [List.length_append]; omega)
  refine ⟨⟨a1, a2⟩, ⟨b1, b2⟩, ?_⟩
  rw [mrgO, b1, b2, b3, b4, mrgO, part_cut l ha hs, part_cut l he heb, mrg_cut f1 f2]
  simp
theorem rotO_len {l : List Rc} {s p e : Nat} (h1 : s ≤ p) (h2 : p ≤ e) (h3 : e ≤ l.length) : (rotO l s p e).length = l.length := by
  simp only [rotO, List.length_append, part_len l h3, part_len l (Nat.le_trans h2 h3), List.length_take, List.length_drop]; omega
theorem mrgO_len {l : List Rc} {s p e : Nat} (h1 : s ≤ p) (h2 : p ≤ e) (h3 : e ≤ l.length) : (mrgO l s p e).length = l.length := by
  simp only [mrgO, List.length_append, mrg_length, part_len l h3, part_len l (Nat.le_trans h2 h3), List.length_take, List.length_drop]; omega
end Go.Proofs.Ytgkejpfahpbnkaa

namespace Go.Proofs.Ytgkejpfahpbnkaa
open Ab
open Classical
theorem rotO_triv {l : List Rc} {s p e : Nat} (h1 : s ≤ p) (h2 : p ≤ e) (h3 : e ≤ l.length) (h : s = p ∨ p = e) : rotO l s p e = l := by
  conv => rhs; rw [whole4 h1 h2 h3]
  rcases h with rfl | rfl
  · rw [rotO, part_nil (Nat.le_refl s)]; simp
  · rw [rotO, part_nil (Nat.le_refl p)]; simp
theorem mrgO_triv {l : List Rc} {s p e : Nat} (h1 : s ≤ p) (h2 : p ≤ e) (h3 : e ≤ l.length) (h : s = p ∨ p = e) : mrgO l s p e = l := by
  conv => rhs; rw [whole4 h1 h2 h3]
  rcases h with rfl | rfl
  · rw [mrgO, part_nil (Nat.le_refl s), mrg_nil]; simp
  · rw [mrgO, part_nil (Nat.le_refl p), mrg_nil']; simp
section
variable {E : Nat → Nat → Seg} {ra : Nat → Nat → Nat × Nat} {base : Nat} {N : Nat}
theorem rL_ok (hE : Plain E) (hS : SumsOK Try.prog E ra base (SM N)) (x : Tx) (hx : rOk x = true) : Takes Try.prog E ra base 1 (codeOf 67 qR) (mkT 220 (rL.ins x)) (hp 0 (rL.blks x)) fun y => PostL 220 x y rL.alts := by
  refine takes_of_tree hE (W_ok hS noL_ok) (.inr (by kernel_rfl)) (hp_below _) (rr_tree E N x) ?_
  obtain ⟨m, c, a, p, b, d, s, e⟩ := x
  simp only [rOk, Bool.and_eq_true, decide_eq_true_eq] at hx
  obtain ⟨hw, h1, h2, h3, h4, h5⟩ := hx
  have e0 := cols_un hw
  have hl := un_len m c
  obtain ⟨s, rfl⟩ := Int.eq_ofNat_of_zero_le h1
  obtain ⟨p, rfl⟩ := Int.eq_ofNat_of_zero_le (show 0 ≤ p by omega)
  obtain ⟨e, rfl⟩ := Int.eq_ofNat_of_zero_le (show 0 ≤ e by omega)
  have triv : s = p ∨ p = e → (lfT m (rT ⟨m, c, a, p, b, d, s, e⟩ []) c).holds fun y => PostL 220 ⟨m, c, a, (p : Int), b, d, (s : Int), (e : Int)⟩ y rL.alts := by
    intro h
    refine ⟨(), trivial, ?_⟩
    show (_, _, hp 0 [c.blkN m]) = (_, _, hp 0 [(cols (rotO (c.un m) s p e)).blkN m])
    rw [rotO_triv (by omega) (by omega) (by omega) h, e0]
  dsimp only
  refine br_by (fun k1 => br_by (fun k2 => ⟨eB_eq (ok_blk _ _), eV_eq _, ?_, ⟨(), trivial, rfl⟩⟩) fun k2 => triv (.inr (by omega))) fun k1 => triv (.inl (by omega))
  simp only [rotOk, Bool.and_eq_true, decide_eq_true_eq]
  exact ⟨hw, by omega, by omega, by omega, by omega, h5⟩
theorem m1L_ok (hE : Plain E) (hS : SumsOK Try.prog E ra base (SM N)) (x : Tx) (hx : m1Ok N x = true) : Takes Try.prog E ra base 1 (codeOf 67 qM1) (mkT 220 ((m1L N).ins x)) (hp 0 ((m1L N).blks x)) fun y => PostL 220 x y (m1L N).alts := by
  refine takes_of_tree hE (W_ok hS noL_ok) (.inr (by kernel_rfl)) (hp_below _) (rm1_tree E N x) ?_
  obtain ⟨m, c, a, p, b, d, s, e⟩ := x
  have hx := @of_decide_eq_true _ (_) hx
  obtain ⟨hw, h1, h2, h3, h4, h5, hs1, hs2, hN⟩ := hx
  simp only [Tx.l] at hw h1 h2 h3 h4 h5 hs1 hs2 hN
  have e0 := cols_un hw
  have hl := un_len m c
  obtain ⟨a, rfl⟩ := Int.eq_ofNat_of_zero_le h1
  obtain ⟨s, rfl⟩ := Int.eq_ofNat_of_zero_le (show 0 ≤ s by omega)
  obtain ⟨d, rfl⟩ := Int.eq_ofNat_of_zero_le (show 0 ≤ d by omega)
  have triv : a = s ∨ s = d → (lfT m (m1T ⟨m, c, a, p, b, d, s, e⟩ []) c).holds fun y => PostL 220 ⟨m, c, (a : Int), p, b, (d : Int), (s : Int), e⟩ y (m1L N).alts := by
    intro h
    refine ⟨(), trivial, ?_⟩
    show (_, _, hp 0 [c.blkN m]) = (_, _, hp 0 [(cols (mrgO (c.un m) a s d)).blkN m])
    rw [mrgO_triv (by omega) (by omega) (by omega) h, e0]
  dsimp only
  refine br_by (fun k1 => br_by (fun k2 => ⟨eB_eq (ok_blk _ _), eV_eq _, ?_, ⟨(), trivial, rfl⟩⟩) fun k2 => triv (.inr (by omega))) fun k1 => triv (.inl (by omega))
  exact @decide_eq_true _ (_) ⟨hw, h1, k1, k2, h4, h5, hs1, hs2, hN⟩
theorem m2L_ok (hE : Plain E) (hS : SumsOK Try.prog E ra base (SM N)) (x : Tx) (hx : m2Ok N x = true) : Takes Try.prog E ra base 1 (codeOf 67 qM2) (mkT 220 ((m2L N).ins x)) (hp 0 ((m2L N).blks x)) fun y => PostL 220 x y (m2L N).alts := by
  refine takes_of_tree hE (W_ok hS noL_ok) (.inr (by kernel_rfl)) (hp_below _) (rm2_tree E N x) ?_
  obtain ⟨m, c, a, p, b, d, s, e⟩ := x
  have hx := @of_decide_eq_true _ (_) hx
  obtain ⟨hw, h1, h2, h3, h4, h5, hs1, hs2, hN⟩ := hx
  simp only [Tx.l] at hw h1 h2 h3 h4 h5 hs1 hs2 hN
  have e0 := cols_un hw
  have hl := un_len m c
  obtain ⟨d, rfl⟩ := Int.eq_ofNat_of_zero_le h1
  obtain ⟨e, rfl⟩ := Int.eq_ofNat_of_zero_le (show 0 ≤ e by omega)
  obtain ⟨b, rfl⟩ := Int.eq_ofNat_of_zero_le (show 0 ≤ b by omega)
  have triv : d = e ∨ e = b → (lfT m [] c).holds fun y => PostL 220 ⟨m, c, a, p, (b : Int), (d : Int), s, (e : Int)⟩ y (m2L N).alts := by
    intro h
    refine ⟨(), trivial, ?_⟩
    show (_, _, hp 0 [c.blkN m]) = (_, _, hp 0 [(cols (mrgO (c.un m) d e b)).blkN m])
    rw [mrgO_triv (by omega) (by omega) (by omega) h, e0]
  dsimp only
  refine br_by (fun k1 => br_by (fun k2 => ⟨eB_eq (ok_blk _ _), eV_eq _, ?_, ⟨(), trivial, rfl⟩⟩) fun k2 => triv (.inr (by omega))) fun k1 => triv (.inl (by omega))
  exact @decide_eq_true _ (_) ⟨hw, h1, k1, k2, h4, h5, hs1, hs2, hN⟩
theorem TM_ok (hE : Plain E) : ToldsOK Try.prog E ra base 1 TM :=
  sumT_ok (sumT_ok (sumT_ok (sumT_ok (sumT_ok noT_ok rfl (toldR_ok (c := .loop (codeOf 67 (false :: q8))) (by kernel_rfl) (s8_ok hE))) rfl (toldR_ok (c := .loop (codeOf 67 (false :: q6))) (by kernel_rfl) (s6_ok hE))) rfl (toldR_ok (c := .loop (codeOf 67 (false :: q4))) (by kernel_rfl) (s4_ok hE))) rfl (toldR_ok (c := .loop (codeOf 67 (false :: q2))) (by kernel_rfl) (s2_ok hE))) rfl (toldR_ok (c := .loop (codeOf 67 (false :: q0))) (by kernel_rfl) (s0_ok hE))
theorem TF_ok (hE : Plain E) (hS : SumsOK Try.prog E ra base (SM N)) : ToldsOK Try.prog E ra base 1 (TF N) :=
  sumT_ok (sumT_ok (sumT_ok (TM_ok hE) rfl (toldR_ok (c := codeOf 67 qM2) (by kernel_rfl) (m2L_ok hE hS))) rfl (toldR_ok (c := codeOf 67 qM1) (by kernel_rfl) (m1L_ok hE hS))) rfl (toldR_ok (c := codeOf 67 qR) (by kernel_rfl) (rL_ok hE hS))
theorem un_of {m : Nat} {l : List Rc} (h : l.length = m) : (cols l).un m = l := by subst h; exact un_cols _
theorem wf_of {m : Nat} {l : List Rc} (h : l.length = m) : (cols l).wf m = true := by subst h; exact cols_wf _
theorem mT_holds {m : Nat} {c : C6} {a p b d lo hi : Nat} (hw : c.wf m = true) (hm : m ≤ big) (h1 : a < p) (h2 : p < b) (h3 : b ≤ m) (hs1 : Sd (part (c.un m) a p)) (hs2 : Sd (part (c.un m) p b)) (hd : d = (a + b) / 2) (hN : d - a ≤ N) (hN' : b - d ≤ N)
    (hlo : a ≤ lo) (hlh : lo ≤ hi) (hhi : hi ≤ p) (hhd : hi ≤ d) (hnb : d + p ≤ lo + b) (e1 : lo = a ∨ lo + b = d + p) (e2 : hi = p ∨ hi = d) :
    (mT N ⟨m, c, a, p, b⟩ d ((d + p : Nat) : Int) ((d + p - 1 : Nat) : Int) lo hi).holds fun x => ∃ v, x.2.1 = [v] ∧ v = (mrgD N).out ⟨m, c, a, p, b⟩ ∧ x.2.2 = hp 0 ((mrgD N).blks' ⟨m, c, a, p, b⟩) := by
  have hl := un_len m c
  have hm' := hm
  unfold big at hm'
  have gN : ∀ t : Nat, gt (c.un m) (t : Int) = (c.un m).getD t z6 := fun t => rfl
  have pv : ∀ t : Nat, t ≤ d + p - 1 → P8 ⟨m, c, (a : Int), (p : Int), (b : Int), (d : Int), ((d + p : Nat) : Int), (lo : Int), (hi : Int), ((d + p - 1 : Nat) : Int)⟩ (t : Int) = lt ((c.un m).getD (d + p - 1 - t) z6) ((c.un m).getD t z6) := by
    intro t ht
    show lt (gt (c.un m) (((d + p - 1 : Nat) : Int) - t)) (gt (c.un m) t) = _
    rw [show ((d + p - 1 : Nat) : Int) - t = ((d + p - 1 - t : Nat) : Int) by omega, gN, gN]
  refine ⟨eT_self rfl rfl (ok_blk _ _), @decide_eq_true _ (_) ⟨hw, by show (0 : Int) ≤ lo; omega, by show (lo : Int) ≤ hi; omega, by show (hi : Int) ≤ m; omega, fun _ => ⟨by show (0 : Int) ≤ ((d + p - 1 : Nat) : Int) - ((hi : Int) - 1); omega, by show ((d + p - 1 : Nat) : Int) - (lo : Int) < m; omega⟩, by show ((d + p - 1 : Nat) : Int) ≤ 2 * (big : Int); unfold big; omega, hm, ?_⟩, ?_⟩
  · intro t s k1 k2 k3 hP
    obtain ⟨t, rfl⟩ := Int.eq_ofNat_of_zero_le (show 0 ≤ t by have : (lo : Int) ≤ t := k1; omega)
    obtain ⟨s, rfl⟩ := Int.eq_ofNat_of_zero_le (show 0 ≤ s by omega)
    have k1 : (lo : Int) ≤ (t : Int) := k1
    have k3 : (s : Int) < (hi : Int) := k3
    rw [pv t (by omega)] at hP
    rw [pv s (by omega)]
    have g1 := sd_get hs1 (by omega) (t := t) (s := s) (by omega) (by omega) (by omega)
    have g2 := sd_get hs2 (by omega) (t := d + p - 1 - s) (s := d + p - 1 - t) (by omega) (by omega) (by omega)
    exact lt_le (le_lt g2 hP) g1
  · rintro s ⟨k1, k2, k3, k4⟩
    obtain ⟨s, rfl⟩ := Int.eq_ofNat_of_zero_le (show 0 ≤ s by omega)
    have ws : wr .i64 (((d + p : Nat) : Int) - (s : Int)) = ((d + p - s : Nat) : Int) := wr_sub (by omega) (by omega)
    rw [ws]
    clear ws
    obtain ⟨e, he⟩ : ∃ e, e = d + p - s := ⟨_, rfl⟩
    rw [← he]
    have f1 : ∀ x ∈ part (c.un m) a s, ∀ y ∈ part (c.un m) e b, lt y x = false := by
      intro x hx y hy
      obtain ⟨t, t1, t2, rfl⟩ := mem_part (by omega) hx
      obtain ⟨w, w1, w2, rfl⟩ := mem_part (by omega) hy
      have hlt : lo < s := by omega
      have q := k3 ((s - 1 : Nat) : Int) (by omega) (by omega)
      rw [pv (s - 1) (by omega), show d + p - 1 - (s - 1) = e by omega] at q
      have g1 := sd_get hs1 (by omega) (t := t) (s := s - 1) (by omega) (by omega) (by omega)
      have g2 := sd_get hs2 (by omega) (t := e) (s := w) (by omega) (by omega) (by omega)
      exact le_tr (le_tr g1 q) g2
    have f2 : ∀ y ∈ part (c.un m) p e, ∀ x ∈ part (c.un m) s p, lt y x = true := by
      intro y hy x hx
      obtain ⟨t, t1, t2, rfl⟩ := mem_part (by omega) hx
      obtain ⟨w, w1, w2, rfl⟩ := mem_part (by omega) hy
      have hlt : s < hi := by omega
      have q := k4 (s : Int) (by omega) (by omega)
      rw [pv s (by omega), show d + p - 1 - s = e - 1 by omega] at q
      have g1 := sd_get hs1 (by omega) (t := s) (s := t) (by omega) (by omega) (by omega)
      have g2 := sd_get hs2 (by omega) (t := w) (s := e - 1) (by omega) (by omega) (by omega)
      exact lt_le (le_lt g2 q) g1
    obtain ⟨⟨c1, c2⟩, ⟨c3, c4⟩, c5⟩ := cut_mrg (l := c.un m) (a := a) (p := p) (b := b) (d := d) (s := s) (e := e) (by omega) (by omega) (by omega) (by omega) (by omega) (by omega) (by omega) f1 f2
    have lr := rotO_len (l := c.un m) (s := s) (p := p) (e := e) (by omega) (by omega) (by omega)
    have lm := mrgO_len (l := rotO (c.un m) s p e) (s := a) (p := s) (e := d) (by omega) (by omega) (by omega)
    have u1 := un_of (m := m) (l := rotO (c.un m) s p e) (by omega)
    have u2 := un_of (m := m) (l := mrgO (rotO (c.un m) s p e) a s d) (by omega)
    have w1 := wf_of (m := m) (l := rotO (c.un m) s p e) (by omega)
    have w2 := wf_of (m := m) (l := mrgO (rotO (c.un m) s p e) a s d) (by omega)
    have q1 : Sd (part (c.un m) a s) := by rw [part_cut (c.un m) (show a ≤ s by omega) (show s ≤ p by omega)] at hs1; exact hs1.left
    have q2 : Sd (part (c.un m) s p) := by rw [part_cut (c.un m) (show a ≤ s by omega) (show s ≤ p by omega)] at hs1; exact hs1.right
    have q3 : Sd (part (c.un m) p e) := by rw [part_cut (c.un m) (show p ≤ e by omega) (show e ≤ b by omega)] at hs2; exact hs2.left
    have q4 : Sd (part (c.un m) e b) := by rw [part_cut (c.un m) (show p ≤ e by omega) (show e ≤ b by omega)] at hs2; exact hs2.right
    refine ⟨eT_self rfl rfl (ok_blk _ _), ?_, fun _ _ => ⟨eT_self rfl rfl (ok_blk _ _), ?_, fun _ _ => ⟨eT_self rfl rfl (ok_blk _ _), ?_, fun _ _ => ⟨_, rfl, rfl, ?_⟩⟩⟩⟩
    · simp only [rOk, Bool.and_eq_true, decide_eq_true_eq]
      exact ⟨hw, by omega, by omega, by omega, by omega, hm⟩
    · simp only [Mx.l, Int.toNat_natCast]
      refine @decide_eq_true _ (_) ⟨w1, ?_⟩
      simp only [Tx.l, Int.toNat_natCast, u1, c1, c2]
      exact ⟨by omega, by omega, by omega, by omega, hm, q1, q3, by omega⟩
    · simp only [Mx.l, Int.toNat_natCast, u1]
      refine @decide_eq_true _ (_) ⟨w2, ?_⟩
      simp only [Tx.l, Int.toNat_natCast, u2, c3, c4]
      exact ⟨by omega, by omega, by omega, by omega, hm, q2, q4, by omega⟩
    · simp only [Mx.l, Int.toNat_natCast, u1, u2, c5, mrgD, Mx.mrg]
end
end Go.Proofs.Ytgkejpfahpbnkaa
