/- Parts of the walk: a plan of one's own is seated in tables; contracts of functions that take one; drafts: the operators of bytes; contracts of stateless, state; stateless, state, as trees; stateless, state keep their contracts; drafts; drafted, as trees; drafted keeps its contract, by shape; copies, and put: contracts; own lists, as trees; own lists keep their contract; put: its loop, its contract; plans read off blocks; Copy, as a tree, for any shape. -/
import Derived.Test.YtompijagcjjamaaG05

set_option linter.unusedSimpArgs false
set_option linter.unusedVariables false
namespace Go.Proofs.Ytompijagcjjamaa
open Ab
theorem Pl.T_ok {h : Sh} {y : Pl} (k : y.Ok h) : (y.T h).Ok := by
  obtain ⟨e, f, t, u⟩ := h
  refine ⟨k.e, k.pre, ?_, fun p => ?_, fun p hp hf => ?_, fun p hp hf => ?_, ?_, ?_⟩
  · cases t <;> simp [Pl.T]
  · rcases p with _ | _ | p
    · exact k.q1
    · cases t
      · exact Nat.zero_le _
      · exact k.q2
    · exact Nat.zero_le _
  · cases t
    · rcases p with _ | p
      · rfl
      · simp [Pl.T] at hp
    · rcases p with _ | _ | p
      · rfl
      · rfl
      · have hp : p + 1 + 1 < 2 := hp
        omega
  · cases t
    · rcases p with _ | p
      · exact k.f hf
      · simp [Pl.T] at hp
    · rcases p with _ | _ | p
      · exact k.f hf
      · exact k.u rfl hf
      · have hp : p + 1 + 1 < 2 := hp
        omega
  · cases t <;> rfl
  · cases t <;> rfl
theorem Pl.T_ne {h : Sh} {y : Pl} : (y.T h).st ≠ [] := by
  obtain ⟨e, f, t, u⟩ := h
  cases t <;> simp [Pl.T]
theorem Pl.w_ok {h : Sh} {y : Pl} : okW (y.T h) (y.w h) = true := by
  obtain ⟨e, f, t, u⟩ := h
  cases t <;> simp [okW, Pl.w, Pl.T, Sh.m]
theorem ops_bare {l : List O4} : ∀ j v, cellOf [⟨l.length, 4, [.int .i64 (k4 l), .int .i64 (a4 l), .int .i64 (b4 l), .int .i64 (g4 l)]⟩] j = some v → bare v = true := by
  intro j v hv
  obtain ⟨_, s, hs, rfl⟩ := cellOf_seg hv
  have hj := Nat.mod_lt j (show 0 < 4 by omega)
  simp only at hs
  generalize j % 4 = q at hs hj
  rcases q with _ | _ | _ | _ | q <;> first | omega | skip
  all_goals simp only [List.getElem?_cons_zero, List.getElem?_cons_succ, Option.some.injEq] at hs
  all_goals subst hs
  all_goals rfl
theorem tabP_wf (T : Pt) (hn : T.ns.length = T.st.length) : ∀ t p, (tabP T t p).WF := by
  intro t p
  rcases t with _ | _ | _ | t
  · refine ⟨rfl, fun c hc => ?_⟩
    simp only [tabP, List.mem_cons, List.not_mem_nil, or_false] at hc
    rcases hc with rfl | rfl | rfl | rfl <;> simp [Col.len, k4, a4, b4, g4, tabP]
  · refine ⟨rfl, fun c hc => ?_⟩
    simp only [tabP, List.mem_cons, List.not_mem_nil, or_false] at hc
    rcases hc with rfl | rfl | rfl | rfl | rfl <;> simp [Col.len, k4, a4, b4, g4, tabP, hn]
  · refine ⟨rfl, fun c hc => ?_⟩
    simp only [tabP, List.mem_cons, List.not_mem_nil, or_false] at hc
    rcases hc with rfl | rfl | rfl | rfl <;> simp [Col.len, k4, a4, b4, g4, tabP]
  · refine ⟨rfl, fun c hc => ?_⟩
    simp only [tabP, List.mem_cons, List.not_mem_nil, or_false] at hc
    subst hc; rfl
theorem cellOf_mk {s : Seg} {j : Nat} {c : Col} (h : j < s.n * s.st) (hc : s.cols[j % s.st]? = some c) : cellOf [s] j = some (colAt c (j / s.st)) := by
  simp only [cellOf]
  rw [Nat.ble_eq_true_of_le (show j + 1 ≤ s.n * s.st from h)]
  simp only [hc]
theorem ops_seat {pl : Nat → Nat → Option Nat} {E2 : Nat → Nat → Seg} {l : List O4} : ∀ j v2, cellOf [⟨l.length, 4, [.int .i64 (k4 l), .int .i64 (a4 l), .int .i64 (b4 l), .int .i64 (g4 l)]⟩] j = some v2 → ∃ v, cellOf [⟨l.length, 4, [.int .i64 (k4 l), .int .i64 (a4 l), .int .i64 (b4 l), .int .i64 (g4 l)]⟩] j = some v ∧ LikeV pl E2 v v2 :=
  fun j v2 hj => ⟨v2, hj, .inl ⟨ops_bare j v2 hj, rfl⟩⟩
theorem Pl.seated {h : Sh} {y : Pl} (k : y.Ok h) : Seated h.pl (tabP (y.T h)) (hp 0 (y.blks h)) := by
  refine ⟨tabP_wf _ (Pl.T_ok k).ln, fun t p hn => ?_⟩
  obtain ⟨e, f, t', u⟩ := h
  rcases t with _ | _ | _ | t
  · -- ahead of the stages
    cases e with
    | true =>
      have := k.e rfl
      simp only [tabP, Pl.T, this] at hn
      exact absurd hn (Nat.lt_irrefl _)
    | false => exact ⟨0, _, rfl, rfl, ops_seat⟩
  · -- the stages
    have hv : ∃ s, Sh.pl ⟨e, f, t', u⟩ 1 p = some (Sh.iS ⟨e, f, t', u⟩) ∧ view (hp 0 (y.blks ⟨e, f, t', u⟩)) (Sh.iS ⟨e, f, t', u⟩) = some (.segs [s]) ∧ y.stB ⟨e, f, t', u⟩ = .segs [s] := by
      cases e <;> cases t' <;> exact ⟨_, rfl, rfl, rfl⟩
    obtain ⟨s, h1, h2, h3⟩ := hv
    refine ⟨_, s, h1, h2, fun j v2 hj => ?_⟩
    obtain ⟨hlt, c, hc, rfl⟩ := cellOf_seg hj
    have hq := Nat.mod_lt j (show 0 < 5 by omega)
    have hn5 : s.st = 5 := by cases t' <;> cases h3 <;> rfl
    have hnm : s.n = (y.T ⟨e, f, t', u⟩).st.length := by cases t' <;> cases h3 <;> rfl
    have hr : j / 5 < (y.T ⟨e, f, t', u⟩).st.length := Nat.div_lt_of_lt_mul (by rw [Nat.mul_comm]; exact hlt)
    have mk : ∀ c', s.cols[j % 5]? = some c' → cellOf [s] j = some (colAt c' (j / 5)) := fun c' hc' => by
      have := cellOf_mk (s := s) (j := j) (c := c') (by rw [hn5, hnm]; exact hlt) (by rw [hn5]; exact hc')
      rw [hn5] at this; exact this
    have hc : (tabP (y.T ⟨e, f, t', u⟩) 1 p).cols[j % 5]? = some c := hc
    show ∃ v, cellOf [s] j = some v ∧ LikeV _ _ v (colAt c (j / 5))
    generalize j / 5 = r at hr mk ⊢
    generalize j % 5 = q at hq mk hc
    cases t' with
    | false =>
      have hr : r < 1 := hr
      have hr0 : r = 0 := by omega
      subst hr0
      cases h3
      rcases q with _ | _ | _ | _ | _ | q <;> first | omega | skip
      all_goals cases hc
      · exact ⟨_, mk _ rfl, .inl ⟨rfl, rfl⟩⟩
      · exact ⟨_, mk _ rfl, .inl ⟨rfl, rfl⟩⟩
      · exact ⟨_, mk _ rfl, .inl ⟨rfl, rfl⟩⟩
      · exact ⟨_, mk _ rfl, .inl ⟨rfl, rfl⟩⟩
      · cases f with
        | true => exact ⟨_, mk _ rfl, .inr (.inl ⟨rfl, rfl⟩)⟩
        | false => cases e <;> exact ⟨_, mk _ rfl, .inr (.inr ⟨_, _, none, 2, 0, rfl, rfl, rfl⟩)⟩
    | true =>
      have hr : r < 2 := hr
      cases h3
      rcases q with _ | _ | _ | _ | _ | q <;> first | omega | skip
      all_goals cases hc
      · exact ⟨_, mk _ rfl, .inl ⟨rfl, rfl⟩⟩
      · exact ⟨_, mk _ rfl, .inl ⟨rfl, rfl⟩⟩
      · exact ⟨_, mk _ rfl, .inl ⟨rfl, rfl⟩⟩
      · exact ⟨_, mk _ rfl, .inl ⟨rfl, rfl⟩⟩
      · rcases r with _ | _ | r
        · cases f with
          | true => cases u <;> exact ⟨_, mk _ rfl, .inr (.inl ⟨rfl, rfl⟩)⟩
          | false => cases e <;> exact ⟨_, mk _ rfl, .inr (.inr ⟨_, _, none, 2, 0, rfl, rfl, rfl⟩)⟩
        · cases u with
          | true => cases f <;> exact ⟨_, mk _ rfl, .inr (.inl ⟨rfl, rfl⟩)⟩
          | false => cases e <;> cases f <;> exact ⟨_, mk _ rfl, .inr (.inr ⟨_, _, none, 2, 1, rfl, rfl, rfl⟩)⟩
        · omega
  · -- behind a stage
    rcases p with _ | _ | p
    · cases f with
      | true =>
        have := k.f rfl
        simp only [tabP, Pl.T, this] at hn
        exact absurd hn (Nat.lt_irrefl _)
      | false => cases e <;> cases t' <;> exact ⟨_, _, rfl, rfl, ops_seat⟩
    · cases t' with
      | false => exact absurd hn (Nat.lt_irrefl _)
      | true =>
        cases u with
        | true =>
          have := k.u rfl rfl
          simp only [tabP, Pl.T, this] at hn
          exact absurd hn (Nat.lt_irrefl _)
        | false => cases e <;> cases f <;> exact ⟨_, _, rfl, rfl, ops_seat⟩
    · exact absurd hn (Nat.lt_irrefl _)
  · exact absurd hn (Nat.lt_irrefl _)
theorem Pl.blks_length {h : Sh} {y : Pl} : (y.blks h).length = h.n := by
  obtain ⟨e, f, t, u⟩ := h
  cases e <;> cases f <;> cases t <;> cases u <;> rfl
theorem Pl.like {h : Sh} {y : Pl} {l : List AVal} (hl : ∀ v ∈ l, bare v = true) : LikeL h.pl (tabP (y.T h)) (y.v h :: l) ((y.w h).v :: l) := by
  have hl' : LikeL h.pl (tabP (y.T h)) l l := by
    induction l with
    | nil => exact .nil
    | cons a l ih => exact .cons (.inl ⟨hl a (by simp), rfl⟩) (ih fun v hv => hl v (by simp [hv]))
  obtain ⟨e, f, t, u⟩ := h
  refine .agg ?_ hl'
  refine .cons ?_ (.cons (.inr (.inr ⟨_, _, _, 1, 0, rfl, rfl, ?_⟩)) (.cons (.inl ⟨rfl, rfl⟩) (.cons (.inl ⟨rfl, rfl⟩) .nil)))
  · cases e with
    | true => exact .inr (.inl ⟨rfl, rfl⟩)
    | false => exact .inr (.inr ⟨_, _, _, 0, 0, rfl, rfl, rfl⟩)
  · rfl
section
variable {E : Nat → Nat → Seg} {ra : Nat → Nat → Nat × Nat} {base : Nat}
def ndsOf (h : Sh) (y : Pl) : List O4 := (nodesT (y.T h)).map Nd.x
theorem ndsOf_eq {h : Sh} {y : Pl} : ndsOf h y = (y.T h).pre ++ opsSt (y.T h) := by
  simp only [ndsOf, nodesT, List.map_append, itemsAt_x, opsSt]
theorem nodes_own {h : Sh} {y : Pl} (k : y.Ok h) (kk : Nat) : Gives Try.prog E ra base kk 8 [y.v h] (hp 0 (y.blks h)) fun v h' => v = .slice (.own h.n 0 0 4) (Cs.of (ndsOf h y)).k.length none ∧ h' = hp 0 (y.blks h ++ [(Cs.of (ndsOf h y)).blk]) := by
  have := gives_seat (E := E) (ra := ra) (base := base) (k := kk) (Pl.like (l := []) (by simp)) (Pl.seated k) (.row (l := [⟨(Cs.of (ndsOf h y)).k.length, 4, [.int .i64 (Cs.of (ndsOf h y)).k, .int .i64 (Cs.of (ndsOf h y)).a, .int .i64 (Cs.of (ndsOf h y)).b, .int .i64 (Cs.of (ndsOf h y)).g]⟩]) (st := 4) (len := (Cs.of (ndsOf h y)).k.length) (cap := none) ?_) (fun ra2 base2 => (nodes_gives (Pl.T_ok k) Pl.T_ne Pl.w_ok).mono fun v h' hh => by rw [← ndsOf_eq] at hh; exact hh)
  · rw [Pl.blks_length] at this
    exact this
  · intro j v hv
    have := ops_bare (l := ndsOf h y) j v (by rw [← hv, show (ndsOf h y).length = (Cs.of (ndsOf h y)).k.length from (k4_length _).symm]; rfl)
    exact this
theorem plain_own {h : Sh} {y : Pl} (k : y.Ok h) {kk : Nat} {f : FuncId} {l : List AVal} (hl : ∀ v ∈ l, bare v = true) {ov : AVal} (hF : Fresh ov [])
    (G : ∀ ra2 base2, Gives Try.prog (tabP (y.T h)) ra2 base2 0 f ((y.w h).v :: l) (hp 0 []) fun v h' => v = ov ∧ h' = hp 0 []) : Gives Try.prog E ra base kk f (y.v h :: l) (hp 0 (y.blks h)) fun v h' => v = ov ∧ h' = hp 0 (y.blks h) := by
  have := gives_seat (E := E) (ra := ra) (base := base) (k := kk) (Pl.like hl) (Pl.seated k) hF G
  rw [List.append_nil] at this
  refine this.mono fun v h' hh => ⟨?_, hh.2⟩
  rw [hh.1]
  cases hF with
  | bare hb => cases ov <;> first | rfl | simp [bare] at hb
  | tup => rfl
  | nils => rfl
theorem ints_own {h : Sh} {y : Pl} (k : y.Ok h) {kk : Nat} {f : FuncId} {l : List AVal} (hl : ∀ v ∈ l, bare v = true) {xs : List Int}
    (G : ∀ ra2 base2, Gives Try.prog (tabP (y.T h)) ra2 base2 0 f ((y.w h).v :: l) (hp 0 []) fun v h' => v = .slice (.own 0 0 0 1) xs.length none ∧ h' = hp 0 [intsB xs]) : Gives Try.prog E ra base kk f (y.v h :: l) (hp 0 (y.blks h)) fun v h' => v = .slice (.own h.n 0 0 1) xs.length none ∧ h' = hp 0 (y.blks h ++ [intsB xs]) := by
  have := gives_seat (E := E) (ra := ra) (base := base) (k := kk) (Pl.like hl) (Pl.seated k) (.row (l := [⟨xs.length, 1, [.int .i64 xs]⟩]) (st := 1) (len := xs.length) (cap := none) ?_) G
  · rw [Pl.blks_length] at this
    exact this
  · intro j v hv
    obtain ⟨_, s, hs, rfl⟩ := cellOf_seg hv
    simp only [Nat.mod_one, List.getElem?_cons_zero, Option.some.injEq] at hs
    subst hs; rfl
end
end Go.Proofs.Ytompijagcjjamaa

namespace Go.Proofs.Ytompijagcjjamaa
open Ab
def tabU (U : Nat → List Int) : Nat → Nat → Seg := fun t _ => ⟨(U t).length, 1, [.int .u8 (U t)]⟩
def slN (x : Int) : Int := x / 4 % 5 + 1
def slOp (x : Int) : O4 := if x % 4 = 0 then ⟨0, slN x, - slN x, 0⟩ else if x % 4 = 1 then ⟨1, 100, slN x, 0⟩ else if x % 4 = 2 then ⟨2, slN x, slN x - 1, 0⟩ else ⟨3, 1 + slN x % 3, slN x, 0⟩
def slL (l : List Int) : List O4 := (l.take 4).map slOp
def stN (x : Int) : Int := x / 4 % 16 + 1
def stOp (x : Int) : O4 := if x % 4 = 0 then ⟨4, stN x, 0, x / 64⟩ else if x % 4 = 1 then ⟨5, 2 * stN x, stN x, x / 64⟩ else if x % 4 = 2 then ⟨6, stN x, 0, x / 64⟩ else ⟨7, stN x, 0, 0⟩
structure Vi where
  b : Bool
  t : Nat
  n : Nat
def Vi.v (x : Vi) : AVal := match x.b with
  | true => .nils
  | false => .slice (.ro x.t 0 0 0) x.n none
def viOf : AVal → Option Vi
  | .nils => some ⟨true, 0, 0⟩
  | .slice (.ro t _ _ _) n _ => some ⟨false, t, n⟩
  | _ => none
def Vi.l (U : Nat → List Int) (x : Vi) : List Int := match x.b with
  | true => []
  | false => U x.t
def okVi (U : Nat → List Int) (x : Vi) : Bool := decide (x.n = (x.l U).length)
def pSl : List Bool := [false, true, false, true, true]
def slIns (x : Vi) (o : AVal) (i : Int) : List (Nat × AVal) := [(0, x.v), (3, o), (4, .int .i64 i)]
def slD (U : Nat → List Int) : RDeal Vi where
  ins x := slIns x .nils 0
  blks _ := []
  pre x := okVi U x
  alts := [⟨List O4, .exit 0, fun x s => s = slL (x.l U) ∧ s ≠ [], fun _ s => [(3, .slice (.own 0 0 0 4) (Cs.of s).k.length none)], fun _ s => [(Cs.of s).blk]⟩,
    ⟨Unit, .exit 0, fun x _ => x.l U = [], fun _ _ => [(3, .nils)], fun _ _ => []⟩]
def slO (us : List AVal) (_ : List Blk) : Option Vi := match us with
  | v :: _ => viOf v
  | _ => none
def slT (U : Nat → List Int) : Tolds := sumT 18 pSl (toldR 63 (slD U) [0, 3, 4] slO) noT
def viNil (U : Nat → List Int) (x : Vi) : Bool := isNil (x.l U)
def slCN (U : Nat → List Int) : CDeal Vi := ⟨fun x => [x.v], fun _ => [], fun x => okVi U x && viNil U x, fun _ => .nils, fun _ => []⟩
def slCO (U : Nat → List Int) : CDeal Vi := ⟨fun x => [x.v], fun _ => [], fun x => okVi U x && !viNil U x, fun x => .slice (.own 0 0 0 4) (slL (x.l U)).length none, fun x => [opsB (slL (x.l U))]⟩
def stD : CDeal Int := ⟨fun x => [.int .u8 x], fun _ => [], fun x => decide (0 ≤ x) && decide (x < 256), fun x => opV (stOp x), fun _ => []⟩
def stO (us : List AVal) (_ : List Blk) : Option Int := match us with
  | [.int _ x] => some x
  | _ => none
def viO (us : List AVal) (_ : List Blk) : Option Vi := match us with
  | [v] => viOf v
  | _ => none
def SD (U : Nat → List Int) : Sums := sumF 18 (callNG [(viNil U, slCN U)] (slCO U) viO) (sumF 19 (callG stD stO) noS)
end Go.Proofs.Ytompijagcjjamaa

namespace Go.Proofs.Ytompijagcjjamaa
open Ab
theorem sl_n (U : Nat → List Int) : ((W (tabU U) noS noL 18 (false :: pSl) false (codeOf 18 (false :: pSl)) (mkT 63 (slIns ⟨true, 0, 0⟩ .nils 0))).full ⟨hp 0 [], 0, [], []⟩ leafS).take 0 (cs 4 (.leaf [] 8)) =
(.leaf (.exit 0, mkT 63 [(3, .nils)], [])) := by kernel_rfl
theorem sl_0 (U : Nat → List Int) (t n : Nat) (i : Int) : ((W (tabU U) noS noL 18 (false :: pSl) false (codeOf 18 (false :: pSl)) (mkT 63 (slIns ⟨false, t, n⟩ .nils i))).full ⟨hp 0 [], 0, [], []⟩ leafS).take 0 (.x (.c (.x (.n (.n (.c (.c (.n (.n (.c (.x (.c (.c (.c (.leaf [1] 25)))) (.x (.c (.c (.c (.leaf [1] 25)))) (.x (.c (.c (.c (.leaf [1] 25)))) (cs 4 (.leaf [1] 25)))))))))))) (.leaf [] 8))) (.c (.c (.c (.leaf [] 8))))) =
(let u0 := (List.getD (U t) (0 + Int.toNat i) 0)
let i0 := (wr .i64 (Int.tmod (wr .u8 (Int.tdiv u0 4)) 5) + 1)
let j0 : List (Nat × AVal) := [(0, .slice (.ro t 0 0 0) n none), (3, .slice (.own 0 0 0 4) 1 none), (4, .int .i64 (wr .i64 (i + 1)))]
let m0 := (List.take 1 (List.drop 0 [wr .i64 i0]))
let v0 : Bool := (decide (0 ≤ i) && decide (i < (↑n : Int)))
(.br (decide (i < (↑n : Int))) (.br (decide (i < 4)) (.need v0 (.need (decide (0 + Int.toNat i < List.length (U t))) (.need v0 (.need (decide (0 + Int.toNat i < List.length (U t))) (.br (decide (Int.tmod u0 4 = 0)) (.leaf (.normal, mkT 63 j0, [(0, some (.segs [⟨1, 4, [.int .i64 [0], .int .i64 m0, .int .i64 (List.take 1 (List.drop 0 [wr .i64 (0 - wr .i64 i0)])), .int .i64 [0]]⟩]))])) (.br (decide (Int.tmod u0 4 = 1)) (.leaf (.normal, mkT 63 j0, [(0, some (.segs [⟨1, 4, [.int .i64 [1], .int .i64 [100], .int .i64 m0, .int .i64 [0]]⟩]))])) (.br (decide (Int.tmod u0 4 = 2)) (.leaf (.normal, mkT 63 j0, [(0, some (.segs [⟨1, 4, [.int .i64 [2], .int .i64 m0, .int .i64 (List.take 1 (List.drop 0 [wr .i64 (wr .i64 i0 - 1)])), .int .i64 [0]]⟩]))])) (.leaf (.normal, mkT 63 j0, [(0, some (.segs [⟨1, 4, [.int .i64 [3], .int .i64 (List.take 1 (List.drop 0 [wr .i64 (1 + Int.tmod (wr .i64 i0) 3)])), .int .i64 m0, .int .i64 [0]]⟩]))]))))))))) (.leaf (.exit 0, mkT 63 [(3, .nils)], []))) (.leaf (.exit 0, mkT 63 [(3, .nils)], [])))) := by kernel_rfl
theorem sl_1 (U : Nat → List Int) (t n : Nat) (i : Int) (l : List O4) : ((W (tabU U) noS noL 18 (false :: pSl) false (codeOf 18 (false :: pSl)) (mkT 63 (slIns ⟨false, t, n⟩ (.slice (.own 0 0 0 4) (Cs.of l).k.length none) i))).full ⟨hp 0 [(Cs.of l).blk], 1, [], []⟩ leafS).take 0 (.x (.c (.x (.n (.n (.c (.c (.n (.n (.c (.x (.n (.n (.c (.c (.leaf [2] 25))))) (.x (.n (.n (.c (.c (.leaf [2] 25))))) (.x (.n (.n (.c (.c (.leaf [2] 25))))) (.c (.n (.n (.c (.c (.leaf [2] 25)))))))))))))))) (.leaf [0] 8))) (.c (.c (.c (.leaf [0] 8))))) =
(let z0 := (List.getD (U t) (0 + Int.toNat i) 0)
let i0 := (wr .i64 (Int.tmod (wr .u8 (Int.tdiv z0 4)) 5) + 1)
let j0 : List (Nat × AVal) := [(0, .slice (.ro t 0 0 0) n none), (3, .slice (.own 0 0 0 4) (List.length (k4 l) + 1) none), (4, .int .i64 (wr .i64 (i + 1)))]
let m0 := (List.length (k4 l))
let u0 : Tree State := (.leaf (.exit 0, mkT 63 [(3, .slice (.own 0 0 0 4) m0 none)], [(0, some (.segs [⟨List.length (k4 l), 4, [.int .i64 (k4 l), .int .i64 (a4 l), .int .i64 (b4 l), .int .i64 (g4 l)]⟩]))]))
let v0 : Bool := (decide ((List.length (k4 l) + 1) * 32 ≤ 35184372088832))
let w0 : Bool := (decide (0 + List.length (k4 l) ≤ List.length (k4 l)))
let x0 := (List.take m0 (List.drop 0 (g4 l)) ++ [0])
let q0 := (List.take m0 (List.drop 0 (a4 l)) ++ List.take 1 (List.drop 0 [wr .i64 i0]))
let i1 := (List.take m0 (List.drop 0 (b4 l)) ++ List.take 1 (List.drop 0 [wr .i64 i0]))
let j1 := (List.drop 0 (k4 l))
let m1 : Bool := (decide (0 ≤ i) && decide (i < (↑n : Int)))
(.br (decide (i < (↑n : Int))) (.br (decide (i < 4)) (.need m1 (.need (decide (0 + Int.toNat i < List.length (U t))) (.need m1 (.need (decide (0 + Int.toNat i < List.length (U t))) (.br (decide (Int.tmod z0 4 = 0)) (.need v0 (.need w0 (.leaf (.normal, mkT 63 j0, [(0, some (.segs [⟨List.length (k4 l) + 1, 4, [.int .i64 (List.take m0 j1 ++ [0]), .int .i64 q0, .int .i64 (List.take m0 (List.drop 0 (b4 l)) ++ List.take 1 (List.drop 0 [wr .i64 (0 - wr .i64 i0)])), .int .i64 x0]⟩]))])))) (.br (decide (Int.tmod z0 4 = 1)) (.need v0 (.need w0 (.leaf (.normal, mkT 63 j0, [(0, some (.segs [⟨List.length (k4 l) + 1, 4, [.int .i64 (List.take m0 j1 ++ [1]), .int .i64 (List.take m0 (List.drop 0 (a4 l)) ++ [100]), .int .i64 i1, .int .i64 x0]⟩]))])))) (.br (decide (Int.tmod z0 4 = 2)) (.need v0 (.need w0 (.leaf (.normal, mkT 63 j0, [(0, some (.segs [⟨List.length (k4 l) + 1, 4, [.int .i64 (List.take m0 j1 ++ [2]), .int .i64 q0, .int .i64 (List.take m0 (List.drop 0 (b4 l)) ++ List.take 1 (List.drop 0 [wr .i64 (wr .i64 i0 - 1)])), .int .i64 x0]⟩]))])))) (.need v0 (.need w0 (.leaf (.normal, mkT 63 j0, [(0, some (.segs [⟨List.length (k4 l) + 1, 4, [.int .i64 (List.take m0 j1 ++ [3]), .int .i64 (List.take m0 (List.drop 0 (a4 l)) ++ List.take 1 (List.drop 0 [wr .i64 (1 + Int.tmod (wr .i64 i0) 3)])), .int .i64 i1, .int .i64 x0]⟩]))]))))))))))) u0) u0)) := by kernel_rfl
theorem statelessn (U : Nat → List Int) : ((callT Try.prog (tabU U) (W (tabU U) noS noL) (slT U) 0 18 [Vi.v ⟨true, 0, 0⟩] ⟨hp 0 [], 0, [], []⟩)).take 0 (.c (.c (.c (.b (.a (.i (.leaf [0] 1))) (.a (.i (.leaf [] 1))))))) =
(.both (.all (List O4) fun (y1 : List O4) => (.imp (y1 = slL (Vi.l U { b := true, t := 0, n := 0 }) ∧ y1 ≠ []) (.leaf (.ret, mkT 1 [(0, .slice (.own 0 0 0 4) (List.length (k4 y1)) none)], [(0, some (.segs [⟨List.length (k4 y1), 4, [.int .i64 (k4 y1), .int .i64 (a4 y1), .int .i64 (b4 y1), .int .i64 (g4 y1)]⟩]))])))) (.all (PUnit) fun (y1 : PUnit) => (.imp (Vi.l U { b := true, t := 0, n := 0 } = []) (.leaf (.ret, mkT 1 [(0, .nils)], []))))) := by kernel_rfl
theorem statelesss (U : Nat → List Int) (t n : Nat) : ((callT Try.prog (tabU U) (W (tabU U) noS noL) (slT U) 0 18 [Vi.v ⟨false, t, n⟩] ⟨hp 0 [], 0, [], []⟩)).take 0 (.c (.n (.n (.b (.a (.i (.leaf [0] 1))) (.a (.i (.leaf [] 1))))))) =
(.need (Nat.beq t t && true && (rf n && true) && true && true) (.need (okVi U { b := false, t := t, n := n }) (.both (.all (List O4) fun (y1 : List O4) => (.imp (y1 = slL (Vi.l U { b := false, t := t, n := n }) ∧ y1 ≠ []) (.leaf (.ret, mkT 1 [(0, .slice (.own 0 0 0 4) (List.length (k4 y1)) none)], [(0, some (.segs [⟨List.length (k4 y1), 4, [.int .i64 (k4 y1), .int .i64 (a4 y1), .int .i64 (b4 y1), .int .i64 (g4 y1)]⟩]))])))) (.all (PUnit) fun (y1 : PUnit) => (.imp (Vi.l U { b := false, t := t, n := n } = []) (.leaf (.ret, mkT 1 [(0, .nils)], []))))))) := by kernel_rfl
theorem state_t (U : Nat → List Int) (x : Int) : ((callB Try.prog (tabU U) noS (W (tabU U) noS noL) 19 [.int .u8 x]).full ⟨hp 0 [], 0, [], []⟩ leafV).take 0 (.c (.c (.c (.x (.c (.leaf [] 1)) (.x (.c (.leaf [] 1)) (.x (.c (.leaf [] 1)) (.leaf [] 1))))))) =
(let i0 := (wr .i64 (Int.tmod (wr .u8 (Int.tdiv x 4)) 16) + 1)
let j0 := (wr .i64 (wr .u8 (Int.tdiv x 64)))
(.br (decide (Int.tmod x 4 = 0)) (.leaf (.ret, mkT 1 [(0, .agg [.int .i64 4, .int .i64 (wr .i64 i0), .int .i64 0, .int .i64 j0])], [])) (.br (decide (Int.tmod x 4 = 1)) (.leaf (.ret, mkT 1 [(0, .agg [.int .i64 5, .int .i64 (wr .i64 (2 * wr .i64 i0)), .int .i64 (wr .i64 i0), .int .i64 j0])], [])) (.br (decide (Int.tmod x 4 = 2)) (.leaf (.ret, mkT 1 [(0, .agg [.int .i64 6, .int .i64 (wr .i64 i0), .int .i64 0, .int .i64 j0])], [])) (.leaf (.ret, mkT 1 [(0, .agg [.int .i64 7, .int .i64 (wr .i64 i0), .int .i64 0, .int .i64 0])], [])))))) := by kernel_rfl
end Go.Proofs.Ytompijagcjjamaa

namespace Go.Proofs.Ytompijagcjjamaa
open Ab
theorem tabU_plain (U : Nat → List Int) : Plain (tabU U) := by
  intro tid par j v hv
  obtain ⟨_, s, hs, rfl⟩ := cellOf_seg hv
  simp only [tabU, Nat.mod_one, List.getElem?_cons_zero, Option.some.injEq] at hs
  subst hs; rfl
def Bytes (U : Nat → List Int) : Prop := ∀ t, ∀ v ∈ U t, 0 ≤ v ∧ v < 256
theorem byte_mod {x : Int} (h : 0 ≤ x ∧ x < 256) (m : Int) : Int.tmod x m = x % m := Int.tmod_eq_emod_of_nonneg h.1
theorem byte_div {x : Int} (h : 0 ≤ x ∧ x < 256) : wr .u8 (Int.tdiv x 4) = x / 4 := by
  rw [Int.tdiv_eq_ediv_of_nonneg h.1]; exact wr_u8 ⟨by omega, by omega⟩
theorem byte_div64 {x : Int} (h : 0 ≤ x ∧ x < 256) : wr .i64 (wr .u8 (Int.tdiv x 64)) = x / 64 := by
  rw [Int.tdiv_eq_ediv_of_nonneg h.1, wr_u8 ⟨by omega, by omega⟩]; exact wr_in ⟨by omega, by omega⟩
theorem slN_in {x : Int} (h : 0 ≤ x ∧ x < 256) : 1 ≤ slN x ∧ slN x ≤ 5 := by simp only [slN]; omega
theorem slN_eq {x : Int} (h : 0 ≤ x ∧ x < 256) : wr .i64 (wr .i64 (Int.tmod (wr .u8 (Int.tdiv x 4)) 5) + 1) = slN x := by
  rw [byte_div h, Int.tmod_eq_emod_of_nonneg (by omega), wr_in (v := x / 4 % 5) ⟨by omega, by omega⟩]
  exact wr_in ⟨by omega, by omega⟩
theorem slN_neg {n : Int} (h : 1 ≤ n ∧ n ≤ 5) : wr .i64 (0 - n) = - n := by rw [wr_in ⟨by omega, by omega⟩]; omega
theorem slN_one {n : Int} (h : 1 ≤ n ∧ n ≤ 5) : wr .i64 (n - 1) = n - 1 := wr_in ⟨by omega, by omega⟩
theorem slN_three {n : Int} (h : 1 ≤ n ∧ n ≤ 5) : wr .i64 (1 + Int.tmod n 3) = 1 + n % 3 := by
  rw [Int.tmod_eq_emod_of_nonneg (by omega)]; exact wr_in ⟨by omega, by omega⟩
theorem stN_in {x : Int} (h : 0 ≤ x ∧ x < 256) : 1 ≤ stN x ∧ stN x ≤ 16 := by simp only [stN]; omega
theorem stN_eq {x : Int} (h : 0 ≤ x ∧ x < 256) : wr .i64 (wr .i64 (Int.tmod (wr .u8 (Int.tdiv x 4)) 16) + 1) = stN x := by
  rw [byte_div h, Int.tmod_eq_emod_of_nonneg (by omega), wr_in (v := x / 4 % 16) ⟨by omega, by omega⟩]
  exact wr_in ⟨by omega, by omega⟩
theorem stN_two {n : Int} (h : 1 ≤ n ∧ n ≤ 16) : wr .i64 (2 * n) = 2 * n := wr_in ⟨by omega, by omega⟩
section
variable {ra : Nat → Nat → Nat × Nat} {base : Nat}
theorem state_gives {U : Nat → List Int} {x : Int} (h : 0 ≤ x ∧ x < 256) : Gives Try.prog (tabU U) ra base 0 19 [.int .u8 x] (hp 0 []) fun v h' => v = opV (stOp x) ∧ h' = hp 0 [] := by
  have hn := stN_in h
  refine (gives_of_tree (tabU_plain U) (W_ok noS_ok noL_ok) noS_ok (hp_below _) (state_t U x) ?_).2
  simp only [Tree.holds, rf_eq, byte_mod h, stN_eq h, byte_div64 h, stN_two hn, decide_eq_true_eq, decide_eq_false_iff_not]
  refine ⟨fun h0 => ⟨_, rfl, ?_, rfl⟩, fun h0 => ⟨fun h1 => ⟨_, rfl, ?_, rfl⟩, fun h1 => ⟨fun h2 => ⟨_, rfl, ?_, rfl⟩, fun h2 => ⟨_, rfl, ?_, rfl⟩⟩⟩⟩
  · rw [stOp, if_pos h0]; rfl
  · rw [stOp, if_neg h0, if_pos h1]; rfl
  · rw [stOp, if_neg h0, if_neg h1, if_pos h2]; rfl
  · rw [stOp, if_neg h0, if_neg h1, if_neg h2]; rfl
def slW (l : List O4) : AVal := match l with
  | [] => .nils
  | _ => .slice (.own 0 0 0 4) (Cs.of l).k.length none
def slBs (l : List O4) : List Blk := match l with
  | [] => []
  | _ => [(Cs.of l).blk]
theorem sl_round {U : Nat → List Int} (hU : Bytes U) {t : Nat} {i : Nat} (hi : i < (U t).length) (hi4 : i < 4) {l : List O4} (hl : l.length ≤ 100) :
    Takes Try.prog (tabU U) ra base 0 (codeOf 18 (false :: pSl)) (mkT 63 (slIns ⟨false, t, (U t).length⟩ (slW l) (i : Int))) (hp 0 (slBs l)) fun y => y = (.normal, mkT 63 (slIns ⟨false, t, (U t).length⟩ (.slice (.own 0 0 0 4) (Cs.of (l ++ [slOp ((U t).getD i 0)])).k.length none) ((i + 1 : Nat) : Int)), hp 0 [(Cs.of (l ++ [slOp ((U t).getD i 0)])).blk]) := by
  have hx : 0 ≤ (U t).getD i 0 ∧ (U t).getD i 0 < 256 := by
    rw [getD_at hi]; exact hU t _ (List.getElem_mem hi)
  have hn := slN_in hx
  have c1 : (i : Int) < ((U t).length : Int) := by omega
  have c2 : (i : Int) < 4 := by omega
  have hwr : wr .i64 ((i : Int) + 1) = ((i + 1 : Nat) : Int) := by rw [wr_in ⟨by omega, by omega⟩]; omega
  have e0 : (U t).getD i 0 % 4 = 0 → slOp ((U t).getD i 0) = ⟨0, slN ((U t).getD i 0), - slN ((U t).getD i 0), 0⟩ := fun h => by rw [slOp, if_pos h]
  have e1 : ¬ (U t).getD i 0 % 4 = 0 → (U t).getD i 0 % 4 = 1 → slOp ((U t).getD i 0) = ⟨1, 100, slN ((U t).getD i 0), 0⟩ := fun h h' => by rw [slOp, if_neg h, if_pos h']
  have e2 : ¬ (U t).getD i 0 % 4 = 0 → ¬ (U t).getD i 0 % 4 = 1 → (U t).getD i 0 % 4 = 2 → slOp ((U t).getD i 0) = ⟨2, slN ((U t).getD i 0), slN ((U t).getD i 0) - 1, 0⟩ := fun h h' h'' => by rw [slOp, if_neg h, if_neg h', if_pos h'']
  have e3 : ¬ (U t).getD i 0 % 4 = 0 → ¬ (U t).getD i 0 % 4 = 1 → ¬ (U t).getD i 0 % 4 = 2 → slOp ((U t).getD i 0) = ⟨3, 1 + slN ((U t).getD i 0) % 3, slN ((U t).getD i 0), 0⟩ := fun h h' h'' => by rw [slOp, if_neg h, if_neg h', if_neg h'']
  cases l with
  | nil =>
    refine takes_of_tree (tabU_plain U) (W_ok noS_ok noL_ok) (.inr (by kernel_rfl)) (hp_below _) (sl_0 U t (U t).length i) ?_
    simp only [Tree.holds, rf_eq, c1, c2, hi, Int.toNat_natCast, Nat.zero_add, hwr, byte_mod hx, slN_eq hx, slN_neg hn, slN_one hn, slN_three hn, take1, decide_true, Bool.and_self, Bool.and_true, Bool.true_and, true_and, Bool.and_eq_true, decide_eq_true_eq, decide_eq_false_iff_not, true_implies, Bool.true_eq_false, false_implies, and_true, not_true_eq_false]
    refine ⟨by omega, by omega, fun h0 => ?_, fun h0 => ⟨fun h1 => ?_, fun h1 => ⟨fun h2 => ?_, fun h2 => ?_⟩⟩⟩
    · rw [e0 h0]; rfl
    · rw [e1 h0 h1]; rfl
    · rw [e2 h0 h1 h2]; rfl
    · rw [e3 h0 h1 h2]; rfl
  | cons z l =>
    refine takes_of_tree (tabU_plain U) (W_ok noS_ok noL_ok) (.inr (by kernel_rfl)) (hp_below _) (sl_1 U t (U t).length i (z :: l)) ?_
    have hlen : ((k4 (z :: l)).length + 1) * 32 ≤ 35184372088832 := by rw [k4_length]; omega
    have col : ∀ (f : O4 → Int) (x : O4) (v : Int), v = f x → List.take (k4 (z :: l)).length (List.drop 0 ((z :: l).map f)) ++ [v] = ((z :: l) ++ [x]).map f := fun f x v hv => by subst hv; exact col_grown (z :: l) f x
    have fin : ∀ (x : O4) (a b c d : Int), a = x.k → b = x.a → c = x.b → d = x.g →
        ((AExit.normal, mkT 63 [(0, .slice (.ro t 0 0 0) (U t).length none), (3, .slice (.own 0 0 0 4) ((k4 (z :: l)).length + 1) none), (4, .int .i64 ((i + 1 : Nat) : Int))], [(0, some (Blk.segs [⟨(k4 (z :: l)).length + 1, 4, [.int .i64 (List.take (k4 (z :: l)).length (List.drop 0 (k4 (z :: l))) ++ [a]), .int .i64 (List.take (k4 (z :: l)).length (List.drop 0 (a4 (z :: l))) ++ [b]), .int .i64 (List.take (k4 (z :: l)).length (List.drop 0 (b4 (z :: l))) ++ [c]), .int .i64 (List.take (k4 (z :: l)).length (List.drop 0 (g4 (z :: l))) ++ [d])]⟩]))]) : State)
          = (.normal, mkT 63 (slIns ⟨false, t, (U t).length⟩ (.slice (.own 0 0 0 4) (Cs.of ((z :: l) ++ [x])).k.length none) ((i + 1 : Nat) : Int)), hp 0 [(Cs.of ((z :: l) ++ [x])).blk]) := by
      rintro x a b c d rfl rfl rfl rfl
      rw [gk2, ga2, gb2, gg2, gn _ x]
      rfl
    simp only [Tree.holds, rf_eq, c1, c2, hi, hlen, Int.toNat_natCast, Nat.zero_add, hwr, byte_mod hx, slN_eq hx, slN_neg hn, slN_one hn, slN_three hn, take1, decide_true, Bool.and_self, Bool.and_true, Bool.true_and, true_and, Bool.and_eq_true, decide_eq_true_eq, decide_eq_false_iff_not, true_implies, Bool.true_eq_false, false_implies, and_true, not_true_eq_false, Nat.le_refl]
    refine ⟨by omega, by omega, fun h0 => ?_, fun h0 => ⟨fun h1 => ?_, fun h1 => ⟨fun h2 => ?_, fun h2 => ?_⟩⟩⟩
    · exact fin _ _ _ _ _ (by rw [e0 h0]) (by rw [e0 h0]) (by rw [e0 h0]) (by rw [e0 h0])
    · exact fin _ _ _ _ _ (by rw [e1 h0 h1]) (by rw [e1 h0 h1]) (by rw [e1 h0 h1]) (by rw [e1 h0 h1])
    · exact fin _ _ _ _ _ (by rw [e2 h0 h1 h2]) (by rw [e2 h0 h1 h2]) (by rw [e2 h0 h1 h2]) (by rw [e2 h0 h1 h2])
    · exact fin _ _ _ _ _ (by rw [e3 h0 h1 h2]) (by rw [e3 h0 h1 h2]) (by rw [e3 h0 h1 h2]) (by rw [e3 h0 h1 h2])
theorem slW_snoc (l : List O4) (x : O4) : slW (l ++ [x]) = .slice (.own 0 0 0 4) (Cs.of (l ++ [x])).k.length none := by cases l <;> rfl
theorem slBs_snoc (l : List O4) (x : O4) : slBs (l ++ [x]) = [(Cs.of (l ++ [x])).blk] := by cases l <;> rfl
theorem sl_end {U : Nat → List Int} {t : Nat} {i : Nat} (hi : ¬ (i < (U t).length ∧ i < 4)) {l : List O4} :
    Takes Try.prog (tabU U) ra base 0 (codeOf 18 (false :: pSl)) (mkT 63 (slIns ⟨false, t, (U t).length⟩ (slW l) (i : Int))) (hp 0 (slBs l)) fun y => y = (.exit 0, mkT 63 [(3, slW l)], hp 0 (slBs l)) := by
  by_cases h1 : i < (U t).length
  · have c1 : (i : Int) < ((U t).length : Int) := by omega
    have c2 : ¬ (i : Int) < 4 := by omega
    cases l with
    | nil =>
      refine takes_of_tree (tabU_plain U) (W_ok noS_ok noL_ok) (.inr (by kernel_rfl)) (hp_below _) (sl_0 U t (U t).length i) ?_
      simp only [Tree.holds, rf_eq, c1, c2, decide_true, decide_false, Bool.true_eq_false, Bool.false_eq_true, false_implies, true_implies, and_true, true_and]
      rfl
    | cons z l =>
      refine takes_of_tree (tabU_plain U) (W_ok noS_ok noL_ok) (.inr (by kernel_rfl)) (hp_below _) (sl_1 U t (U t).length i (z :: l)) ?_
      simp only [Tree.holds, rf_eq, c1, c2, decide_true, decide_false, Bool.true_eq_false, Bool.false_eq_true, false_implies, true_implies, and_true, true_and]
      rfl
  · have c1 : ¬ (i : Int) < ((U t).length : Int) := by omega
    cases l with
    | nil =>
      refine takes_of_tree (tabU_plain U) (W_ok noS_ok noL_ok) (.inr (by kernel_rfl)) (hp_below _) (sl_0 U t (U t).length i) ?_
      simp only [Tree.holds, rf_eq, c1, decide_true, decide_false, Bool.true_eq_false, Bool.false_eq_true, false_implies, true_implies, and_true, true_and]
      rfl
    | cons z l =>
      refine takes_of_tree (tabU_plain U) (W_ok noS_ok noL_ok) (.inr (by kernel_rfl)) (hp_below _) (sl_1 U t (U t).length i (z :: l)) ?_
      simp only [Tree.holds, rf_eq, c1, decide_true, decide_false, Bool.true_eq_false, Bool.false_eq_true, false_implies, true_implies, and_true, true_and]
      rfl
theorem take_snoc {l : List Int} {i : Nat} (h : i < l.length) : (l.take i).map slOp ++ [slOp (l.getD i 0)] = (l.take (i + 1)).map slOp := by
  have : l.take (i + 1) = l.take i ++ [l[i]] := by rw [List.take_add_one, List.getElem?_eq_getElem h]; rfl
  rw [this, List.map_append, getD_at h]; rfl
theorem sl_loop {U : Nat → List Int} (hU : Bytes U) (t : Nat) :
    Takes Try.prog (tabU U) ra base 0 (.loop (codeOf 18 (false :: pSl))) (mkT 63 (slIns ⟨false, t, (U t).length⟩ .nils 0)) (hp 0 []) fun y => y = (.exit 0, mkT 63 [(3, slW (slL (U t)))], hp 0 (slBs (slL (U t)))) := by
  refine takes_loop (fun j ts hh => ∃ i : Nat, i ≤ 4 ∧ i ≤ (U t).length ∧ i + j = 5 ∧ ts = mkT 63 (slIns ⟨false, t, (U t).length⟩ (slW (((U t).take i).map slOp)) (i : Int)) ∧ hh = hp 0 (slBs (((U t).take i).map slOp))) ?_ ?_ (j := 5) ⟨0, by omega, Nat.zero_le _, rfl, rfl, rfl⟩
  · rintro ts hh ⟨i, h1, h2, h3, _⟩; omega
  · rintro j ts hh ⟨i, h1, h2, h3, rfl, rfl⟩
    by_cases hi : i < (U t).length ∧ i < 4
    · have hl : (((U t).take i).map slOp).length ≤ 100 := by simp only [List.length_map, List.length_take]; omega
      refine (sl_round hU hi.1 hi.2 hl).mono ?_
      rintro y rfl
      refine ⟨i + 1, by omega, by omega, by omega, ?_, ?_⟩
      · show mkT 63 (slIns _ _ _) = _
        rw [← take_snoc hi.1, slW_snoc]
      · show hp 0 _ = _
        rw [← take_snoc hi.1, slBs_snoc]
    · refine (sl_end hi).mono ?_
      rintro y rfl
      have : ((U t).take i).map slOp = slL (U t) := by
        rw [slL]
        by_cases h4 : i = 4
        · rw [h4]
        · rw [List.take_of_length_le (by omega), List.take_of_length_le (by omega)]
      rw [this]; rfl
theorem slT_ok {U : Nat → List Int} (hU : Bytes U) : ToldsOK Try.prog (tabU U) ra base 0 (slT U) := by
  refine sumT_ok noT_ok rfl (toldR_ok (c := .loop (codeOf 18 (false :: pSl))) (by kernel_rfl) fun x hx => ?_)
  obtain ⟨b, t, n⟩ := x
  have hn : n = (Vi.l U ⟨b, t, n⟩).length := of_decide_eq_true hx
  cases b with
  | true =>
    have hn : n = 0 := hn
    subst hn
    refine takes_loop (fun j ts hh => j = 1 ∧ ts = mkT 63 (slIns ⟨true, 0, 0⟩ .nils 0) ∧ hh = hp 0 []) ?_ ?_ (j := 1) ⟨rfl, rfl, rfl⟩
    · rintro ts hh ⟨h1, _⟩; cases h1
    · rintro j ts hh ⟨h1, rfl, rfl⟩
      refine takes_of_tree (tabU_plain U) (W_ok noS_ok noL_ok) (.inr (by kernel_rfl)) (hp_below _) (sl_n U) ?_
      simp only [Tree.holds]
      exact .inr ⟨(), rfl, rfl⟩
  | false =>
    have hn : n = (U t).length := hn
    subst hn
    refine (sl_loop hU t).mono fun y hy => ?_
    cases hl : slL (U t) with
    | nil =>
      rw [hl] at hy
      refine .inr ⟨(), ?_, hy⟩
      show U t = []
      cases hu : U t with
      | nil => rfl
      | cons a r => rw [hu] at hl; simp [slL] at hl
    | cons z r =>
      rw [hl] at hy
      exact .inl ⟨slL (U t), ⟨rfl, by rw [hl]; simp⟩, by rw [hl]; exact hy⟩
theorem slL_nil {l : List Int} : slL l = [] ↔ l = [] := by
  cases l <;> simp [slL]
theorem stateless_gives {U : Nat → List Int} (hU : Bytes U) {x : Vi} (hx : okVi U x = true) : Gives Try.prog (tabU U) ra base 0 18 [x.v] (hp 0 []) fun v h' => (x.l U = [] ∧ v = .nils ∧ h' = hp 0 []) ∨ (x.l U ≠ [] ∧ v = .slice (.own 0 0 0 4) (slL (x.l U)).length none ∧ h' = hp 0 [opsB (slL (x.l U))]) := by
  have hx' := hx
  obtain ⟨b, t, n⟩ := x
  have hn : n = (Vi.l U ⟨b, t, n⟩).length := of_decide_eq_true hx
  have key : ∀ l : List O4, l = slL (Vi.l U ⟨b, t, n⟩) ∧ l ≠ [] → Vi.l U ⟨b, t, n⟩ ≠ [] ∧ (AVal.slice (.own 0 0 0 4) (k4 l).length none) = .slice (.own 0 0 0 4) (slL (Vi.l U ⟨b, t, n⟩)).length none ∧ hp 0 [(Cs.of l).blk] = hp 0 [opsB (slL (Vi.l U ⟨b, t, n⟩))] := by
    rintro l ⟨rfl, hne⟩
    refine ⟨fun h => hne (slL_nil.2 h), by rw [k4_length], ?_⟩
    show hp 0 [Blk.segs [⟨(k4 (slL _)).length, 4, _⟩]] = _
    rw [k4_length]; rfl
  cases b with
  | true =>
    have hn : n = 0 := hn
    subst hn
    refine gives_of_treeQ (tabU_plain U) (W_ok noS_ok noL_ok) (slT_ok hU) (hp_below _) (statelessn U) ?_
    simp only [TreeQ.holds]
    exact ⟨fun l hl => ⟨_, rfl, .inr (key l hl)⟩, fun _ hl => ⟨_, rfl, .inl ⟨hl, rfl, rfl⟩⟩⟩
  | false =>
    refine gives_of_treeQ (tabU_plain U) (W_ok noS_ok noL_ok) (slT_ok hU) (hp_below _) (statelesss U t n) ?_
    simp only [TreeQ.holds, rf_eq, decide_true, Bool.and_self, Bool.and_true, Bool.true_and, true_and, hx', show Nat.beq t t = true from Nat.beq_refl t]
    exact ⟨fun l hl => ⟨_, rfl, .inr (key l hl)⟩, fun _ hl => ⟨_, rfl, .inl ⟨hl, rfl, rfl⟩⟩⟩
end
end Go.Proofs.Ytompijagcjjamaa

namespace Go.Proofs.Ytompijagcjjamaa
open Ab
structure Dr where
  x0 : Vi
  x1 : Vi
  x2 : Vi
  a : Int
  b : Int
  t : Bool
  la : Int
  ep : Int
def Dr.v (x : Dr) : AVal := .agg [x.x0.v, x.x1.v, x.x2.v, .int .u8 x.a, .int .u8 x.b, .bool x.t, .int .u16 x.la, .int .u16 x.ep]
def okId (i : Nat) (x : Vi) : Bool := match x.b with
  | true => true
  | false => decide (x.t = i)
def Dr.ok (U : Nat → List Int) (x : Dr) : Bool := okId 0 x.x0 && (okId 1 x.x1 && (okId 2 x.x2 && (okVi U x.x0 && (okVi U x.x1 && (okVi U x.x2 && (decide (0 ≤ x.a) && (decide (x.a < 256) && (decide (0 ≤ x.b) && (decide (x.b < 256) && (decide (0 ≤ x.la) && (decide (x.la < 65536) && (decide (0 ≤ x.ep) && decide (x.ep < 65536)))))))))))))
def Dr.pl (U : Nat → List Int) (x : Dr) : Pl := ⟨slL (x.x0.l U), stOp x.a, slL (x.x1.l U), stOp x.b, slL (x.x2.l U), x.la, 1 + x.ep⟩
def Dr.is (U : Nat → List Int) (h : Sh) (x : Dr) : Bool := decide (viNil U x.x0 = h.e) && (decide (viNil U x.x1 = h.f) && (decide (x.t = h.t) && decide (viNil U x.x2 = h.u)))
def drD (U : Nat → List Int) (h : Sh) : CDeal Dr := ⟨fun x => [x.v], fun _ => [], fun x => x.ok U && x.is U h, fun x => (x.pl U).v h, fun x => (x.pl U).blks h⟩
end Go.Proofs.Ytompijagcjjamaa

namespace Go.Proofs.Ytompijagcjjamaa
open Ab
theorem drsss (U : Nat → List Int) (n0 n1 n2 : Nat) (a b : Int) (t : Bool) (la ep : Int) : ((callB Try.prog (tabU U) (SD U) (W (tabU U) (SD U) noL) 6 [Dr.v ⟨⟨false, 0, n0⟩, ⟨false, 1, n1⟩, ⟨false, 2, n2⟩, a, b, t, la, ep⟩]).full ⟨hp 0 [], 0, [], []⟩ leafV).take 0 (.x (.c (.n (.n (.c (.c (.n (.n (.x (.c (.n (.n (cs 4 (.x (.c (.n (.n (.x (.c (.n (.n (cs 5 (.leaf [6] 1))))) (.c (.n (.n (cs 5 (.leaf [7, 5] 1))))))))) (.leaf [4] 1)))))) (.c (.n (.n (cs 4 (.x (.c (.n (.n (.x (.c (.n (.n (cs 5 (.leaf [7, 3] 1))))) (.c (.n (.n (cs 5 (.leaf [8, 3, 6] 1))))))))) (.leaf [5, 3] 1)))))))))))))) (.c (.n (.n (.c (.c (.n (.n (.x (.c (.n (.n (cs 4 (.x (.c (.n (.n (.x (.c (.n (.n (cs 5 (.leaf [2, 7] 1))))) (.c (.n (.n (cs 5 (.leaf [2, 8, 6] 1))))))))) (.leaf [2, 5] 1)))))) (.c (.n (.n (cs 4 (.x (.c (.n (.n (.x (.c (.n (.n (cs 5 (.leaf [2, 8, 4] 1))))) (.c (.n (.n (cs 5 (.leaf [2, 9, 4, 7] 1))))))))) (.leaf [2, 6, 4] 1))))))))))))))) =
(let i1 := (slL (Vi.l U { b := false, t := 1, n := n1 }))
let i0 : Blk := (.segs [{ n := List.length i1, st := 4, cols := [.int .i64 (k4 i1), .int .i64 (a4 i1), .int .i64 (b4 i1), .int .i64 (g4 i1)] }])
let u1 := (slL (Vi.l U { b := false, t := 0, n := n0 }))
let j0 : Blk := (.segs [{ n := List.length u1, st := 4, cols := [.int .i64 (k4 u1), .int .i64 (a4 u1), .int .i64 (b4 u1), .int .i64 (g4 u1)] }])
let m0 := (Ytompijagcjjamaa.stOp a)
let j1 := (slL (Vi.l U { b := false, t := 2, n := n2 }))
let u0 : Blk := (.segs [{ n := List.length j1, st := 4, cols := [.int .i64 (k4 j1), .int .i64 (a4 j1), .int .i64 (b4 j1), .int .i64 (g4 j1)] }])
let u3 := (Ytompijagcjjamaa.stOp b)
let j2 := (List.take 1 (List.drop 0 [O4.k m0]))
let v0 := (List.take 1 (List.drop 0 j2) ++ List.take 1 (List.drop 0 [O4.k u3]))
let m2 := (List.take 1 (List.drop 0 [O4.a m0]))
let w0 := (List.take 1 (List.drop 0 m2) ++ List.take 1 (List.drop 0 [O4.a u3]))
let u2 := (List.take 1 (List.drop 0 [O4.b m0]))
let x0 := (List.take 1 (List.drop 0 u2) ++ List.take 1 (List.drop 0 [O4.b u3]))
let v2 := (List.take 1 (List.drop 0 [O4.g m0]))
let z0 := (List.take 1 (List.drop 0 v2) ++ List.take 1 (List.drop 0 [O4.g u3]))
let x2 := (wr .i64 (1 + wr .i64 ep))
let q0 : List (Nat × AVal) := [(0, .agg [.slice (.own 0 0 0 4) (List.length u1) none, .slice (.own 1 0 0 5) 2 none, .int .i64 (wr .i64 la), .int .i64 x2])]
let m1 : List (Nat × AVal) := [(0, .agg [.nils, .slice (.own 0 0 0 5) 2 none, .int .i64 (wr .i64 la), .int .i64 x2])]
let v1 := (okVi U { b := false, t := 2, n := n2 } && !viNil U { b := false, t := 2, n := n2 })
let w1 := (okVi U { b := false, t := 2, n := n2 } && viNil U { b := false, t := 2, n := n2 })
let x1 : Blk := (.segs [⟨1, 5, [.int .i64 j2, .int .i64 m2, .int .i64 u2, .int .i64 v2, .nilc 1]⟩])
let z1 : Bool := (rf n2 && true && true && true)
let q1 : List (Nat × AVal) := [(0, .agg [.slice (.own 0 0 0 4) (List.length u1) none, .slice (.own 1 0 0 5) 1 none, .int .i64 (wr .i64 la), .int .i64 x2])]
let i2 := (viNil U { b := false, t := 2, n := n2 })
let w2 : Bool := (decide (0 ≤ b) && decide (b < 256))
let z2 : Bool := (rf n1 && true && true && true)
let q2 : Blk := (.segs [⟨2, 5, [.int .i64 v0, .int .i64 w0, .int .i64 x0, .int .i64 z0, .nilc 2]⟩])
let i3 := (okVi U { b := false, t := 1, n := n1 } && !viNil U { b := false, t := 1, n := n1 })
let j3 := (okVi U { b := false, t := 1, n := n1 } && viNil U { b := false, t := 1, n := n1 })
let m3 := (List.length i1)
let v3 : List (Nat × AVal) := [(0, .agg [.nils, .slice (.own 0 0 0 5) 1 none, .int .i64 (wr .i64 la), .int .i64 x2])]
let w3 : Bool := (rf b && true && true)
let x3 := (List.length j1)
(.br (viNil U { b := false, t := 0, n := n0 }) (.need (rf n0 && true && true && true) (.need (okVi U { b := false, t := 0, n := n0 } && viNil U { b := false, t := 0, n := n0 }) (.need (rf a && true && true) (.need (decide (0 ≤ a) && decide (a < 256)) (.br (viNil U { b := false, t := 1, n := n1 }) (.need z2 (.need j3 (.br (t) (.need w3 (.need w2 (.br i2 (.need z1 (.need w1 (.leaf (.ret, mkT 1 m1, [(0, some q2)])))) (.need z1 (.need v1 (.leaf (.ret, mkT 1 m1, [(0, some (.segs [{ n := 2, st := 5, cols := [.int .i64 v0, .int .i64 w0, .int .i64 x0, .int .i64 z0, .val [.nils, .slice (.own 1 0 0 4) x3 none]] }])), (1, some u0)]))))))) (.leaf (.ret, mkT 1 v3, [(0, some x1)]))))) (.need z2 (.need i3 (.br (t) (.need w3 (.need w2 (.br i2 (.need z1 (.need w1 (.leaf (.ret, mkT 1 m1, [(0, some (.segs [{ n := 2, st := 5, cols := [.int .i64 v0, .int .i64 w0, .int .i64 x0, .int .i64 z0, .val [.slice (.own 1 0 0 4) m3 none, .nils]] }])), (1, some i0)])))) (.need z1 (.need v1 (.leaf (.ret, mkT 1 m1, [(0, some (.segs [{ n := 2, st := 5, cols := [.int .i64 v0, .int .i64 w0, .int .i64 x0, .int .i64 z0, .val [.slice (.own 1 0 0 4) m3 none, .slice (.own 2 0 0 4) x3 none]] }])), (1, some i0), (2, some u0)]))))))) (.leaf (.ret, mkT 1 v3, [(0, some (.segs [{ n := 1, st := 5, cols := [.int .i64 j2, .int .i64 m2, .int .i64 u2, .int .i64 v2, .val [.slice (.own 1 0 0 4) m3 none]] }])), (1, some i0)])))))))))) (.need (rf n0 && true && true && true) (.need (okVi U { b := false, t := 0, n := n0 } && !viNil U { b := false, t := 0, n := n0 }) (.need (rf a && true && true) (.need (decide (0 ≤ a) && decide (a < 256)) (.br (viNil U { b := false, t := 1, n := n1 }) (.need z2 (.need j3 (.br (t) (.need w3 (.need w2 (.br i2 (.need z1 (.need w1 (.leaf (.ret, mkT 1 q0, [(0, some j0), (1, some q2)])))) (.need z1 (.need v1 (.leaf (.ret, mkT 1 q0, [(0, some j0), (1, some (.segs [{ n := 2, st := 5, cols := [.int .i64 v0, .int .i64 w0, .int .i64 x0, .int .i64 z0, .val [.nils, .slice (.own 2 0 0 4) x3 none]] }])), (2, some u0)]))))))) (.leaf (.ret, mkT 1 q1, [(0, some j0), (1, some x1)]))))) (.need z2 (.need i3 (.br (t) (.need w3 (.need w2 (.br i2 (.need z1 (.need w1 (.leaf (.ret, mkT 1 q0, [(0, some j0), (1, some (.segs [{ n := 2, st := 5, cols := [.int .i64 v0, .int .i64 w0, .int .i64 x0, .int .i64 z0, .val [.slice (.own 2 0 0 4) m3 none, .nils]] }])), (2, some i0)])))) (.need z1 (.need v1 (.leaf (.ret, mkT 1 q0, [(0, some j0), (1, some (.segs [{ n := 2, st := 5, cols := [.int .i64 v0, .int .i64 w0, .int .i64 x0, .int .i64 z0, .val [.slice (.own 2 0 0 4) m3 none, .slice (.own 3 0 0 4) x3 none]] }])), (2, some i0), (3, some u0)]))))))) (.leaf (.ret, mkT 1 q1, [(0, some j0), (1, some (.segs [{ n := 1, st := 5, cols := [.int .i64 j2, .int .i64 m2, .int .i64 u2, .int .i64 v2, .val [.slice (.own 2 0 0 4) m3 none]] }])), (2, some i0)])))))))))))) := by kernel_rfl
theorem drnss (U : Nat → List Int) (n1 n2 : Nat) (a b : Int) (t : Bool) (la ep : Int) : ((callB Try.prog (tabU U) (SD U) (W (tabU U) (SD U) noL) 6 [Dr.v ⟨⟨true, 0, 0⟩, ⟨false, 1, n1⟩, ⟨false, 2, n2⟩, a, b, t, la, ep⟩]).full ⟨hp 0 [], 0, [], []⟩ leafV).take 0 (cs 6 (.n (.n (.x (.c (.n (.n (cs 4 (.x (.c (.n (.n (.x (.c (.n (.n (cs 5 (.leaf [6] 1))))) (.c (.n (.n (cs 5 (.leaf [7, 5] 1))))))))) (.leaf [4] 1)))))) (.c (.n (.n (cs 4 (.x (.c (.n (.n (.x (.c (.n (.n (cs 5 (.leaf [7, 3] 1))))) (.c (.n (.n (cs 5 (.leaf [8, 3, 6] 1))))))))) (.leaf [5, 3] 1)))))))))) =
(let i0 := (slL (Vi.l U { b := false, t := 1, n := n1 }))
let j0 := (Ytompijagcjjamaa.stOp a)
let m0 := (slL (Vi.l U { b := false, t := 2, n := n2 }))
let i2 := (Ytompijagcjjamaa.stOp b)
let w1 := (List.take 1 (List.drop 0 [O4.k j0]))
let u0 := (List.take 1 (List.drop 0 w1) ++ List.take 1 (List.drop 0 [O4.k i2]))
let x1 := (List.take 1 (List.drop 0 [O4.a j0]))
let v0 := (List.take 1 (List.drop 0 x1) ++ List.take 1 (List.drop 0 [O4.a i2]))
let z1 := (List.take 1 (List.drop 0 [O4.b j0]))
let w0 := (List.take 1 (List.drop 0 z1) ++ List.take 1 (List.drop 0 [O4.b i2]))
let q1 := (List.take 1 (List.drop 0 [O4.g j0]))
let x0 := (List.take 1 (List.drop 0 q1) ++ List.take 1 (List.drop 0 [O4.g i2]))
let z0 : List (Nat × AVal) := [(0, .agg [.nils, .slice (.own 0 0 0 5) 2 none, .int .i64 (wr .i64 la), .int .i64 (wr .i64 (1 + wr .i64 ep))])]
let q0 : Blk := (.segs [{ n := List.length i0, st := 4, cols := [.int .i64 (k4 i0), .int .i64 (a4 i0), .int .i64 (b4 i0), .int .i64 (g4 i0)] }])
let i1 : Blk := (.segs [{ n := List.length m0, st := 4, cols := [.int .i64 (k4 m0), .int .i64 (a4 m0), .int .i64 (b4 m0), .int .i64 (g4 m0)] }])
let j1 : List (Nat × AVal) := [(0, .agg [.nils, .slice (.own 0 0 0 5) 1 none, .int .i64 (wr .i64 la), .int .i64 (wr .i64 (1 + wr .i64 ep))])]
let m1 : Bool := (rf n2 && true && true && true)
let u1 := (okVi U { b := false, t := 2, n := n2 } && !viNil U { b := false, t := 2, n := n2 })
let v1 := (okVi U { b := false, t := 2, n := n2 } && viNil U { b := false, t := 2, n := n2 })
(.need (rf a && true && true) (.need (decide (0 ≤ a) && decide (a < 256)) (.br (viNil U { b := false, t := 1, n := n1 }) (.need (rf n1 && true && true && true) (.need (okVi U { b := false, t := 1, n := n1 } && viNil U { b := false, t := 1, n := n1 }) (.br (t) (.need (rf b && true && true) (.need (decide (0 ≤ b) && decide (b < 256)) (.br (viNil U { b := false, t := 2, n := n2 }) (.need m1 (.need v1 (.leaf (.ret, mkT 1 z0, [(0, some (.segs [⟨2, 5, [.int .i64 u0, .int .i64 v0, .int .i64 w0, .int .i64 x0, .nilc 2]⟩]))])))) (.need m1 (.need u1 (.leaf (.ret, mkT 1 z0, [(0, some (.segs [{ n := 2, st := 5, cols := [.int .i64 u0, .int .i64 v0, .int .i64 w0, .int .i64 x0, .val [.nils, .slice (.own 1 0 0 4) (List.length m0) none]] }])), (1, some i1)]))))))) (.leaf (.ret, mkT 1 j1, [(0, some (.segs [⟨1, 5, [.int .i64 w1, .int .i64 x1, .int .i64 z1, .int .i64 q1, .nilc 1]⟩]))]))))) (.need (rf n1 && true && true && true) (.need (okVi U { b := false, t := 1, n := n1 } && !viNil U { b := false, t := 1, n := n1 }) (.br (t) (.need (rf b && true && true) (.need (decide (0 ≤ b) && decide (b < 256)) (.br (viNil U { b := false, t := 2, n := n2 }) (.need m1 (.need v1 (.leaf (.ret, mkT 1 z0, [(0, some (.segs [{ n := 2, st := 5, cols := [.int .i64 u0, .int .i64 v0, .int .i64 w0, .int .i64 x0, .val [.slice (.own 1 0 0 4) (List.length i0) none, .nils]] }])), (1, some q0)])))) (.need m1 (.need u1 (.leaf (.ret, mkT 1 z0, [(0, some (.segs [{ n := 2, st := 5, cols := [.int .i64 u0, .int .i64 v0, .int .i64 w0, .int .i64 x0, .val [.slice (.own 1 0 0 4) (List.length i0) none, .slice (.own 2 0 0 4) (List.length m0) none]] }])), (1, some q0), (2, some i1)]))))))) (.leaf (.ret, mkT 1 j1, [(0, some (.segs [{ n := 1, st := 5, cols := [.int .i64 w1, .int .i64 x1, .int .i64 z1, .int .i64 q1, .val [.slice (.own 1 0 0 4) (List.length i0) none]] }])), (1, some q0)]))))))))) := by kernel_rfl
theorem drsns (U : Nat → List Int) (n0 n2 : Nat) (a b : Int) (t : Bool) (la ep : Int) : ((callB Try.prog (tabU U) (SD U) (W (tabU U) (SD U) noL) 6 [Dr.v ⟨⟨false, 0, n0⟩, ⟨true, 0, 0⟩, ⟨false, 2, n2⟩, a, b, t, la, ep⟩]).full ⟨hp 0 [], 0, [], []⟩ leafV).take 0 (.x (.c (.n (.n (.c (.c (.n (.n (cs 8 (.x (.c (.n (.n (.x (.c (.n (.n (cs 5 (.leaf [6] 1))))) (.c (.n (.n (cs 5 (.leaf [7, 5] 1))))))))) (.leaf [4] 1)))))))))) (.c (.n (.n (.c (.c (.n (.n (cs 8 (.x (.c (.n (.n (.x (.c (.n (.n (cs 5 (.leaf [2, 7] 1))))) (.c (.n (.n (cs 5 (.leaf [2, 8, 6] 1))))))))) (.leaf [2, 5] 1))))))))))) =
(let i0 := (slL (Vi.l U { b := false, t := 0, n := n0 }))
let u0 := (Ytompijagcjjamaa.stOp a)
let v0 := (Ytompijagcjjamaa.stOp b)
let i1 := (List.take 1 (List.drop 0 (List.take 1 (List.drop 0 [O4.b u0]))) ++ List.take 1 (List.drop 0 [O4.b v0]))
let j1 := (List.take 1 (List.drop 0 (List.take 1 (List.drop 0 [O4.g u0]))) ++ List.take 1 (List.drop 0 [O4.g v0]))
let q0 := (List.take 1 (List.drop 0 (List.take 1 (List.drop 0 [O4.a u0]))) ++ List.take 1 (List.drop 0 [O4.a v0]))
let z0 := (List.take 1 (List.drop 0 (List.take 1 (List.drop 0 [O4.k u0]))) ++ List.take 1 (List.drop 0 [O4.k v0]))
let j0 : Blk := (.segs [⟨2, 5, [.int .i64 z0, .int .i64 q0, .int .i64 i1, .int .i64 j1, .nilc 2]⟩])
let m0 := (slL (Vi.l U { b := false, t := 2, n := n2 }))
let w0 : Blk := (.segs [{ n := List.length i0, st := 4, cols := [.int .i64 (k4 i0), .int .i64 (a4 i0), .int .i64 (b4 i0), .int .i64 (g4 i0)] }])
let x0 : Blk := (.segs [⟨1, 5, [.int .i64 (List.take 1 (List.drop 0 [O4.k u0])), .int .i64 (List.take 1 (List.drop 0 [O4.a u0])), .int .i64 (List.take 1 (List.drop 0 [O4.b u0])), .int .i64 (List.take 1 (List.drop 0 [O4.g u0])), .nilc 1]⟩])
let v1 := (wr .i64 (1 + wr .i64 ep))
let m1 : List (Nat × AVal) := [(0, .agg [.slice (.own 0 0 0 4) (List.length i0) none, .slice (.own 1 0 0 5) 2 none, .int .i64 (wr .i64 la), .int .i64 v1])]
let u1 : Blk := (.segs [{ n := List.length m0, st := 4, cols := [.int .i64 (k4 m0), .int .i64 (a4 m0), .int .i64 (b4 m0), .int .i64 (g4 m0)] }])
let w1 : Bool := (rf n2 && true && true && true)
let x1 := (okVi U { b := false, t := 2, n := n2 } && !viNil U { b := false, t := 2, n := n2 })
let z1 := (okVi U { b := false, t := 2, n := n2 } && viNil U { b := false, t := 2, n := n2 })
let q1 : List (Nat × AVal) := [(0, .agg [.nils, .slice (.own 0 0 0 5) 2 none, .int .i64 (wr .i64 la), .int .i64 v1])]
(.br (viNil U { b := false, t := 0, n := n0 }) (.need (rf n0 && true && true && true) (.need (okVi U { b := false, t := 0, n := n0 } && viNil U { b := false, t := 0, n := n0 }) (.need (rf a && true && true) (.need (decide (0 ≤ a) && decide (a < 256)) (.br (t) (.need (rf b && true && true) (.need (decide (0 ≤ b) && decide (b < 256)) (.br (viNil U { b := false, t := 2, n := n2 }) (.need w1 (.need z1 (.leaf (.ret, mkT 1 q1, [(0, some j0)])))) (.need w1 (.need x1 (.leaf (.ret, mkT 1 q1, [(0, some (.segs [{ n := 2, st := 5, cols := [.int .i64 z0, .int .i64 q0, .int .i64 i1, .int .i64 j1, .val [.nils, .slice (.own 1 0 0 4) (List.length m0) none]] }])), (1, some u1)]))))))) (.leaf (.ret, mkT 1 [(0, .agg [.nils, .slice (.own 0 0 0 5) 1 none, .int .i64 (wr .i64 la), .int .i64 v1])], [(0, some x0)]))))))) (.need (rf n0 && true && true && true) (.need (okVi U { b := false, t := 0, n := n0 } && !viNil U { b := false, t := 0, n := n0 }) (.need (rf a && true && true) (.need (decide (0 ≤ a) && decide (a < 256)) (.br (t) (.need (rf b && true && true) (.need (decide (0 ≤ b) && decide (b < 256)) (.br (viNil U { b := false, t := 2, n := n2 }) (.need w1 (.need z1 (.leaf (.ret, mkT 1 m1, [(0, some w0), (1, some j0)])))) (.need w1 (.need x1 (.leaf (.ret, mkT 1 m1, [(0, some w0), (1, some (.segs [{ n := 2, st := 5, cols := [.int .i64 z0, .int .i64 q0, .int .i64 i1, .int .i64 j1, .val [.nils, .slice (.own 2 0 0 4) (List.length m0) none]] }])), (2, some u1)]))))))) (.leaf (.ret, mkT 1 [(0, .agg [.slice (.own 0 0 0 4) (List.length i0) none, .slice (.own 1 0 0 5) 1 none, .int .i64 (wr .i64 la), .int .i64 v1])], [(0, some w0), (1, some x0)]))))))))) := by kernel_rfl
theorem drnns (U : Nat → List Int) (n2 : Nat) (a b : Int) (t : Bool) (la ep : Int) : ((callB Try.prog (tabU U) (SD U) (W (tabU U) (SD U) noL) 6 [Dr.v ⟨⟨true, 0, 0⟩, ⟨true, 0, 0⟩, ⟨false, 2, n2⟩, a, b, t, la, ep⟩]).full ⟨hp 0 [], 0, [], []⟩ leafV).take 0 (cs 6 (.n (.n (cs 8 (.x (.c (.n (.n (.x (.c (.n (.n (cs 5 (.leaf [6] 1))))) (.c (.n (.n (cs 5 (.leaf [7, 5] 1))))))))) (.leaf [4] 1)))))) =
(let i0 := (Ytompijagcjjamaa.stOp a)
let j0 := (slL (Vi.l U { b := false, t := 2, n := n2 }))
let m0 := (Ytompijagcjjamaa.stOp b)
let u0 := (List.take 1 (List.drop 0 (List.take 1 (List.drop 0 [O4.k i0]))) ++ List.take 1 (List.drop 0 [O4.k m0]))
let v0 := (List.take 1 (List.drop 0 (List.take 1 (List.drop 0 [O4.a i0]))) ++ List.take 1 (List.drop 0 [O4.a m0]))
let w0 := (List.take 1 (List.drop 0 (List.take 1 (List.drop 0 [O4.b i0]))) ++ List.take 1 (List.drop 0 [O4.b m0]))
let x0 := (List.take 1 (List.drop 0 (List.take 1 (List.drop 0 [O4.g i0]))) ++ List.take 1 (List.drop 0 [O4.g m0]))
let z0 : List (Nat × AVal) := [(0, .agg [.nils, .slice (.own 0 0 0 5) 2 none, .int .i64 (wr .i64 la), .int .i64 (wr .i64 (1 + wr .i64 ep))])]
(.need (rf a && true && true) (.need (decide (0 ≤ a) && decide (a < 256)) (.br (t) (.need (rf b && true && true) (.need (decide (0 ≤ b) && decide (b < 256)) (.br (viNil U { b := false, t := 2, n := n2 }) (.need (rf n2 && true && true && true) (.need (okVi U { b := false, t := 2, n := n2 } && viNil U { b := false, t := 2, n := n2 }) (.leaf (.ret, mkT 1 z0, [(0, some (.segs [⟨2, 5, [.int .i64 u0, .int .i64 v0, .int .i64 w0, .int .i64 x0, .nilc 2]⟩]))])))) (.need (rf n2 && true && true && true) (.need (okVi U { b := false, t := 2, n := n2 } && !viNil U { b := false, t := 2, n := n2 }) (.leaf (.ret, mkT 1 z0, [(0, some (.segs [{ n := 2, st := 5, cols := [.int .i64 u0, .int .i64 v0, .int .i64 w0, .int .i64 x0, .val [.nils, .slice (.own 1 0 0 4) (List.length j0) none]] }])), (1, some (.segs [{ n := List.length j0, st := 4, cols := [.int .i64 (k4 j0), .int .i64 (a4 j0), .int .i64 (b4 j0), .int .i64 (g4 j0)] }]))]))))))) (.leaf (.ret, mkT 1 [(0, .agg [.nils, .slice (.own 0 0 0 5) 1 none, .int .i64 (wr .i64 la), .int .i64 (wr .i64 (1 + wr .i64 ep))])], [(0, some (.segs [⟨1, 5, [.int .i64 (List.take 1 (List.drop 0 [O4.k i0])), .int .i64 (List.take 1 (List.drop 0 [O4.a i0])), .int .i64 (List.take 1 (List.drop 0 [O4.b i0])), .int .i64 (List.take 1 (List.drop 0 [O4.g i0])), .nilc 1]⟩]))])))))) := by kernel_rfl
theorem drssn (U : Nat → List Int) (n0 n1 : Nat) (a b : Int) (t : Bool) (la ep : Int) : ((callB Try.prog (tabU U) (SD U) (W (tabU U) (SD U) noL) 6 [Dr.v ⟨⟨false, 0, n0⟩, ⟨false, 1, n1⟩, ⟨true, 0, 0⟩, a, b, t, la, ep⟩]).full ⟨hp 0 [], 0, [], []⟩ leafV).take 0 (.x (.c (.n (.n (.c (.c (.n (.n (.x (.c (.n (.n (cs 4 (.x (.c (.n (.n (cs 9 (.leaf [6] 1))))) (.leaf [4] 1)))))) (.c (.n (.n (cs 4 (.x (.c (.n (.n (cs 9 (.leaf [7, 3] 1))))) (.leaf [5, 3] 1)))))))))))))) (.c (.n (.n (.c (.c (.n (.n (.x (.c (.n (.n (cs 4 (.x (.c (.n (.n (cs 9 (.leaf [2, 7] 1))))) (.leaf [2, 5] 1)))))) (.c (.n (.n (cs 4 (.x (.c (.n (.n (cs 9 (.leaf [2, 8, 4] 1))))) (.leaf [2, 6, 4] 1))))))))))))))) =
(let v0 := (slL (Vi.l U { b := false, t := 1, n := n1 }))
let i0 : Blk := (.segs [{ n := List.length v0, st := 4, cols := [.int .i64 (k4 v0), .int .i64 (a4 v0), .int .i64 (b4 v0), .int .i64 (g4 v0)] }])
let w0 := (slL (Vi.l U { b := false, t := 0, n := n0 }))
let j0 : Blk := (.segs [{ n := List.length w0, st := 4, cols := [.int .i64 (k4 w0), .int .i64 (a4 w0), .int .i64 (b4 w0), .int .i64 (g4 w0)] }])
let m0 := (Ytompijagcjjamaa.stOp a)
let x0 := (Ytompijagcjjamaa.stOp b)
let w1 := (List.take 1 (List.drop 0 [O4.a m0]))
let i1 := (List.take 1 (List.drop 0 w1) ++ List.take 1 (List.drop 0 [O4.a x0]))
let x1 := (List.take 1 (List.drop 0 [O4.b m0]))
let j1 := (List.take 1 (List.drop 0 x1) ++ List.take 1 (List.drop 0 [O4.b x0]))
let v1 := (List.take 1 (List.drop 0 [O4.k m0]))
let q0 := (List.take 1 (List.drop 0 v1) ++ List.take 1 (List.drop 0 [O4.k x0]))
let z1 := (List.take 1 (List.drop 0 [O4.g m0]))
let m1 := (List.take 1 (List.drop 0 z1) ++ List.take 1 (List.drop 0 [O4.g x0]))
let u0 : Blk := (.segs [⟨2, 5, [.int .i64 q0, .int .i64 i1, .int .i64 j1, .int .i64 m1, .nilc 2]⟩])
let z0 : Blk := (.segs [⟨1, 5, [.int .i64 v1, .int .i64 w1, .int .i64 x1, .int .i64 z1, .nilc 1]⟩])
let u1 := (wr .i64 (1 + wr .i64 ep))
let q1 : List (Nat × AVal) := [(0, .agg [.slice (.own 0 0 0 4) (List.length w0) none, .slice (.own 1 0 0 5) 2 none, .int .i64 (wr .i64 la), .int .i64 u1])]
let i2 : List (Nat × AVal) := [(0, .agg [.slice (.own 0 0 0 4) (List.length w0) none, .slice (.own 1 0 0 5) 1 none, .int .i64 (wr .i64 la), .int .i64 u1])]
let j2 : Bool := (decide (0 ≤ b) && decide (b < 256))
let m2 : Bool := (rf n1 && true && true && true)
let u2 := (okVi U { b := false, t := 1, n := n1 } && !viNil U { b := false, t := 1, n := n1 })
let v2 := (okVi U { b := false, t := 1, n := n1 } && viNil U { b := false, t := 1, n := n1 })
let w2 : List (Nat × AVal) := [(0, .agg [.nils, .slice (.own 0 0 0 5) 2 none, .int .i64 (wr .i64 la), .int .i64 u1])]
let x2 : List (Nat × AVal) := [(0, .agg [.nils, .slice (.own 0 0 0 5) 1 none, .int .i64 (wr .i64 la), .int .i64 u1])]
let z2 : Bool := (rf b && true && true)
let q2 := (List.length v0)
(.br (viNil U { b := false, t := 0, n := n0 }) (.need (rf n0 && true && true && true) (.need (okVi U { b := false, t := 0, n := n0 } && viNil U { b := false, t := 0, n := n0 }) (.need (rf a && true && true) (.need (decide (0 ≤ a) && decide (a < 256)) (.br (viNil U { b := false, t := 1, n := n1 }) (.need m2 (.need v2 (.br (t) (.need z2 (.need j2 (.leaf (.ret, mkT 1 w2, [(0, some u0)])))) (.leaf (.ret, mkT 1 x2, [(0, some z0)]))))) (.need m2 (.need u2 (.br (t) (.need z2 (.need j2 (.leaf (.ret, mkT 1 w2, [(0, some (.segs [{ n := 2, st := 5, cols := [.int .i64 q0, .int .i64 i1, .int .i64 j1, .int .i64 m1, .val [.slice (.own 1 0 0 4) q2 none, .nils]] }])), (1, some i0)])))) (.leaf (.ret, mkT 1 x2, [(0, some (.segs [{ n := 1, st := 5, cols := [.int .i64 v1, .int .i64 w1, .int .i64 x1, .int .i64 z1, .val [.slice (.own 1 0 0 4) q2 none]] }])), (1, some i0)])))))))))) (.need (rf n0 && true && true && true) (.need (okVi U { b := false, t := 0, n := n0 } && !viNil U { b := false, t := 0, n := n0 }) (.need (rf a && true && true) (.need (decide (0 ≤ a) && decide (a < 256)) (.br (viNil U { b := false, t := 1, n := n1 }) (.need m2 (.need v2 (.br (t) (.need z2 (.need j2 (.leaf (.ret, mkT 1 q1, [(0, some j0), (1, some u0)])))) (.leaf (.ret, mkT 1 i2, [(0, some j0), (1, some z0)]))))) (.need m2 (.need u2 (.br (t) (.need z2 (.need j2 (.leaf (.ret, mkT 1 q1, [(0, some j0), (1, some (.segs [{ n := 2, st := 5, cols := [.int .i64 q0, .int .i64 i1, .int .i64 j1, .int .i64 m1, .val [.slice (.own 2 0 0 4) q2 none, .nils]] }])), (2, some i0)])))) (.leaf (.ret, mkT 1 i2, [(0, some j0), (1, some (.segs [{ n := 1, st := 5, cols := [.int .i64 v1, .int .i64 w1, .int .i64 x1, .int .i64 z1, .val [.slice (.own 2 0 0 4) q2 none]] }])), (2, some i0)])))))))))))) := by kernel_rfl
theorem drnsn (U : Nat → List Int) (n1 : Nat) (a b : Int) (t : Bool) (la ep : Int) : ((callB Try.prog (tabU U) (SD U) (W (tabU U) (SD U) noL) 6 [Dr.v ⟨⟨true, 0, 0⟩, ⟨false, 1, n1⟩, ⟨true, 0, 0⟩, a, b, t, la, ep⟩]).full ⟨hp 0 [], 0, [], []⟩ leafV).take 0 (cs 6 (.n (.n (.x (.c (.n (.n (cs 4 (.x (.c (.n (.n (cs 9 (.leaf [6] 1))))) (.leaf [4] 1)))))) (.c (.n (.n (cs 4 (.x (.c (.n (.n (cs 9 (.leaf [7, 3] 1))))) (.leaf [5, 3] 1)))))))))) =
(let i0 := (slL (Vi.l U { b := false, t := 1, n := n1 }))
let j0 := (Ytompijagcjjamaa.stOp a)
let m0 := (Ytompijagcjjamaa.stOp b)
let u0 : Blk := (.segs [{ n := List.length i0, st := 4, cols := [.int .i64 (k4 i0), .int .i64 (a4 i0), .int .i64 (b4 i0), .int .i64 (g4 i0)] }])
let v0 := (List.take 1 (List.drop 0 [O4.k j0]))
let w0 := (List.take 1 (List.drop 0 [O4.a j0]))
let x0 := (List.take 1 (List.drop 0 [O4.b j0]))
let z0 := (List.take 1 (List.drop 0 [O4.g j0]))
let q0 : List (Nat × AVal) := [(0, .agg [.nils, .slice (.own 0 0 0 5) 2 none, .int .i64 (wr .i64 la), .int .i64 (wr .i64 (1 + wr .i64 ep))])]
let i1 : List (Nat × AVal) := [(0, .agg [.nils, .slice (.own 0 0 0 5) 1 none, .int .i64 (wr .i64 la), .int .i64 (wr .i64 (1 + wr .i64 ep))])]
let j1 := (List.take 1 (List.drop 0 v0) ++ List.take 1 (List.drop 0 [O4.k m0]))
let m1 := (List.take 1 (List.drop 0 w0) ++ List.take 1 (List.drop 0 [O4.a m0]))
let u1 := (List.take 1 (List.drop 0 x0) ++ List.take 1 (List.drop 0 [O4.b m0]))
let v1 := (List.take 1 (List.drop 0 z0) ++ List.take 1 (List.drop 0 [O4.g m0]))
(.need (rf a && true && true) (.need (decide (0 ≤ a) && decide (a < 256)) (.br (viNil U { b := false, t := 1, n := n1 }) (.need (rf n1 && true && true && true) (.need (okVi U { b := false, t := 1, n := n1 } && viNil U { b := false, t := 1, n := n1 }) (.br (t) (.need (rf b && true && true) (.need (decide (0 ≤ b) && decide (b < 256)) (.leaf (.ret, mkT 1 q0, [(0, some (.segs [⟨2, 5, [.int .i64 j1, .int .i64 m1, .int .i64 u1, .int .i64 v1, .nilc 2]⟩]))])))) (.leaf (.ret, mkT 1 i1, [(0, some (.segs [⟨1, 5, [.int .i64 v0, .int .i64 w0, .int .i64 x0, .int .i64 z0, .nilc 1]⟩]))]))))) (.need (rf n1 && true && true && true) (.need (okVi U { b := false, t := 1, n := n1 } && !viNil U { b := false, t := 1, n := n1 }) (.br (t) (.need (rf b && true && true) (.need (decide (0 ≤ b) && decide (b < 256)) (.leaf (.ret, mkT 1 q0, [(0, some (.segs [{ n := 2, st := 5, cols := [.int .i64 j1, .int .i64 m1, .int .i64 u1, .int .i64 v1, .val [.slice (.own 1 0 0 4) (List.length i0) none, .nils]] }])), (1, some u0)])))) (.leaf (.ret, mkT 1 i1, [(0, some (.segs [{ n := 1, st := 5, cols := [.int .i64 v0, .int .i64 w0, .int .i64 x0, .int .i64 z0, .val [.slice (.own 1 0 0 4) (List.length i0) none]] }])), (1, some u0)]))))))))) := by kernel_rfl
theorem drsnn (U : Nat → List Int) (n0 : Nat) (a b : Int) (t : Bool) (la ep : Int) : ((callB Try.prog (tabU U) (SD U) (W (tabU U) (SD U) noL) 6 [Dr.v ⟨⟨false, 0, n0⟩, ⟨true, 0, 0⟩, ⟨true, 0, 0⟩, a, b, t, la, ep⟩]).full ⟨hp 0 [], 0, [], []⟩ leafV).take 0 (.x (.c (.n (.n (.c (.c (.n (.n (cs 8 (.x (.c (.n (.n (cs 9 (.leaf [6] 1))))) (.leaf [4] 1)))))))))) (.c (.n (.n (.c (.c (.n (.n (cs 8 (.x (.c (.n (.n (cs 9 (.leaf [2, 7] 1))))) (.leaf [2, 5] 1))))))))))) =
(let u0 := (Ytompijagcjjamaa.stOp a)
let x0 := (Ytompijagcjjamaa.stOp b)
let i0 : Blk := (.segs [⟨2, 5, [.int .i64 (List.take 1 (List.drop 0 (List.take 1 (List.drop 0 [O4.k u0]))) ++ List.take 1 (List.drop 0 [O4.k x0])), .int .i64 (List.take 1 (List.drop 0 (List.take 1 (List.drop 0 [O4.a u0]))) ++ List.take 1 (List.drop 0 [O4.a x0])), .int .i64 (List.take 1 (List.drop 0 (List.take 1 (List.drop 0 [O4.b u0]))) ++ List.take 1 (List.drop 0 [O4.b x0])), .int .i64 (List.take 1 (List.drop 0 (List.take 1 (List.drop 0 [O4.g u0]))) ++ List.take 1 (List.drop 0 [O4.g x0])), .nilc 2]⟩])
let j0 := (slL (Vi.l U { b := false, t := 0, n := n0 }))
let m0 : Blk := (.segs [⟨1, 5, [.int .i64 (List.take 1 (List.drop 0 [O4.k u0])), .int .i64 (List.take 1 (List.drop 0 [O4.a u0])), .int .i64 (List.take 1 (List.drop 0 [O4.b u0])), .int .i64 (List.take 1 (List.drop 0 [O4.g u0])), .nilc 1]⟩])
let v0 : Blk := (.segs [{ n := List.length j0, st := 4, cols := [.int .i64 (k4 j0), .int .i64 (a4 j0), .int .i64 (b4 j0), .int .i64 (g4 j0)] }])
let w0 := (wr .i64 (1 + wr .i64 ep))
(.br (viNil U { b := false, t := 0, n := n0 }) (.need (rf n0 && true && true && true) (.need (okVi U { b := false, t := 0, n := n0 } && viNil U { b := false, t := 0, n := n0 }) (.need (rf a && true && true) (.need (decide (0 ≤ a) && decide (a < 256)) (.br (t) (.need (rf b && true && true) (.need (decide (0 ≤ b) && decide (b < 256)) (.leaf (.ret, mkT 1 [(0, .agg [.nils, .slice (.own 0 0 0 5) 2 none, .int .i64 (wr .i64 la), .int .i64 w0])], [(0, some i0)])))) (.leaf (.ret, mkT 1 [(0, .agg [.nils, .slice (.own 0 0 0 5) 1 none, .int .i64 (wr .i64 la), .int .i64 w0])], [(0, some m0)]))))))) (.need (rf n0 && true && true && true) (.need (okVi U { b := false, t := 0, n := n0 } && !viNil U { b := false, t := 0, n := n0 }) (.need (rf a && true && true) (.need (decide (0 ≤ a) && decide (a < 256)) (.br (t) (.need (rf b && true && true) (.need (decide (0 ≤ b) && decide (b < 256)) (.leaf (.ret, mkT 1 [(0, .agg [.slice (.own 0 0 0 4) (List.length j0) none, .slice (.own 1 0 0 5) 2 none, .int .i64 (wr .i64 la), .int .i64 w0])], [(0, some v0), (1, some i0)])))) (.leaf (.ret, mkT 1 [(0, .agg [.slice (.own 0 0 0 4) (List.length j0) none, .slice (.own 1 0 0 5) 1 none, .int .i64 (wr .i64 la), .int .i64 w0])], [(0, some v0), (1, some m0)]))))))))) := by kernel_rfl
theorem drnnn (U : Nat → List Int) (a b : Int) (t : Bool) (la ep : Int) : ((callB Try.prog (tabU U) (SD U) (W (tabU U) (SD U) noL) 6 [Dr.v ⟨⟨true, 0, 0⟩, ⟨true, 0, 0⟩, ⟨true, 0, 0⟩, a, b, t, la, ep⟩]).full ⟨hp 0 [], 0, [], []⟩ leafV).take 0 (cs 6 (.n (.n (cs 8 (.x (.c (.n (.n (cs 9 (.leaf [6] 1))))) (.leaf [4] 1)))))) =
(let i0 := (Ytompijagcjjamaa.stOp a)
let j0 := (Ytompijagcjjamaa.stOp b)
(.need (rf a && true && true) (.need (decide (0 ≤ a) && decide (a < 256)) (.br (t) (.need (rf b && true && true) (.need (decide (0 ≤ b) && decide (b < 256)) (.leaf (.ret, mkT 1 [(0, .agg [.nils, .slice (.own 0 0 0 5) 2 none, .int .i64 (wr .i64 la), .int .i64 (wr .i64 (1 + wr .i64 ep))])], [(0, some (.segs [⟨2, 5, [.int .i64 (List.take 1 (List.drop 0 (List.take 1 (List.drop 0 [O4.k i0]))) ++ List.take 1 (List.drop 0 [O4.k j0])), .int .i64 (List.take 1 (List.drop 0 (List.take 1 (List.drop 0 [O4.a i0]))) ++ List.take 1 (List.drop 0 [O4.a j0])), .int .i64 (List.take 1 (List.drop 0 (List.take 1 (List.drop 0 [O4.b i0]))) ++ List.take 1 (List.drop 0 [O4.b j0])), .int .i64 (List.take 1 (List.drop 0 (List.take 1 (List.drop 0 [O4.g i0]))) ++ List.take 1 (List.drop 0 [O4.g j0])), .nilc 2]⟩]))])))) (.leaf (.ret, mkT 1 [(0, .agg [.nils, .slice (.own 0 0 0 5) 1 none, .int .i64 (wr .i64 la), .int .i64 (wr .i64 (1 + wr .i64 ep))])], [(0, some (.segs [⟨1, 5, [.int .i64 (List.take 1 (List.drop 0 [O4.k i0])), .int .i64 (List.take 1 (List.drop 0 [O4.a i0])), .int .i64 (List.take 1 (List.drop 0 [O4.b i0])), .int .i64 (List.take 1 (List.drop 0 [O4.g i0])), .nilc 1]⟩]))])))))) := by kernel_rfl
end Go.Proofs.Ytompijagcjjamaa

namespace Go.Proofs.Ytompijagcjjamaa
open Ab
section
variable {ra : Nat → Nat → Nat × Nat} {base : Nat}
theorem SD_ok {U : Nat → List Int} (hU : Bytes U) : SumsOK Try.prog (tabU U) ra base (SD U) := by
  refine sumNG_deal (tabU_plain U) (sumG_deal (tabU_plain U) noS_ok ⟨_, Try.func19, by kernel_rfl⟩ fun x hx => ?_) ⟨_, Try.func18, by kernel_rfl⟩ (fun q hq => ?_) ?_
  · simp only [stD, Bool.and_eq_true, decide_eq_true_eq] at hx
    exact state_gives hx
  · simp only [List.mem_singleton] at hq
    subst hq
    intro x hx
    simp only [slCN, Bool.and_eq_true] at hx
    refine (stateless_gives hU hx.1).mono fun v h' hh => ?_
    rcases hh with ⟨_, h2, h3⟩ | ⟨h1, _⟩
    · exact ⟨h2, h3⟩
    · have h2 := hx.2
      simp only [viNil] at h2
      cases hl : x.l U with
      | nil => exact absurd hl h1
      | cons => rw [hl] at h2; cases h2
  · intro x hx
    simp only [slCO, Bool.and_eq_true, Bool.not_eq_true'] at hx
    refine (stateless_gives hU hx.1).mono fun v h' hh => ?_
    rcases hh with ⟨h1, _⟩ | ⟨_, h2, h3⟩
    · have h2 := hx.2
      simp only [viNil, h1] at h2
      cases h2
    · exact ⟨h2, h3⟩
theorem viNil_true (U : Nat → List Int) (t n : Nat) : viNil U ⟨true, t, n⟩ = true := rfl
theorem dr_sss {U : Nat → List Int} (hU : Bytes U) (h : Sh) {n0 n1 n2  : Nat} {a b la ep : Int} {t : Bool} (hx : ((drD U h).pre ⟨⟨false, 0, n0⟩, ⟨false, 1, n1⟩, ⟨false, 2, n2⟩, a, b, t, la, ep⟩) = true) :
    Gives Try.prog (tabU U) ra base 0 6 [Dr.v ⟨⟨false, 0, n0⟩, ⟨false, 1, n1⟩, ⟨false, 2, n2⟩, a, b, t, la, ep⟩] (hp 0 []) fun v h' => v = (Dr.pl U ⟨⟨false, 0, n0⟩, ⟨false, 1, n1⟩, ⟨false, 2, n2⟩, a, b, t, la, ep⟩).v h ∧ h' = hp 0 ((Dr.pl U ⟨⟨false, 0, n0⟩, ⟨false, 1, n1⟩, ⟨false, 2, n2⟩, a, b, t, la, ep⟩).blks h) := by
  simp only [drD, Dr.ok, Dr.is, Bool.and_eq_true, decide_eq_true_eq] at hx
  obtain ⟨⟨_, _, _, o0, o1, o2, a0, a1, c0, c1, l0, l1, p0, p1⟩, he, hf, ht, hu⟩ := hx
  have w1 : wr .i64 la = la := wr_in ⟨by omega, by omega⟩
  have w2 : wr .i64 ep = ep := wr_in ⟨by omega, by omega⟩
  have w3 : wr .i64 (1 + ep) = 1 + ep := wr_in ⟨by omega, by omega⟩
  obtain ⟨e, f, t', u⟩ := h
  simp only at he hf ht hu
  subst ht
  refine (gives_of_tree (tabU_plain U) (W_ok (SD_ok hU) noL_ok) (SD_ok hU) (hp_below _) (drsss U n0 n1 n2 a b t la ep) ?_).2
  cases e <;> cases f <;> cases u <;> cases t <;> (
    simp only [Tree.holds, rf_eq, he, hf, hu, o0, o1, o2, w1, w2, w3, a0, a1, c0, c1, viNil_true, decide_true, Bool.and_self, Bool.and_true, Bool.true_and, true_and, Bool.and_eq_true, decide_eq_true_eq, true_implies, Bool.true_eq_false, Bool.false_eq_true, false_implies, and_true, Bool.not_true, Bool.not_false]
    exact ⟨_, rfl, rfl, rfl⟩)
theorem dr_nss {U : Nat → List Int} (hU : Bytes U) (h : Sh) {n0 n1 n2 t0 : Nat} {a b la ep : Int} {t : Bool} (hx : ((drD U h).pre ⟨⟨true, t0, n0⟩, ⟨false, 1, n1⟩, ⟨false, 2, n2⟩, a, b, t, la, ep⟩) = true) :
    Gives Try.prog (tabU U) ra base 0 6 [Dr.v ⟨⟨true, t0, n0⟩, ⟨false, 1, n1⟩, ⟨false, 2, n2⟩, a, b, t, la, ep⟩] (hp 0 []) fun v h' => v = (Dr.pl U ⟨⟨true, t0, n0⟩, ⟨false, 1, n1⟩, ⟨false, 2, n2⟩, a, b, t, la, ep⟩).v h ∧ h' = hp 0 ((Dr.pl U ⟨⟨true, t0, n0⟩, ⟨false, 1, n1⟩, ⟨false, 2, n2⟩, a, b, t, la, ep⟩).blks h) := by
  simp only [drD, Dr.ok, Dr.is, Bool.and_eq_true, decide_eq_true_eq] at hx
  obtain ⟨⟨_, _, _, o0, o1, o2, a0, a1, c0, c1, l0, l1, p0, p1⟩, he, hf, ht, hu⟩ := hx
  have w1 : wr .i64 la = la := wr_in ⟨by omega, by omega⟩
  have w2 : wr .i64 ep = ep := wr_in ⟨by omega, by omega⟩
  have w3 : wr .i64 (1 + ep) = 1 + ep := wr_in ⟨by omega, by omega⟩
  obtain ⟨e, f, t', u⟩ := h
  simp only at he hf ht hu
  subst ht
  refine (gives_of_tree (tabU_plain U) (W_ok (SD_ok hU) noL_ok) (SD_ok hU) (hp_below _) (drnss U n1 n2 a b t la ep) ?_).2
  rw [viNil_true] at he
  subst he
  cases f <;> cases u <;> cases t <;> (
    simp only [Tree.holds, rf_eq, hf, hu, o1, o2, w1, w2, w3, a0, a1, c0, c1, viNil_true, decide_true, Bool.and_self, Bool.and_true, Bool.true_and, true_and, Bool.and_eq_true, decide_eq_true_eq, true_implies, Bool.true_eq_false, Bool.false_eq_true, false_implies, and_true, Bool.not_true, Bool.not_false]
    exact ⟨_, rfl, rfl, rfl⟩)
theorem dr_sns {U : Nat → List Int} (hU : Bytes U) (h : Sh) {n0 n1 n2 t1 : Nat} {a b la ep : Int} {t : Bool} (hx : ((drD U h).pre ⟨⟨false, 0, n0⟩, ⟨true, t1, n1⟩, ⟨false, 2, n2⟩, a, b, t, la, ep⟩) = true) :
    Gives Try.prog (tabU U) ra base 0 6 [Dr.v ⟨⟨false, 0, n0⟩, ⟨true, t1, n1⟩, ⟨false, 2, n2⟩, a, b, t, la, ep⟩] (hp 0 []) fun v h' => v = (Dr.pl U ⟨⟨false, 0, n0⟩, ⟨true, t1, n1⟩, ⟨false, 2, n2⟩, a, b, t, la, ep⟩).v h ∧ h' = hp 0 ((Dr.pl U ⟨⟨false, 0, n0⟩, ⟨true, t1, n1⟩, ⟨false, 2, n2⟩, a, b, t, la, ep⟩).blks h) := by
  simp only [drD, Dr.ok, Dr.is, Bool.and_eq_true, decide_eq_true_eq] at hx
  obtain ⟨⟨_, _, _, o0, o1, o2, a0, a1, c0, c1, l0, l1, p0, p1⟩, he, hf, ht, hu⟩ := hx
  have w1 : wr .i64 la = la := wr_in ⟨by omega, by omega⟩
  have w2 : wr .i64 ep = ep := wr_in ⟨by omega, by omega⟩
  have w3 : wr .i64 (1 + ep) = 1 + ep := wr_in ⟨by omega, by omega⟩
  obtain ⟨e, f, t', u⟩ := h
  simp only at he hf ht hu
  subst ht
  refine (gives_of_tree (tabU_plain U) (W_ok (SD_ok hU) noL_ok) (SD_ok hU) (hp_below _) (drsns U n0 n2 a b t la ep) ?_).2
  rw [viNil_true] at hf
  subst hf
  cases e <;> cases u <;> cases t <;> (
    simp only [Tree.holds, rf_eq, he, hu, o0, o2, w1, w2, w3, a0, a1, c0, c1, viNil_true, decide_true, Bool.and_self, Bool.and_true, Bool.true_and, true_and, Bool.and_eq_true, decide_eq_true_eq, true_implies, Bool.true_eq_false, Bool.false_eq_true, false_implies, and_true, Bool.not_true, Bool.not_false]
    exact ⟨_, rfl, rfl, rfl⟩)
theorem dr_nns {U : Nat → List Int} (hU : Bytes U) (h : Sh) {n0 n1 n2 t0 t1 : Nat} {a b la ep : Int} {t : Bool} (hx : ((drD U h).pre ⟨⟨true, t0, n0⟩, ⟨true, t1, n1⟩, ⟨false, 2, n2⟩, a, b, t, la, ep⟩) = true) :
    Gives Try.prog (tabU U) ra base 0 6 [Dr.v ⟨⟨true, t0, n0⟩, ⟨true, t1, n1⟩, ⟨false, 2, n2⟩, a, b, t, la, ep⟩] (hp 0 []) fun v h' => v = (Dr.pl U ⟨⟨true, t0, n0⟩, ⟨true, t1, n1⟩, ⟨false, 2, n2⟩, a, b, t, la, ep⟩).v h ∧ h' = hp 0 ((Dr.pl U ⟨⟨true, t0, n0⟩, ⟨true, t1, n1⟩, ⟨false, 2, n2⟩, a, b, t, la, ep⟩).blks h) := by
  simp only [drD, Dr.ok, Dr.is, Bool.and_eq_true, decide_eq_true_eq] at hx
  obtain ⟨⟨_, _, _, o0, o1, o2, a0, a1, c0, c1, l0, l1, p0, p1⟩, he, hf, ht, hu⟩ := hx
  have w1 : wr .i64 la = la := wr_in ⟨by omega, by omega⟩
  have w2 : wr .i64 ep = ep := wr_in ⟨by omega, by omega⟩
  have w3 : wr .i64 (1 + ep) = 1 + ep := wr_in ⟨by omega, by omega⟩
  obtain ⟨e, f, t', u⟩ := h
  simp only at he hf ht hu
  subst ht
  refine (gives_of_tree (tabU_plain U) (W_ok (SD_ok hU) noL_ok) (SD_ok hU) (hp_below _) (drnns U n2 a b t la ep) ?_).2
  rw [viNil_true] at he
  subst he
  rw [viNil_true] at hf
  subst hf
  cases u <;> cases t <;> (
    simp only [Tree.holds, rf_eq, hu, o2, w1, w2, w3, a0, a1, c0, c1, viNil_true, decide_true, Bool.and_self, Bool.and_true, Bool.true_and, true_and, Bool.and_eq_true, decide_eq_true_eq, true_implies, Bool.true_eq_false, Bool.false_eq_true, false_implies, and_true, Bool.not_true, Bool.not_false]
    exact ⟨_, rfl, rfl, rfl⟩)
theorem dr_ssn {U : Nat → List Int} (hU : Bytes U) (h : Sh) {n0 n1 n2 t2 : Nat} {a b la ep : Int} {t : Bool} (hx : ((drD U h).pre ⟨⟨false, 0, n0⟩, ⟨false, 1, n1⟩, ⟨true, t2, n2⟩, a, b, t, la, ep⟩) = true) :
    Gives Try.prog (tabU U) ra base 0 6 [Dr.v ⟨⟨false, 0, n0⟩, ⟨false, 1, n1⟩, ⟨true, t2, n2⟩, a, b, t, la, ep⟩] (hp 0 []) fun v h' => v = (Dr.pl U ⟨⟨false, 0, n0⟩, ⟨false, 1, n1⟩, ⟨true, t2, n2⟩, a, b, t, la, ep⟩).v h ∧ h' = hp 0 ((Dr.pl U ⟨⟨false, 0, n0⟩, ⟨false, 1, n1⟩, ⟨true, t2, n2⟩, a, b, t, la, ep⟩).blks h) := by
  simp only [drD, Dr.ok, Dr.is, Bool.and_eq_true, decide_eq_true_eq] at hx
  obtain ⟨⟨_, _, _, o0, o1, o2, a0, a1, c0, c1, l0, l1, p0, p1⟩, he, hf, ht, hu⟩ := hx
  have w1 : wr .i64 la = la := wr_in ⟨by omega, by omega⟩
  have w2 : wr .i64 ep = ep := wr_in ⟨by omega, by omega⟩
  have w3 : wr .i64 (1 + ep) = 1 + ep := wr_in ⟨by omega, by omega⟩
  obtain ⟨e, f, t', u⟩ := h
  simp only at he hf ht hu
  subst ht
  refine (gives_of_tree (tabU_plain U) (W_ok (SD_ok hU) noL_ok) (SD_ok hU) (hp_below _) (drssn U n0 n1 a b t la ep) ?_).2
  rw [viNil_true] at hu
  subst hu
  cases e <;> cases f <;> cases t <;> (
    simp only [Tree.holds, rf_eq, he, hf, o0, o1, w1, w2, w3, a0, a1, c0, c1, viNil_true, decide_true, Bool.and_self, Bool.and_true, Bool.true_and, true_and, Bool.and_eq_true, decide_eq_true_eq, true_implies, Bool.true_eq_false, Bool.false_eq_true, false_implies, and_true, Bool.not_true, Bool.not_false]
    exact ⟨_, rfl, rfl, rfl⟩)
theorem dr_nsn {U : Nat → List Int} (hU : Bytes U) (h : Sh) {n0 n1 n2 t0 t2 : Nat} {a b la ep : Int} {t : Bool} (hx : ((drD U h).pre ⟨⟨true, t0, n0⟩, ⟨false, 1, n1⟩, ⟨true, t2, n2⟩, a, b, t, la, ep⟩) = true) :
    Gives Try.prog (tabU U) ra base 0 6 [Dr.v ⟨⟨true, t0, n0⟩, ⟨false, 1, n1⟩, ⟨true, t2, n2⟩, a, b, t, la, ep⟩] (hp 0 []) fun v h' => v = (Dr.pl U ⟨⟨true, t0, n0⟩, ⟨false, 1, n1⟩, ⟨true, t2, n2⟩, a, b, t, la, ep⟩).v h ∧ h' = hp 0 ((Dr.pl U ⟨⟨true, t0, n0⟩, ⟨false, 1, n1⟩, ⟨true, t2, n2⟩, a, b, t, la, ep⟩).blks h) := by
  simp only [drD, Dr.ok, Dr.is, Bool.and_eq_true, decide_eq_true_eq] at hx
  obtain ⟨⟨_, _, _, o0, o1, o2, a0, a1, c0, c1, l0, l1, p0, p1⟩, he, hf, ht, hu⟩ := hx
  have w1 : wr .i64 la = la := wr_in ⟨by omega, by omega⟩
  have w2 : wr .i64 ep = ep := wr_in ⟨by omega, by omega⟩
  have w3 : wr .i64 (1 + ep) = 1 + ep := wr_in ⟨by omega, by omega⟩
  obtain ⟨e, f, t', u⟩ := h
  simp only at he hf ht hu
  subst ht
  refine (gives_of_tree (tabU_plain U) (W_ok (SD_ok hU) noL_ok) (SD_ok hU) (hp_below _) (drnsn U n1 a b t la ep) ?_).2
  rw [viNil_true] at he
  subst he
  rw [viNil_true] at hu
  subst hu
  cases f <;> cases t <;> (
    simp only [Tree.holds, rf_eq, hf, o1, w1, w2, w3, a0, a1, c0, c1, viNil_true, decide_true, Bool.and_self, Bool.and_true, Bool.true_and, true_and, Bool.and_eq_true, decide_eq_true_eq, true_implies, Bool.true_eq_false, Bool.false_eq_true, false_implies, and_true, Bool.not_true, Bool.not_false]
    exact ⟨_, rfl, rfl, rfl⟩)
theorem dr_snn {U : Nat → List Int} (hU : Bytes U) (h : Sh) {n0 n1 n2 t1 t2 : Nat} {a b la ep : Int} {t : Bool} (hx : ((drD U h).pre ⟨⟨false, 0, n0⟩, ⟨true, t1, n1⟩, ⟨true, t2, n2⟩, a, b, t, la, ep⟩) = true) :
    Gives Try.prog (tabU U) ra base 0 6 [Dr.v ⟨⟨false, 0, n0⟩, ⟨true, t1, n1⟩, ⟨true, t2, n2⟩, a, b, t, la, ep⟩] (hp 0 []) fun v h' => v = (Dr.pl U ⟨⟨false, 0, n0⟩, ⟨true, t1, n1⟩, ⟨true, t2, n2⟩, a, b, t, la, ep⟩).v h ∧ h' = hp 0 ((Dr.pl U ⟨⟨false, 0, n0⟩, ⟨true, t1, n1⟩, ⟨true, t2, n2⟩, a, b, t, la, ep⟩).blks h) := by
  simp only [drD, Dr.ok, Dr.is, Bool.and_eq_true, decide_eq_true_eq] at hx
  obtain ⟨⟨_, _, _, o0, o1, o2, a0, a1, c0, c1, l0, l1, p0, p1⟩, he, hf, ht, hu⟩ := hx
  have w1 : wr .i64 la = la := wr_in ⟨by omega, by omega⟩
  have w2 : wr .i64 ep = ep := wr_in ⟨by omega, by omega⟩
  have w3 : wr .i64 (1 + ep) = 1 + ep := wr_in ⟨by omega, by omega⟩
  obtain ⟨e, f, t', u⟩ := h
  simp only at he hf ht hu
  subst ht
  refine (gives_of_tree (tabU_plain U) (W_ok (SD_ok hU) noL_ok) (SD_ok hU) (hp_below _) (drsnn U n0 a b t la ep) ?_).2
  rw [viNil_true] at hf
  subst hf
  rw [viNil_true] at hu
  subst hu
  cases e <;> cases t <;> (
    simp only [Tree.holds, rf_eq, he, o0, w1, w2, w3, a0, a1, c0, c1, viNil_true, decide_true, Bool.and_self, Bool.and_true, Bool.true_and, true_and, Bool.and_eq_true, decide_eq_true_eq, true_implies, Bool.true_eq_false, Bool.false_eq_true, false_implies, and_true, Bool.not_true, Bool.not_false]
    exact ⟨_, rfl, rfl, rfl⟩)
theorem dr_nnn {U : Nat → List Int} (hU : Bytes U) (h : Sh) {n0 n1 n2 t0 t1 t2 : Nat} {a b la ep : Int} {t : Bool} (hx : ((drD U h).pre ⟨⟨true, t0, n0⟩, ⟨true, t1, n1⟩, ⟨true, t2, n2⟩, a, b, t, la, ep⟩) = true) :
    Gives Try.prog (tabU U) ra base 0 6 [Dr.v ⟨⟨true, t0, n0⟩, ⟨true, t1, n1⟩, ⟨true, t2, n2⟩, a, b, t, la, ep⟩] (hp 0 []) fun v h' => v = (Dr.pl U ⟨⟨true, t0, n0⟩, ⟨true, t1, n1⟩, ⟨true, t2, n2⟩, a, b, t, la, ep⟩).v h ∧ h' = hp 0 ((Dr.pl U ⟨⟨true, t0, n0⟩, ⟨true, t1, n1⟩, ⟨true, t2, n2⟩, a, b, t, la, ep⟩).blks h) := by
  simp only [drD, Dr.ok, Dr.is, Bool.and_eq_true, decide_eq_true_eq] at hx
  obtain ⟨⟨_, _, _, o0, o1, o2, a0, a1, c0, c1, l0, l1, p0, p1⟩, he, hf, ht, hu⟩ := hx
  have w1 : wr .i64 la = la := wr_in ⟨by omega, by omega⟩
  have w2 : wr .i64 ep = ep := wr_in ⟨by omega, by omega⟩
  have w3 : wr .i64 (1 + ep) = 1 + ep := wr_in ⟨by omega, by omega⟩
  obtain ⟨e, f, t', u⟩ := h
  simp only at he hf ht hu
  subst ht
  refine (gives_of_tree (tabU_plain U) (W_ok (SD_ok hU) noL_ok) (SD_ok hU) (hp_below _) (drnnn U a b t la ep) ?_).2
  rw [viNil_true] at he
  subst he
  rw [viNil_true] at hf
  subst hf
  rw [viNil_true] at hu
  subst hu
  cases t <;> (
    simp only [Tree.holds, rf_eq, w1, w2, w3, a0, a1, c0, c1, viNil_true, decide_true, Bool.and_self, Bool.and_true, Bool.true_and, true_and, Bool.and_eq_true, decide_eq_true_eq, true_implies, Bool.true_eq_false, Bool.false_eq_true, false_implies, and_true, Bool.not_true, Bool.not_false]
    exact ⟨_, rfl, rfl, rfl⟩)
theorem drafted_gives {U : Nat → List Int} (hU : Bytes U) (h : Sh) (x : Dr) (hx : ((drD U h).pre x) = true) : Gives Try.prog (tabU U) ra base 0 6 [x.v] (hp 0 []) fun v h' => v = (x.pl U).v h ∧ h' = hp 0 ((x.pl U).blks h) := by
  obtain ⟨⟨b0, t0, n0⟩, ⟨b1, t1, n1⟩, ⟨b2, t2, n2⟩, a, b, t, la, ep⟩ := x
  have hx' := hx
  simp only [drD, Dr.ok, Bool.and_eq_true] at hx'
  obtain ⟨⟨i0, i1, i2, _⟩, _⟩ := hx'
  cases b0 <;> cases b1 <;> cases b2
  · have i0' : t0 = 0 := of_decide_eq_true i0
    subst i0'
    have i1' : t1 = 1 := of_decide_eq_true i1
    subst i1'
    have i2' : t2 = 2 := of_decide_eq_true i2
    subst i2'
    exact dr_sss hU h hx
  · have i0' : t0 = 0 := of_decide_eq_true i0
    subst i0'
    have i1' : t1 = 1 := of_decide_eq_true i1
    subst i1'
    exact dr_ssn hU h hx
  · have i0' : t0 = 0 := of_decide_eq_true i0
    subst i0'
    have i2' : t2 = 2 := of_decide_eq_true i2
    subst i2'
    exact dr_sns hU h hx
  · have i0' : t0 = 0 := of_decide_eq_true i0
    subst i0'
    exact dr_snn hU h hx
  · have i1' : t1 = 1 := of_decide_eq_true i1
    subst i1'
    have i2' : t2 = 2 := of_decide_eq_true i2
    subst i2'
    exact dr_nss hU h hx
  · have i1' : t1 = 1 := of_decide_eq_true i1
    subst i1'
    exact dr_nsn hU h hx
  · have i2' : t2 = 2 := of_decide_eq_true i2
    subst i2'
    exact dr_nns hU h hx
  · exact dr_nnn hU h hx
end
end Go.Proofs.Ytompijagcjjamaa

namespace Go.Proofs.Ytompijagcjjamaa
open Ab
structure Ids where
  p : Nat
  s : Nat
  a : Nat
  b : Nat
def Pl.vI (I : Ids) (h : Sh) (y : Pl) : AVal := .agg [slV h.e I.p y.pre.length, .slice (.own I.s 0 0 5) h.m none, .int .i64 y.la, .int .i64 y.ep]
def Pl.colI (I : Ids) (h : Sh) (y : Pl) : Col := match h.t with
  | false => match h.f with
    | true => .nilc 1
    | false => .val [slV false I.a y.q1.length]
  | true => match h.f with
    | true => match h.u with
      | true => .nilc 2
      | false => .val [.nils, slV false I.b y.q2.length]
    | false => .val [slV false I.a y.q1.length, slV h.u I.b y.q2.length]
def Pl.stI (I : Ids) (h : Sh) (y : Pl) : Blk := match h.t with
  | false => .segs [⟨1, 5, [.int .i64 [y.o1.k], .int .i64 [y.o1.a], .int .i64 [y.o1.b], .int .i64 [y.o1.g], y.colI I h]⟩]
  | true => .segs [⟨2, 5, [.int .i64 [y.o1.k, y.o2.k], .int .i64 [y.o1.a, y.o2.a], .int .i64 [y.o1.b, y.o2.b], .int .i64 [y.o1.g, y.o2.g], y.colI I h]⟩]
def Pl.boxI (I : Ids) (h : Sh) (y : Pl) : Blk := .segs [⟨1, 1, [.val [slV h.e I.p y.pre.length]]⟩, ⟨1, 1, [.val [.slice (.own I.s 0 0 5) h.m none]]⟩, ⟨1, 1, [.int .i64 [y.la]]⟩, ⟨1, 1, [.int .i64 [y.ep]]⟩]
def Pl.qs (h : Sh) (y : Pl) : List Blk := lsB h.f y.q1 ++ match h.t with
  | true => lsB h.u y.q2
  | false => []
def Sh.ids (h : Sh) (d : Nat) : Ids := ⟨d, d + h.iS, d + h.i1, d + h.i2⟩
structure Ow where
  b : Bool
  l : List O4
def Ow.v (x : Ow) : AVal := slV x.b 0 x.l.length
def owCN : CDeal Ow := ⟨fun x => [x.v, .fn 29 []], fun _ => [], fun x => x.b, fun _ => .nils, fun _ => []⟩
def owCO : CDeal Ow := ⟨fun x => [x.v, .fn 29 []], fun x => [opsB x.l], fun x => !x.b && (decide (1 ≤ x.l.length) && decide (x.l.length ≤ 100)), fun x => .slice (.own 1 0 0 4) x.l.length none, fun x => [opsB x.l, opsB x.l]⟩
def owO (us : List AVal) (Bs : List Blk) : Option Ow := match us, Bs with
  | [.nils, _], [] => some ⟨true, []⟩
  | [.slice _ _ _, _], [.segs [⟨_, _, [.int _ k, .int _ a, .int _ b, .int _ g]⟩]] => some ⟨false, un4 k a b g⟩
  | _, _ => none
def SW : Sums := sumF 30 (callNG [(Ow.b, owCN)] owCO owO) noS
def pOw : List Bool := [false, true, false, true]
def owIns (n : Nat) (o : AVal) (i : Int) : List (Nat × AVal) := [(1, .fn 29 []), (4, o), (7, .slice (.own 0 0 0 4) n none), (8, .int .i64 n), (9, .int .i64 i)]
def owD : RDeal (List O4) where
  ins l := owIns l.length .nils 0
  blks l := [opsB l]
  pre l := decide (1 ≤ l.length) && decide (l.length ≤ 100)
  alts := [⟨Unit, .exit 0, fun _ _ => True, fun l _ => [(4, .slice (.own 1 0 0 4) l.length none)], fun l _ => [opsB l, opsB l]⟩]
def owLO (_ : List AVal) (Bs : List Blk) : Option (List O4) := match Bs with
  | [.segs [⟨_, _, [.int _ k, .int _ a, .int _ b, .int _ g]⟩]] => some (un4 k a b g)
  | _ => none
def owT : Tolds := sumT 30 pOw (toldR 21 owD [1, 4, 7, 8, 9] owLO) noT
def bad : O4 := ⟨99, 0, 0, 0⟩
def putP (h : Sh) (y : Pl) (n : Int) : Pl :=
  if n < y.pre.length then { y with pre := y.pre.set n.toNat bad } else
  if n = y.pre.length then { y with o1 := bad } else
  if n ≤ (y.pre.length : Int) + y.q1.length then { y with q1 := y.q1.set (n - y.pre.length - 1).toNat bad } else
  if n = (y.pre.length : Int) + 1 + y.q1.length then { y with o2 := bad } else
  { y with q2 := y.q2.set (n - (y.pre.length + 1 + y.q1.length) - 1).toNat bad }
end Go.Proofs.Ytompijagcjjamaa

namespace Go.Proofs.Ytompijagcjjamaa
open Ab
theorem ow_0 (E : Nat → Nat → Seg) (l : List O4) (i : Int) : ((W E noS noL 30 (false :: pOw) false (codeOf 30 (false :: pOw)) (mkT 21 (owIns l.length .nils i))).full ⟨hp 0 [opsB l], 1, [], []⟩ leafS).take 1 (.x (.n (.n (.c (.c (.c (.leaf [0, 5] 914)))))) (.leaf [0] 16)) =
(let i0 : Blk := (.segs [⟨List.length l, 4, [.int .i64 (k4 l), .int .i64 (a4 l), .int .i64 (b4 l), .int .i64 (g4 l)]⟩])
let j0 := (↑(List.length l) : Int)
let m0 := (0 + Int.toNat i)
(.br (decide (i < j0)) (.need (decide (0 ≤ i) && decide (i < j0)) (.need (decide (0 + Int.toNat i < List.length l)) (.leaf (.normal, mkT 21 [(1, .fn 29 []), (4, .slice (.own 1 0 0 4) 1 none), (7, .slice (.own 0 0 0 4) (List.length l) none), (8, .int .i64 j0), (9, .int .i64 (wr .i64 (i + 1)))], [(0, some i0), (1, some (.segs [⟨1, 4, [.int .i64 (List.take 1 (List.drop 0 [List.getD (k4 l) m0 0])), .int .i64 (List.take 1 (List.drop 0 [List.getD (a4 l) m0 0])), .int .i64 (List.take 1 (List.drop 0 [List.getD (b4 l) m0 0])), .int .i64 (List.take 1 (List.drop 0 [List.getD (g4 l) m0 0]))]⟩]))])))) (.leaf (.exit 0, mkT 21 [(4, .nils)], [(0, some i0)])))) := by kernel_rfl
theorem ow_1 (E : Nat → Nat → Seg) (l m : List O4) (i : Int) : ((W E noS noL 30 (false :: pOw) false (codeOf 30 (false :: pOw)) (mkT 21 (owIns l.length (.slice (.own 1 0 0 4) (Cs.of m).k.length none) i))).full ⟨hp 0 [opsB l, (Cs.of m).blk], 2, [], []⟩ leafS).take 1 (.x (.n (.n (.n (.n (.c (.c (.leaf [0, 6] 914))))))) (.leaf [0, 1] 16)) =
(let i0 : Blk := (.segs [⟨List.length l, 4, [.int .i64 (k4 l), .int .i64 (a4 l), .int .i64 (b4 l), .int .i64 (g4 l)]⟩])
let j0 := (List.length (k4 m))
let m0 := (↑(List.length l) : Int)
let u0 := (0 + Int.toNat i)
(.br (decide (i < m0)) (.need (decide (0 ≤ i) && decide (i < m0)) (.need (decide (0 + Int.toNat i < List.length l)) (.need (decide ((List.length (k4 m) + 1) * 32 ≤ 35184372088832)) (.need (decide (0 + List.length (k4 m) ≤ List.length (k4 m))) (.leaf (.normal, mkT 21 [(1, .fn 29 []), (4, .slice (.own 1 0 0 4) (List.length (k4 m) + 1) none), (7, .slice (.own 0 0 0 4) (List.length l) none), (8, .int .i64 m0), (9, .int .i64 (wr .i64 (i + 1)))], [(0, some i0), (1, some (.segs [⟨List.length (k4 m) + 1, 4, [.int .i64 (List.take j0 (List.drop 0 (k4 m)) ++ List.take 1 (List.drop 0 [List.getD (k4 l) u0 0])), .int .i64 (List.take j0 (List.drop 0 (a4 m)) ++ List.take 1 (List.drop 0 [List.getD (a4 l) u0 0])), .int .i64 (List.take j0 (List.drop 0 (b4 m)) ++ List.take 1 (List.drop 0 [List.getD (b4 l) u0 0])), .int .i64 (List.take j0 (List.drop 0 (g4 m)) ++ List.take 1 (List.drop 0 [List.getD (g4 l) u0 0]))]⟩]))])))))) (.leaf (.exit 0, mkT 21 [(4, .slice (.own 1 0 0 4) j0 none)], [(0, some i0), (1, some (.segs [⟨List.length (k4 m), 4, [.int .i64 (k4 m), .int .i64 (a4 m), .int .i64 (b4 m), .int .i64 (g4 m)]⟩]))])))) := by kernel_rfl
theorem ow_n (E : Nat → Nat → Seg) : ((callT Try.prog E (W E noS noL) noT 0 30 [.nils, .fn 29 []] ⟨hp 0 [], 0, [], []⟩)).take 0 (.c (.leaf [] 1)) =
(.leaf (.ret, mkT 1 [(0, .nils)], [])) := by kernel_rfl
theorem ow_s (E : Nat → Nat → Seg) (l : List O4) : ((callT Try.prog E (W E noS noL) owT 1 30 [.slice (.own 0 0 0 4) l.length none, .fn 29 []] ⟨hp 0 [opsB l], 1, [], []⟩)).take 1 (.c (.n (.n (.a (.i (.leaf [0, 1] 1)))))) =
(let i0 := (un4 (k4 l) (a4 l) (b4 l) (g4 l))
let j0 : Blk := (.segs [⟨List.length i0, 4, [.int .i64 (k4 i0), .int .i64 (a4 i0), .int .i64 (b4 i0), .int .i64 (g4 i0)]⟩])
(.need (decide (List.length l = List.length i0) && true && (decide ((↑(List.length l) : Int) = (↑(List.length i0) : Int)) && true) && (decide (List.length l = List.length i0) && (decide (k4 l = k4 i0) && (decide (a4 l = a4 i0) && (decide (b4 l = b4 i0) && (decide (g4 l = g4 i0) && true))) && true) && true)) (.need (decide (1 ≤ List.length i0) && decide (List.length i0 ≤ 100)) (.all (PUnit) fun (y0 : PUnit) => (.imp (True) (.leaf (.ret, mkT 1 [(0, .slice (.own 1 0 0 4) (List.length i0) none)], [(0, some j0), (1, some j0)]))))))) := by kernel_rfl
end Go.Proofs.Ytompijagcjjamaa

namespace Go.Proofs.Ytompijagcjjamaa
open Ab
section
variable {E : Nat → Nat → Seg} {ra : Nat → Nat → Nat × Nat} {base : Nat}
def owV (m : List O4) : AVal := match m with
  | [] => .nils
  | _ => .slice (.own 1 0 0 4) (Cs.of m).k.length none
def owBs (l m : List O4) : List Blk := match m with
  | [] => [opsB l]
  | _ => [opsB l, (Cs.of m).blk]
theorem owV_snoc (m : List O4) (x : O4) : owV (m ++ [x]) = .slice (.own 1 0 0 4) (Cs.of (m ++ [x])).k.length none := by cases m <;> rfl
theorem owBs_snoc (l m : List O4) (x : O4) : owBs l (m ++ [x]) = [opsB l, (Cs.of (m ++ [x])).blk] := by cases m <;> rfl
theorem ow_round (hE : Plain E) {l m : List O4} {i : Nat} (hi : i < l.length) (hl : l.length ≤ 100) (hm : m.length ≤ 100) :
    Takes Try.prog E ra base 1 (codeOf 30 (false :: pOw)) (mkT 21 (owIns l.length (owV m) (i : Int))) (hp 0 (owBs l m)) fun y => y = (.normal, mkT 21 (owIns l.length (owV (m ++ [l.getD i z4])) ((i + 1 : Nat) : Int)), hp 0 (owBs l (m ++ [l.getD i z4]))) := by
  have c1 : (i : Int) < (l.length : Int) := by omega
  have hwr : wr .i64 ((i : Int) + 1) = ((i + 1 : Nat) : Int) := by rw [wr_in ⟨by omega, by omega⟩]; omega
  have e1 := k4_get hi
  have e2 := a4_get hi
  have e3 := b4_get hi
  have e4 := g4_get hi
  rw [owV_snoc, owBs_snoc]
  cases m with
  | nil =>
    refine takes_of_tree hE (W_ok noS_ok noL_ok) (.inr (by kernel_rfl)) (hp_below _) (ow_0 E l i) ?_
    simp only [Tree.holds, rf_eq, c1, hi, Int.toNat_natCast, Nat.zero_add, hwr, e1, e2, e3, e4, take1, decide_true, Bool.and_self, Bool.and_true, Bool.true_and, true_and, Bool.and_eq_true, decide_eq_true_eq, true_implies, Bool.true_eq_false, false_implies, and_true]
    exact ⟨by omega, rfl⟩
  | cons z m =>
    have hlen : ((k4 (z :: m)).length + 1) * 32 ≤ 35184372088832 := by rw [k4_length]; omega
    refine takes_of_tree hE (W_ok noS_ok noL_ok) (.inr (by kernel_rfl)) (hp_below _) (ow_1 E l (z :: m) i) ?_
    simp only [Tree.holds, rf_eq, c1, hi, hlen, Int.toNat_natCast, Nat.zero_add, hwr, e1, e2, e3, e4, take1, gk2, ga2, gb2, gg2, decide_true, Bool.and_self, Bool.and_true, Bool.true_and, true_and, Bool.and_eq_true, decide_eq_true_eq, true_implies, Bool.true_eq_false, false_implies, and_true, Nat.le_refl]
    refine ⟨by omega, ?_⟩
    rw [gn _ (l.getD i z4)]
    rfl
theorem ow_end (hE : Plain E) {l m : List O4} : Takes Try.prog E ra base 1 (codeOf 30 (false :: pOw)) (mkT 21 (owIns l.length (owV m) (l.length : Int))) (hp 0 (owBs l m)) fun y => y = (.exit 0, mkT 21 [(4, owV m)], hp 0 (owBs l m)) := by
  have c1 : ¬ (l.length : Int) < (l.length : Int) := Int.lt_irrefl _
  cases m with
  | nil =>
    refine takes_of_tree hE (W_ok noS_ok noL_ok) (.inr (by kernel_rfl)) (hp_below _) (ow_0 E l (l.length : Int)) ?_
    simp only [Tree.holds, rf_eq, c1, decide_false, Bool.false_eq_true, false_implies, true_implies, true_and]
    rfl
  | cons z m =>
    refine takes_of_tree hE (W_ok noS_ok noL_ok) (.inr (by kernel_rfl)) (hp_below _) (ow_1 E l (z :: m) (l.length : Int)) ?_
    simp only [Tree.holds, rf_eq, c1, decide_false, Bool.false_eq_true, false_implies, true_implies, true_and]
    rfl
theorem ow_loop (hE : Plain E) {l : List O4} (h1 : 1 ≤ l.length) (h2 : l.length ≤ 100) : Takes Try.prog E ra base 1 (.loop (codeOf 30 (false :: pOw))) (mkT 21 (owIns l.length .nils 0)) (hp 0 [opsB l]) fun y => y = (.exit 0, mkT 21 [(4, .slice (.own 1 0 0 4) l.length none)], hp 0 [opsB l, opsB l]) := by
  refine takes_loop (fun j ts hh => ∃ i : Nat, i ≤ l.length ∧ i + j = l.length + 1 ∧ ts = mkT 21 (owIns l.length (owV (l.take i)) (i : Int)) ∧ hh = hp 0 (owBs l (l.take i))) ?_ ?_ (j := l.length + 1) ⟨0, Nat.zero_le _, Nat.zero_add _, rfl, rfl⟩
  · rintro ts hh ⟨i, h1, h2, _⟩; omega
  · rintro j ts hh ⟨i, hi0, hj, rfl, rfl⟩
    by_cases hi : i < l.length
    · have ht : l.take i ++ [l.getD i z4] = l.take (i + 1) := by
        rw [List.take_add_one, List.getElem?_eq_getElem hi, getD_at hi]; rfl
      refine (ow_round hE hi h2 (by rw [List.length_take]; omega)).mono ?_
      rintro y rfl
      exact ⟨i + 1, by omega, by omega, by rw [ht], by rw [ht]⟩
    · have he : i = l.length := by omega
      subst he
      refine (ow_end hE).mono ?_
      rintro y rfl
      rw [List.take_length]
      cases l with
      | nil => exact absurd h1 (by simp)
      | cons z r =>
        show (_ : State) = _
        have e1 : owV (z :: r) = .slice (.own 1 0 0 4) (z :: r).length none := by
          show AVal.slice _ (k4 (z :: r)).length none = _
          rw [k4_length]
        have e2 : owBs (z :: r) (z :: r) = [opsB (z :: r), opsB (z :: r)] := by
          show [opsB (z :: r), Blk.segs [⟨(k4 (z :: r)).length, 4, _⟩]] = _
          rw [k4_length]; rfl
        rw [e1, e2]
theorem owT_ok (hE : Plain E) : ToldsOK Try.prog E ra base 1 owT := by
  refine sumT_ok noT_ok rfl (toldR_ok (c := .loop (codeOf 30 (false :: pOw))) (by kernel_rfl) fun l hl => ?_)
  simp only [owD, Bool.and_eq_true, decide_eq_true_eq] at hl
  exact (ow_loop hE hl.1 hl.2).mono fun y hy => ⟨(), trivial, hy⟩
theorem ow_gives (hE : Plain E) {l : List O4} (h1 : 1 ≤ l.length) (h2 : l.length ≤ 100) : Gives Try.prog E ra base 1 30 [.slice (.own 0 0 0 4) l.length none, .fn 29 []] (hp 0 [opsB l]) fun v h' => v = .slice (.own 1 0 0 4) l.length none ∧ h' = hp 0 [opsB l, opsB l] := by
  refine gives_of_treeQ hE (W_ok noS_ok noL_ok) (owT_ok hE) (hp_below _) (ow_s E l) ?_
  simp only [TreeQ.holds, rf_eq, un4_of, h1, h2, decide_true, Bool.and_self, Bool.and_true, Bool.true_and, true_and, true_implies]
  exact fun _ => ⟨_, rfl, rfl, rfl⟩
theorem ow_nil (hE : Plain E) : Gives Try.prog E ra base 0 30 [.nils, .fn 29 []] (hp 0 []) fun v h' => v = .nils ∧ h' = hp 0 [] := by
  refine gives_of_treeQ hE (W_ok noS_ok noL_ok) noT_ok (hp_below _) (ow_n E) ?_
  exact ⟨_, rfl, rfl, rfl⟩
theorem SW_ok (hE : Plain E) : SumsOK Try.prog E ra base SW := by
  refine sumNG_deal hE noS_ok ⟨_, Try.func30, by kernel_rfl⟩ (fun q hq => ?_) ?_
  · simp only [List.mem_singleton] at hq
    subst hq
    rintro ⟨b, l⟩ hx
    have hb : b = true := hx
    subst hb
    exact ow_nil hE
  · rintro ⟨b, l⟩ hx
    simp only [owCO, Bool.and_eq_true, Bool.not_eq_true', decide_eq_true_eq] at hx
    obtain ⟨hb, h1, h2⟩ := hx
    subst hb
    exact ow_gives hE h1 h2
end
end Go.Proofs.Ytompijagcjjamaa

namespace Go.Proofs.Ytompijagcjjamaa
open Ab
def takeOps (nil : Bool) (Bs : List Blk) : Option (List O4 × List Blk) := match nil, Bs with
  | true, R => some ([], R)
  | false, .segs [⟨_, _, [.int _ k, .int _ a, .int _ b, .int _ g]⟩] :: R => some (un4 k a b g, R)
  | _, _ => none
def takeSt (t : Bool) (Bs : List Blk) : Option (O4 × O4 × List Blk) := match t, Bs with
  | false, .segs [⟨_, _, [.int _ [k], .int _ [a], .int _ [b], .int _ [g], _]⟩] :: R => some (⟨k, a, b, g⟩, z4, R)
  | true, .segs [⟨_, _, [.int _ [k, k'], .int _ [a, a'], .int _ [b, b'], .int _ [g, g'], _]⟩] :: R => some (⟨k, a, b, g⟩, ⟨k', a', b', g'⟩, R)
  | _, _ => none
def Sh.u2 (h : Sh) : Bool := cond h.t h.u true
def plFrom (h : Sh) (la ep : Int) (Bs : List Blk) : Option (Pl × List Blk) := match takeOps h.e Bs with
  | some (pre, R) => match takeSt h.t R with
    | some (o1, o2, R) => match takeOps h.f R with
      | some (q1, R) => match takeOps h.u2 R with
        | some (q2, R) => some (⟨pre, o1, q1, o2, q2, la, ep⟩, R)
        | none => none
      | none => none
    | none => none
  | none => none
def plBox (h : Sh) (Bs : List Blk) : Option (Pl × List Blk) := match Bs with
  | .segs [_, _, ⟨_, _, [.int _ [la]]⟩, ⟨_, _, [.int _ [ep]]⟩] :: R => plFrom h la ep R
  | _ => none
def Pl.inB (h : Sh) (y : Pl) : List Blk := y.boxI (h.ids 1) h :: (lsB h.e y.pre ++ (y.stI (h.ids 1) h :: y.qs h))
def Pl.norm (h : Sh) (y : Pl) : Prop := (h.e = true → y.pre = []) ∧ (h.f = true → y.q1 = []) ∧ (h.u2 = true → y.q2 = []) ∧ (h.t = false → y.o2 = z4)
structure PtX where
  y : Pl
  n : Int
  a : Int
def badB : Blk := .segs [⟨1, 1, [.int .i64 [99]]⟩, ⟨1, 1, [.int .i64 [0]]⟩, ⟨1, 1, [.int .i64 [0]]⟩, ⟨1, 1, [.int .i64 [0]]⟩]
def badV : AVal := .agg [.int .i64 99, .int .i64 0, .int .i64 0, .int .i64 0]
def lens4 (y : Pl) : Bool := decide (y.pre.length ≤ 4) && (decide (y.q1.length ≤ 4) && decide (y.q2.length ≤ 4))
def isNilO (l : List O4) : Bool := match l with
  | [] => true
  | _ => false
def zO (x : O4) : Bool := decide (x.k = 0) && (decide (x.a = 0) && (decide (x.b = 0) && decide (x.g = 0)))
def normB (h : Sh) (y : Pl) : Bool := (!h.e || isNilO y.pre) && ((!h.f || isNilO y.q1) && ((!h.u2 || isNilO y.q2) && (h.t || zO y.o2)))
def Sh.N (h : Sh) (y : Pl) : Int := (y.pre.length : Int) + 1 + y.q1.length + cond h.t (1 + (y.q2.length : Int)) 0
def okPt (h : Sh) (x : PtX) : Bool := normB h x.y && (lens4 x.y && (decide (x.a = x.y.pre.length) && (decide ((x.y.pre.length : Int) ≤ x.n) && decide (x.n < h.N x.y))))
def ptD (h : Sh) : RDeal PtX where
  ins x := [(0, .ptr (.own 0 0 0 0)), (1, .int .i64 x.n), (5, .ptr (.own (h.n + 1) 0 0 0)), (6, .int .i64 x.a), (7, .int .i64 0)]
  blks x := x.y.inB h ++ [badB]
  pre x := okPt h x
  alts := [⟨Unit, .exit 0, fun _ _ => True, fun _ _ => [], fun x _ => (putP h x.y x.n).inB h⟩]
def ptO (h : Sh) (us : List AVal) (Bs : List Blk) : Option PtX := match us, plBox h Bs with
  | [_, .int _ n, _, .int _ a, _], some (y, _) => some ⟨y, n, a⟩
  | _, _ => none
def pPt : List Bool := [false, true, true, true, true]
def ptT (h : Sh) : Tolds := sumT 15 pPt (toldR 82 (ptD h) [0, 1, 5, 6, 7] (ptO h)) noT
structure PuX where
  y : Pl
  n : Int
def puD (h : Sh) : CDeal PuX := ⟨fun x => [.ptr (.own 0 0 0 0), .int .i64 x.n, badV], fun x => x.y.inB h, fun x => normB h x.y && (lens4 x.y && (decide (0 ≤ x.n) && decide (x.n < h.N x.y))), fun _ => .undef, fun x => (putP h x.y x.n).inB h⟩
def fullB (h : Sh) (y : Pl) : Bool := normB h y && (lens4 y && ((h.e || decide (1 ≤ y.pre.length)) && ((h.f || decide (1 ≤ y.q1.length)) && (h.u2 || decide (1 ≤ y.q2.length)))))
def Sh.idc (h : Sh) (d : Nat) : Ids := ⟨d, d + h.iS + (cond h.f 0 1 + cond h.u2 0 1), d + h.iS, d + h.iS + cond h.f 0 1⟩
def cpD (h : Sh) : CDeal Pl := ⟨fun y => [y.v h], fun y => y.blks h, fun y => fullB h y, fun y => y.vI (h.idc h.n) h, fun y => y.blks h ++ (lsB h.e y.pre ++ (y.qs h ++ [y.stI (h.idc h.n) h]))⟩
end Go.Proofs.Ytompijagcjjamaa

namespace Go.Proofs.Ytompijagcjjamaa
open Ab
def unL (l : List O4) : List O4 := un4 (k4 l) (a4 l) (b4 l) (g4 l)
def Pl.un (y : Pl) : Pl := ⟨unL y.pre, y.o1, unL y.q1, y.o2, unL y.q2, y.la, y.ep⟩
def Sh.cpL (h : Sh) : List Nat := (List.range h.n ++ cond h.e [] [h.n + 3]) ++ (cond h.f [] [h.n + 6 + cond h.e 0 1] ++ cond h.t (cond h.u [] [h.n + 11 + cond h.e 0 1 + cond h.f 0 1] ++ [h.n + 12 + cond h.e 0 1 + cond h.f 0 1 + cond h.u 0 1]) [h.n + 7 + cond h.e 0 1 + cond h.f 0 1])
def cpE (e : Bool) (p : Pat) : Pat := match e with
  | true => cs 8 p
  | false => .c (.n (.n (.n (cs 4 p))))
def cpF (f t : Bool) (p : Pat) : Pat := match f with
  | true => cs (cond t 10 7) p
  | false => .n (.n (.n (cs (cond t 7 4) p)))
def cpU (t u : Bool) (p : Pat) : Pat := match t with
  | true => match u with
    | true => cs 8 p
    | false => .n (.n (.n (cs 5 p)))
  | false => p
def cpN (nil : Bool) (l : List O4) (t : Tree State) : Tree State := match nil with
  | true => t
  | false => .need (sameBl [opsB l] [opsB (unL l)] && true) (.need (sameL [slV false 0 l.length, .fn 29 []] [slV false 0 (unL l).length, .fn 29 []] && true) (.need (decide (1 ≤ (unL l).length) && decide ((unL l).length ≤ 100)) t))
theorem cp_tree (h : Sh) (E : Nat → Nat → Seg) (y : Pl) : ((callB Try.prog E SW (W E SW noL) 14 [y.v h]).full ⟨hp 0 (y.blks h), (y.blks h).length, [], []⟩ leafV).take h.n (cpE h.e (cpF h.f h.t (cpU h.t h.u (.leaf h.cpL 1)))) =
  cpN h.e y.pre (cpN h.f y.q1 (cpN (cond h.t h.u true) y.q2 (.leaf (.ret, mkT 1 [(0, y.un.vI (h.idc h.n) h)], hp 0 ((lsB h.e y.un.pre ++ (y.stB h :: y.un.qs h)) ++ (lsB h.e y.un.pre ++ (y.un.qs h ++ [y.un.stI (h.idc h.n) h]))))))) := by
  obtain ⟨e, f, t, u⟩ := h
  cases e <;> cases f <;> cases t <;> cases u <;> kernel_rfl
end Go.Proofs.Ytompijagcjjamaa
