/- Parts of the walk: sink: merging keeps its contract, by how much there is; sink: the stable sort: contracts; sink: the stable sort, as trees; sink: the stable sort keeps its contract; sink: the stable sort keeps its contract; sink: lists of records: their shapes; Clone, Sort: contracts; sink: Sort: contracts; sink: Clone, Sort, as trees; sink: Clone and Sort keep their contracts; sink: front and aligner: numbers; contracts of their functions; sink: front and aligner: trees; sink: front and aligner keep their contracts; sink: its blocks; contracts of its functions. -/
import Derived.Test.YtgkejpfahpbnkaaG01

set_option linter.unusedSimpArgs false
set_option linter.unusedVariables false
namespace Go.Proofs.Ytgkejpfahpbnkaa
open Ab
open Classical
section
variable {E : Nat → Nat → Seg} {ra : Nat → Nat → Nat × Nat} {base : Nat}
theorem mrg_gives (hE : Plain E) {N : Nat} (hS : SumsOK Try.prog E ra base (SM N)) (x : Mx) (hx : mrgOk (N + 1) x = true) : Gives Try.prog E ra base 1 67 ((mrgD N).args x) (hp 0 ((mrgD N).blks x)) fun v h' => v = (mrgD N).out x ∧ h' = hp 0 ((mrgD N).blks' x) := by
  refine gives_of_treeQ hE (W_ok hS noL_ok) (TF_ok hE hS) (hp_below [_]) (fm_tree E N x) ?_
  obtain ⟨m, c, a, p, b⟩ := x
  have hx := @of_decide_eq_true _ (_) hx
  obtain ⟨hw, h1, h2, h3, h4, h5, hs1, hs2, hN⟩ := hx
  simp only [Mx.l] at hw h1 h2 h3 h4 h5 hs1 hs2 hN
  have h5' := h5
  unfold big at h5'
  have hl := un_len m c
  obtain ⟨a, rfl⟩ := Int.eq_ofNat_of_zero_le h1
  obtain ⟨p, rfl⟩ := Int.eq_ofNat_of_zero_le (show 0 ≤ p by omega)
  obtain ⟨b, rfl⟩ := Int.eq_ofNat_of_zero_le (show 0 ≤ b by omega)
  simp only [Int.toNat_natCast] at hs1 hs2
  have gN : ∀ t : Nat, gt (c.un m) (t : Int) = (c.un m).getD t z6 := fun t => rfl
  dsimp only
  rw [wr_sub (a := p) (b := a) (by omega) (by omega), wr_sub (a := b) (b := p) (by omega) (by omega), md_eq (i := (a : Int)) (j := (b : Int)) (by omega) (by omega) (by omega), show ((a : Int) + b) / 2 = (((a + b) / 2 : Nat) : Int) by omega, wr_add (a := (a + b) / 2) (b := p) (by omega), wr_sub1 (a := (a + b) / 2 + p) (by omega) (by omega)]
  by_cases k1 : p - a = 1
  · refine br_yes (decide_eq_true (by omega)) ⟨eT_self rfl rfl (ok_blk _ _), ?_, ?_⟩
    · refine @decide_eq_true _ (_) ⟨hw, h1, by show (a : Int) < m; omega, by show (0 : Int) ≤ p; omega, by show (p : Int) ≤ b; omega, by show (b : Int) ≤ m; omega, h5, ?_⟩
      intro t s t1 t2 t3 hP
      obtain ⟨t, rfl⟩ := Int.eq_ofNat_of_zero_le (show 0 ≤ t by have : (p : Int) ≤ t := t1; omega)
      obtain ⟨s, rfl⟩ := Int.eq_ofNat_of_zero_le (show 0 ≤ s by omega)
      have t1 : (p : Int) ≤ (t : Int) := t1
      have t3 : (s : Int) < (b : Int) := t3
      have hP : (!lt ((c.un m).getD t z6) ((c.un m).getD a z6)) = true := hP
      show (!lt ((c.un m).getD s z6) ((c.un m).getD a z6)) = true
      rw [Bool.not_eq_true'] at hP ⊢
      exact le_tr hP (sd_get hs2 (by omega) (by omega) (by omega) (by omega))
    · rintro r ⟨r1, r2, r3, r4⟩
      obtain ⟨r, rfl⟩ := Int.eq_ofNat_of_zero_le (show 0 ≤ r by omega)
      refine ⟨eT_self rfl rfl (ok_blk _ _), ?_, fun _ _ => ⟨_, rfl, rfl, ?_⟩⟩
      · simp only [s2Ok, Bool.and_eq_true, decide_eq_true_eq]
        exact ⟨hw, by omega, by omega, by omega, h5⟩
      · have hp' : p = a + 1 := by omega
        subst hp'
        have key := up_mrg (l := c.un m) (a := a) (b := b) (r := r) (by omega) (by omega) (by omega) (fun t t1 t2 => by
          have q := r3 (t : Int) (by omega) (by omega)
          have q : (!lt ((c.un m).getD t z6) ((c.un m).getD a z6)) = false := q
          simpa using q) (fun t t1 t2 => by
          have q := r4 (t : Int) (by omega) (by omega)
          have q : (!lt ((c.un m).getD t z6) ((c.un m).getD a z6)) = true := q
          simpa using q)
        simp only [Mx.l, mrgD, Mx.mrg, Int.toNat_natCast, key]
  · refine br_no (decide_eq_false (by omega)) ?_
    by_cases k2 : b - p = 1
    · refine br_yes (decide_eq_true (by omega)) ⟨eT_self rfl rfl (ok_blk _ _), ?_, ?_⟩
      · refine @decide_eq_true _ (_) ⟨hw, by show (0 : Int) ≤ p; omega, by show (p : Int) < m; omega, by show (0 : Int) ≤ a; omega, by show (a : Int) ≤ p; omega, by show (p : Int) ≤ m; omega, h5, ?_⟩
        intro t s t1 t2 t3 hP
        obtain ⟨t, rfl⟩ := Int.eq_ofNat_of_zero_le (show 0 ≤ t by have : (a : Int) ≤ t := t1; omega)
        obtain ⟨s, rfl⟩ := Int.eq_ofNat_of_zero_le (show 0 ≤ s by omega)
        have t1 : (a : Int) ≤ (t : Int) := t1
        have t3 : (s : Int) < (p : Int) := t3
        have hP : lt ((c.un m).getD p z6) ((c.un m).getD t z6) = true := hP
        show lt ((c.un m).getD p z6) ((c.un m).getD s z6) = true
        exact lt_le hP (sd_get hs1 (by omega) (by omega) (by omega) (by omega))
      · rintro r ⟨r1, r2, r3, r4⟩
        obtain ⟨r, rfl⟩ := Int.eq_ofNat_of_zero_le (show 0 ≤ r by omega)
        refine ⟨eT_self rfl rfl (ok_blk _ _), ?_, fun _ _ => ⟨_, rfl, rfl, ?_⟩⟩
        · simp only [s6Ok, Bool.and_eq_true, decide_eq_true_eq]
          exact ⟨hw, by omega, by omega, by omega, h5⟩
        · have hp' : b = p + 1 := by omega
          subst hp'
          have key := dn_mrg (l := c.un m) (a := a) (p := p) (r := r) (by omega) (by omega) (by omega) (fun t t1 t2 => r3 (t : Int) (by omega) (by omega)) (fun t t1 t2 => r4 (t : Int) (by omega) (by omega))
          simp only [Mx.l, mrgD, Mx.mrg, Int.toNat_natCast, key]
    · refine br_no (decide_eq_false (by omega)) ?_
      by_cases k3 : (a + b) / 2 < p
      · refine br_yes (decide_eq_true (by omega)) ?_
        rw [wr_sub (a := (a + b) / 2 + p) (b := b) (by omega) (by omega)]
        exact mT_holds (N := N) (lo := (a + b) / 2 + p - b) (hi := (a + b) / 2) hw h5 (by omega) (by omega) (by omega) hs1 hs2 rfl (by omega) (by omega) (by omega) (by omega) (by omega) (by omega) (by omega) (.inr (by omega)) (.inr rfl)
      · refine br_no (decide_eq_false (by omega)) ?_
        exact mT_holds (N := N) (lo := a) (hi := p) hw h5 (by omega) (by omega) (by omega) hs1 hs2 rfl (by omega) (by omega) (by omega) (by omega) (by omega) (by omega) (by omega) (.inl rfl) (.inl rfl)
theorem SM_ok (hE : Plain E) : ∀ N : Nat, SumsOK Try.prog E ra base (SM N)
  | 0 => sumG_deal hE (sumG_deal hE sumNone_ok ⟨_, Try.func68, by kernel_rfl⟩ fun x hx => rot_gives hE x hx) ⟨_, Try.func67, by kernel_rfl⟩ fun x hx => by
    exfalso
    have hx := @of_decide_eq_true _ (_) hx
    obtain ⟨_, h1, h2, h3, _, _, _, _, hN⟩ := hx
    omega
  | N + 1 => sumG_deal hE (sumG_deal hE sumNone_ok ⟨_, Try.func68, by kernel_rfl⟩ fun x hx => rot_gives hE x hx) ⟨_, Try.func67, by kernel_rfl⟩ fun x hx => mrg_gives hE (SM_ok hE N) x hx
end
end Go.Proofs.Ytgkejpfahpbnkaa

namespace Go.Proofs.Ytgkejpfahpbnkaa
open Ab
open Classical
noncomputable def ST : Sums := sumF 66 (callG insD ixDO) (SM big)
def Bk (s a : Nat) (l l' : List Rc) : Prop := l'.length = l.length ∧ (∀ t, s ∣ t → t + s ≤ a → part l' t (t + s) = isort (part l t (t + s))) ∧ l'.drop a = l.drop a
def Mk (s a : Nat) (l l' : List Rc) : Prop := l'.length = l.length ∧ (∀ t, 2 * s ∣ t → t + 2 * s ≤ a → part l' t (t + 2 * s) = mrg (part l t (t + s)) (part l (t + s) (t + 2 * s))) ∧ l'.drop a = l.drop a
structure Qx where
  m : Nat
  c : C6
  n : Int
  s : Int
def Qx.l (x : Qx) : List Rc := x.c.un x.m
structure Qy where
  a : Int
  c : C6
def stT (m : Nat) (n s : Int) (r : List (Nat × AVal)) : List (Nat × AVal) := [(0, sl m), (1, .int .i64 n), (2, .fn 46 []), (6, .int .i64 s)] ++ r
def b0P (x : Qx) (y : Qy) : Prop := ∃ (a : Nat) (l' : List Rc), y.a = a ∧ y.c = cols l' ∧ Bk 20 a x.l l' ∧ a ≤ x.m ∧ x.m < a + 20 ∧ 20 ∣ a
noncomputable def b0Ok (x : Qx) : Bool := decide (x.c.wf x.m = true ∧ x.n = x.m ∧ x.m ≤ big)
noncomputable def b0L : RDeal Qx where
  ins x := stT x.m x.n 20 [(7, .int .i64 0), (8, .int .i64 20)]
  blks x := [x.c.blkN x.m]
  pre := b0Ok
  alts := [⟨Qy, .exit 0, b0P, fun x y => stT x.m x.n 20 [(7, .int .i64 y.a)], fun x y => [y.c.blkN x.m]⟩]
def b0O (us : List AVal) (Bs : List Blk) : Option Qx := match us, Bs with
  | [.slice _ m _, .int _ n, _, _, _, _], [B] => match c6O B with
    | some c => some ⟨m, c, n, 20⟩
    | none => none
  | _, _ => none
def b4P (x : Qx) (y : Qy) : Prop := ∃ (a s : Nat) (l' : List Rc), y.a = a ∧ x.s = s ∧ y.c = cols l' ∧ Mk s a x.l l' ∧ a ≤ x.m ∧ x.m < a + 2 * s ∧ 2 * s ∣ a
noncomputable def b4Ok (x : Qx) : Bool := decide (x.c.wf x.m = true ∧ x.n = x.m ∧ x.m ≤ big ∧ 1 ≤ x.s ∧ x.s < x.m ∧ ∀ t, x.s.toNat ∣ t → t + x.s.toNat ≤ x.m → Sd (part x.l t (t + x.s.toNat)))
noncomputable def b4L : RDeal Qx where
  ins x := stT x.m x.n x.s [(7, .int .i64 0), (8, .int .i64 (wr .i64 (2 * x.s)))]
  blks x := [x.c.blkN x.m]
  pre := b4Ok
  alts := [⟨Qy, .exit 4, b4P, fun x y => stT x.m x.n x.s [(7, .int .i64 y.a)], fun x y => [y.c.blkN x.m]⟩]
def b4O (us : List AVal) (Bs : List Blk) : Option Qx := match us, Bs with
  | [.slice _ m _, .int _ n, _, .int _ s, _, _], [B] => match c6O B with
    | some c => some ⟨m, c, n, s⟩
    | none => none
  | _, _ => none
def Bl (s : Nat) (l0 l : List Rc) : Prop := l.length = l0.length ∧ ∀ t, s ∣ t → t < l0.length → part l t (min (t + s) l0.length) = isort (part l0 t (min (t + s) l0.length))
noncomputable def b2Ok (x : Qx) : Bool := decide (x.c.wf x.m = true ∧ x.n = x.m ∧ x.m ≤ big ∧ x.s = 20 ∧ ∃ l0, l0.length = x.m ∧ Bl 20 l0 x.l)
def b2P (x : Qx) (y : C6) : Prop := ∀ l0 : List Rc, l0.length = x.m → Bl 20 l0 x.l → y = cols (isort l0)
noncomputable def b2L : RDeal Qx where
  ins x := stT x.m x.n x.s []
  blks x := [x.c.blkN x.m]
  pre := b2Ok
  alts := [⟨C6, .exit 2, b2P, fun _ _ => [], fun x y => [y.blkN x.m]⟩]
def b2O (us : List AVal) (Bs : List Blk) : Option Qx := match us, Bs with
  | [.slice _ m _, .int _ n, _, .int _ s], [B] => match c6O B with
    | some c => some ⟨m, c, n, s⟩
    | none => none
  | _, _ => none
def k0 : List Bool := [false, false, true, true]
def k2 : List Bool := [false, true, true, true, true]
def k4 : List Bool := [false, false, true, false, true, false, false, true, true, true, true]
noncomputable def TB4 : Tolds := sumT 61 k4 (toldR 63 b4L [0, 1, 2, 6, 7, 8] b4O) noT
noncomputable def TB : Tolds := sumT 61 k0 (toldR 63 b0L [0, 1, 2, 6, 7, 8] b0O) (sumT 61 k2 (toldR 63 b2L [0, 1, 2, 6] b2O) noT)
structure Rx where
  m : Nat
  c : C6
def Rx.l (x : Rx) : List Rc := x.c.un x.m
def stOk (x : Rx) : Bool := x.c.wf x.m && decide (x.m ≤ big)
def stD : CDeal Rx := ⟨fun x => [sl x.m, .int .i64 x.m, .fn 46 []], fun x => [x.c.blkN x.m], stOk, fun _ => .undef, fun x => [(cols (isort x.l)).blkN x.m]⟩
def rxO (us : List AVal) (Bs : List Blk) : Option Rx := match us, Bs with
  | .slice _ m _ :: _, [B] => match c6O B with
    | some c => some ⟨m, c⟩
    | none => none
  | _, _ => none
end Go.Proofs.Ytgkejpfahpbnkaa

namespace Go.Proofs.Ytgkejpfahpbnkaa
open Ab
def lf63 (m : Nat) (e : AExit) (ts : List (Nat × AVal)) (c : C6) : Tree State := .leaf (e, mkT 63 ts, hp 0 [c.blkN m])
theorem b0_tree (E : Nat → Nat → Seg) (m : Nat) (c : C6) (n s a b : Int) : ((W E ST noL 61 (false :: k0) false (codeOf 61 (false :: k0)) (mkT 63 (stT m n s [(7, .int .i64 a), (8, .int .i64 b)]))).full ⟨hp 0 [c.blkN m], 1, [], []⟩ leafS).take 1 (.x (.n (.n (.n (.leaf [0] 455)))) (.leaf [0] 199)) =
  .br (decide (b ≤ n)) (.need (eB [c.blkN m]) (.need (eV (insD.args ⟨m, c, a, b, 0⟩)) (.need (ioOk ⟨m, c, a, b, 0⟩) (lf63 m .normal (stT m n s [(7, .int .i64 b), (8, .int .i64 (wr .i64 (b + s)))]) (Ix.out ⟨m, c, a, b, 0⟩))))) (lf63 m (.exit 0) (stT m n s [(7, .int .i64 a)]) c) := by kernel_rfl
theorem b4_tree (E : Nat → Nat → Seg) (m : Nat) (c : C6) (n s a b : Int) : ((W E ST noL 61 (false :: k4) false (codeOf 61 (false :: k4)) (mkT 63 (stT m n s [(7, .int .i64 a), (8, .int .i64 b)]))).full ⟨hp 0 [c.blkN m], 1, [], []⟩ leafS).take 1 (.x (.n (.n (.n (.leaf [0] 455)))) (.leaf [0] 199)) =
  .br (decide (b ≤ n)) (.need (eB [c.blkN m]) (.need (eV (rotD.args ⟨m, c, a, wr .i64 (a + s), b⟩)) (.need (mrgOk big ⟨m, c, a, wr .i64 (a + s), b⟩) (lf63 m .normal (stT m n s [(7, .int .i64 b), (8, .int .i64 (wr .i64 (b + wr .i64 (2 * s))))]) (Mx.mrg ⟨m, c, a, wr .i64 (a + s), b⟩))))) (lf63 m (.exit 4) (stT m n s [(7, .int .i64 a)]) c) := by kernel_rfl
def e63 (ts : List (Nat × AVal)) (m : Nat) (c : C6) : Bool := eT 63 ts [c.blkN m] ts [c.blkN m]
theorem b2_tree (E : Nat → Nat → Seg) (m : Nat) (c : C6) (n s : Int) : (execT (W E ST noL) TB4 1 400 61 (false :: k2) (codeOf 61 (false :: k2)) (mkT 63 (stT m n s [])) ⟨hp 0 [c.blkN m], 1, [], []⟩ leafQ).take 1 (.x (.c (.n (.n (.a (.i (.x (.n (.n (.n (.leaf [0] 71)))) (.leaf [0] 71))))))) (.leaf [0] 0)) =
  .br (decide (s < n)) (.need (e63 (stT m n s [(7, .int .i64 0), (8, .int .i64 (wr .i64 (2 * s)))]) m c) (.need (b4Ok ⟨m, c, n, s⟩) (.all Qy fun y => .imp (b4P ⟨m, c, n, s⟩ y)
      (.br (decide (wr .i64 (y.a + s) < n)) (.need (eB [y.c.blkN m]) (.need (eV (rotD.args ⟨m, y.c, y.a, wr .i64 (y.a + s), n⟩)) (.need (mrgOk big ⟨m, y.c, y.a, wr .i64 (y.a + s), n⟩) (.leaf (.normal, mkT 63 (stT m n (wr .i64 (s * 2)) []), hp 0 [(Mx.mrg ⟨m, y.c, y.a, wr .i64 (y.a + s), n⟩).blkN m])))))
        (.leaf (.normal, mkT 63 (stT m n (wr .i64 (s * 2)) []), hp 0 [y.c.blkN m]))))))
    (.leaf (.exit 2, mkT 63 [], hp 0 [c.blkN m])) := by kernel_rfl
theorem fs_tree (E : Nat → Nat → Seg) (x : Rx) : (callT Try.prog E (W E ST noL) TB 1 61 (stD.args x) ⟨hp 0 (stD.blks x), 1, [], []⟩).take 1 (.c (.n (.n (.a (.i (.n (.n (.n (.c (.n (.n (.a (.i (.leaf [0] 0)))))))))))))) =
  .need (e63 (stT x.m x.m 20 [(7, .int .i64 0), (8, .int .i64 20)]) x.m x.c) (.need (b0Ok ⟨x.m, x.c, x.m, 20⟩) (.all Qy fun y => .imp (b0P ⟨x.m, x.c, x.m, 20⟩ y)
    (.need (eB [y.c.blkN x.m]) (.need (eV (insD.args ⟨x.m, y.c, y.a, x.m, 0⟩)) (.need (ioOk ⟨x.m, y.c, y.a, x.m, 0⟩)
      (.need (e63 (stT x.m x.m 20 []) x.m (Ix.out ⟨x.m, y.c, y.a, x.m, 0⟩)) (.need (b2Ok ⟨x.m, Ix.out ⟨x.m, y.c, y.a, x.m, 0⟩, x.m, 20⟩) (.all C6 fun z => .imp (b2P ⟨x.m, Ix.out ⟨x.m, y.c, y.a, x.m, 0⟩, x.m, 20⟩ z)
        (.leaf (.ret, mkT 1 [], hp 0 [z.blkN x.m])))))))))) := by kernel_rfl
end Go.Proofs.Ytgkejpfahpbnkaa

namespace Go.Proofs.Ytgkejpfahpbnkaa
open Ab
open Classical
theorem part_by_take (l : List Rc) (t s : Nat) : part l t s = (l.take s).drop t := by rw [part, List.drop_take]
theorem part_take {l l' : List Rc} {a t s : Nat} (h : l'.take a = l.take a) (hs : s ≤ a) : part l' t s = part l t s := by
  rw [part_by_take, part_by_take]
  have : ∀ q : List Rc, q.take s = (q.take a).take s := fun q => by rw [List.take_take, Nat.min_eq_left hs]
  rw [this l', this l, h]
theorem part_drop {l l' : List Rc} {b t s : Nat} (h : l'.drop b = l.drop b) (ht : b ≤ t) : part l' t s = part l t s := by
  rw [part, part]
  have : ∀ q : List Rc, q.drop t = (q.drop b).drop (t - b) := fun q => by rw [List.drop_drop]; congr 1; omega
  rw [this l', this l, h]
theorem drop_more {l l' : List Rc} {a b : Nat} (h : l'.drop a = l.drop a) (hb : a ≤ b) : l'.drop b = l.drop b := by
  have : ∀ q : List Rc, q.drop b = (q.drop a).drop (b - a) := fun q => by rw [List.drop_drop]; congr 1; omega
  rw [this l', this l, h]
theorem ins_parts {l : List Rc} {a b : Nat} (h1 : a ≤ b) (h2 : b ≤ l.length) : (insO l a b).length = l.length ∧ part (insO l a b) a b = isort (part l a b) ∧ (insO l a b).take a = l.take a ∧ (insO l a b).drop b = l.drop b := by
  have lA : (l.take a).length = a := by rw [List.length_take]; omega
  have lB := part_len l (a := a) h2
  have lI := isort_length (part l a b)
  refine ⟨?_, part_mid (by omega) (by omega), take_mid (by omega), ?_⟩
  · simp only [insO, List.length_append, List.length_drop]; omega
  · rw [insO, ← List.append_assoc]; exact drop_mid (by rw [List.length_append]; omega)
theorem mrg_parts {l : List Rc} {a p b : Nat} (h1 : a ≤ p) (h3 : p ≤ b) (h2 : b ≤ l.length) : (mrgO l a p b).length = l.length ∧ part (mrgO l a p b) a b = mrg (part l a p) (part l p b) ∧ (mrgO l a p b).take a = l.take a ∧ (mrgO l a p b).drop b = l.drop b := by
  have lA : (l.take a).length = a := by rw [List.length_take]; omega
  have lB := part_len l (a := a) (b := p) (by omega)
  have lC := part_len l (a := p) h2
  have lI := mrg_length (part l a p) (part l p b)
  refine ⟨mrgO_len h1 h3 h2, part_mid (by omega) (by omega), take_mid (by omega), ?_⟩
  rw [mrgO, ← List.append_assoc]; exact drop_mid (by rw [List.length_append]; omega)
theorem mult_eq {s t a : Nat} (hs : 0 < s) (h1 : s ∣ t) (h2 : s ∣ a) (h3 : t ≤ a) (h4 : a < t + s) : t = a := by
  obtain ⟨i, rfl⟩ := h1
  obtain ⟨j, rfl⟩ := h2
  have e1 : i ≤ j := Nat.le_of_mul_le_mul_left h3 hs
  have e2 : j < i + 1 := Nat.lt_of_mul_lt_mul_left (a := s) (by rw [Nat.mul_add, Nat.mul_one]; exact h4)
  have : i = j := by omega
  rw [this]
theorem whole_eq {l : List Rc} {m : Nat} (h : l.length = m) : part l 0 m = l := by subst h; exact (whole_part l).symm
section
variable {E : Nat → Nat → Seg} {ra : Nat → Nat → Nat × Nat} {base : Nat}
theorem ST_ok (hE : Plain E) : SumsOK Try.prog E ra base ST := sumG_deal hE (SM_ok hE big) ⟨_, Try.func66, by kernel_rfl⟩ fun x hx => ins_gives hE x hx
theorem b0_ok (hE : Plain E) (x : Qx) (hx : b0Ok x = true) : Takes Try.prog E ra base 1 (.loop (codeOf 61 (false :: k0))) (mkT 63 (b0L.ins x)) (hp 0 (b0L.blks x)) fun y => PostL 63 x y b0L.alts := by
  obtain ⟨m, c, n, s⟩ := x
  have hx := @of_decide_eq_true _ (_) hx
  obtain ⟨hw, hn, hm⟩ := hx
  simp only at hw hn hm
  subst hn
  have hm' := hm
  unfold big at hm'
  have e0 := cols_un hw
  have hl := un_len m c
  refine takes_loop (fun j ts hh => ∃ (a : Nat) (l' : List Rc), m + 1 ≤ a + j ∧ Bk 20 a (c.un m) l' ∧ a ≤ m ∧ 20 ∣ a ∧ ts = mkT 63 (stT m m 20 [(7, .int .i64 (a : Int)), (8, .int .i64 ((a + 20 : Nat) : Int))]) ∧ hh = hp 0 [(cols l').blkN m]) ?_ ?_ (j := m + 1) ⟨0, c.un m, by omega, ⟨rfl, fun t _ h => by omega, rfl⟩, Nat.zero_le _, Nat.dvd_zero _, rfl, by rw [e0]; rfl⟩
  · rintro ts hh ⟨a, l', h1, _, h2, _⟩; omega
  · rintro j ts hh ⟨a, l', hj, ⟨b1, b2, b3⟩, ham, hda, rfl, rfl⟩
    refine takes_of_tree hE (W_ok (ST_ok hE) noL_ok) (.inr (by kernel_rfl)) (hp_below _) (b0_tree E m (cols l') m 20 a ((a + 20 : Nat) : Int)) ?_
    refine br_by (fun h => ?_) fun h => ?_
    · have h' : a + 20 ≤ m := by omega
      have uu := un_of (m := m) (l := l') (by omega)
      obtain ⟨i1, i2, i3, i4⟩ := ins_parts (l := l') (a := a) (b := a + 20) (by omega) (by omega)
      refine ⟨eB_eq (ok_blk _ _), eV_eq _, ?_, ⟨a + 20, insO l' a (a + 20), by omega, ⟨by omega, fun t ht ht2 => ?_, ?_⟩, h', by omega, ?_, ?_⟩⟩
      · simp only [ioOk, Bool.and_eq_true, decide_eq_true_eq]
        exact ⟨wf_of (m := m) (by omega), by omega, by omega, by omega, hm⟩
      · by_cases hta : t + 20 ≤ a
        · rw [part_take i3 hta]; exact b2 t ht hta
        · have : t = a := by omega
          subst this
          rw [i2, part_drop b3 (Nat.le_refl _)]
      · rw [i4]; exact drop_more b3 (by omega)
      · rw [show ((a + 20 : Nat) : Int) + 20 = ((a + 20 : Nat) : Int) + ((20 : Nat) : Int) by rfl, wr_add (by omega)]
      · show hp 0 _ = _
        simp only [Ix.out, Ix.l, uu, Int.toNat_natCast]
    · exact ⟨⟨(a : Int), cols l'⟩, ⟨a, l', rfl, rfl, ⟨b1, b2, b3⟩, ham, by show m < a + 20; omega, hda⟩, rfl⟩
theorem b4_ok (hE : Plain E) (x : Qx) (hx : b4Ok x = true) : Takes Try.prog E ra base 1 (.loop (codeOf 61 (false :: k4))) (mkT 63 (b4L.ins x)) (hp 0 (b4L.blks x)) fun y => PostL 63 x y b4L.alts := by
  obtain ⟨m, c, n, s⟩ := x
  have hx := @of_decide_eq_true _ (_) hx
  obtain ⟨hw, hn, hm, hs1, hs2, hsd⟩ := hx
  simp only [Qx.l] at hw hn hm hs1 hs2 hsd
  subst hn
  have hm' := hm
  unfold big at hm'
  obtain ⟨s, rfl⟩ := Int.eq_ofNat_of_zero_le (show 0 ≤ s by omega)
  simp only [Int.toNat_natCast] at hsd
  have e0 := cols_un hw
  have hl := un_len m c
  have w2 : wr .i64 (2 * (s : Int)) = ((2 * s : Nat) : Int) := by rw [wr_in ⟨by omega, by omega⟩]; omega
  refine takes_loop (fun j ts hh => ∃ (a : Nat) (l' : List Rc), m + 1 ≤ a + j ∧ Mk s a (c.un m) l' ∧ a ≤ m ∧ 2 * s ∣ a ∧ ts = mkT 63 (stT m m s [(7, .int .i64 (a : Int)), (8, .int .i64 ((a + 2 * s : Nat) : Int))]) ∧ hh = hp 0 [(cols l').blkN m]) ?_ ?_ (j := m + 1) ⟨0, c.un m, by omega, ⟨rfl, fun t _ h => absurd h (by have : (1 : Int) ≤ (s : Int) := hs1; clear w2; omega), rfl⟩, Nat.zero_le _, Nat.dvd_zero _, by show mkT 63 (stT m m s [(7, .int .i64 0), (8, .int .i64 (wr .i64 (2 * (s : Int))))]) = _; rw [w2, Nat.zero_add]; rfl, by rw [e0]; rfl⟩
  · clear w2; rintro ts hh ⟨a, l', h1, _, h2, _⟩; omega
  · rintro j ts hh ⟨a, l', hj, ⟨b1, b2, b3⟩, ham, hda, rfl, rfl⟩
    refine takes_of_tree hE (W_ok (ST_ok hE) noL_ok) (.inr (by kernel_rfl)) (hp_below _) (b4_tree E m (cols l') m s a ((a + 2 * s : Nat) : Int)) ?_
    rw [w2]
    clear w2
    have hs0 : 1 ≤ s := by omega
    refine br_by (fun h => ?_) fun h => ?_
    · have h' : a + 2 * s ≤ m := by omega
      have uu := un_of (m := m) (l := l') (by omega)
      have hsa : s ∣ a := Nat.dvd_trans (Nat.dvd_mul_left s 2) hda
      obtain ⟨i1, i2, i3, i4⟩ := mrg_parts (l := l') (a := a) (p := a + s) (b := a + 2 * s) (by omega) (by omega) (by omega)
      have g1 := part_drop (s := a + s) b3 (Nat.le_refl a)
      have g2 := part_drop (s := a + 2 * s) b3 (show a ≤ a + s by omega)
      have q1 := hsd a hsa (by omega)
      have q2 := hsd (a + s) (Nat.dvd_add hsa (Nat.dvd_refl s)) (by omega)
      rw [show a + s + s = a + 2 * s by omega] at q2
      rw [wr_add (a := a) (b := s) (by omega), wr_add (a := a + 2 * s) (b := 2 * s) (by omega)]
      refine ⟨eB_eq (ok_blk _ _), eV_eq _, ?_, ⟨a + 2 * s, mrgO l' a (a + s) (a + 2 * s), by omega, ⟨by omega, fun t ht ht2 => ?_, ?_⟩, h', Nat.dvd_add hda (Nat.dvd_refl _), rfl, ?_⟩⟩
      · refine @decide_eq_true _ (_) ⟨wf_of (m := m) (by omega), by show (0 : Int) ≤ (a : Int); omega, by show (a : Int) < ((a + s : Nat) : Int); omega, by show ((a + s : Nat) : Int) < ((a + 2 * s : Nat) : Int); omega, by show ((a + 2 * s : Nat) : Int) ≤ (m : Int); omega, hm, ?_, ?_, by show ((a + 2 * s : Nat) : Int) - (a : Int) ≤ (big : Int); unfold big; omega⟩
        · simp only [Mx.l, uu, Int.toNat_natCast]; rw [g1]; exact q1
        · simp only [Mx.l, uu, Int.toNat_natCast]; rw [g2]; exact q2
      · by_cases hta : t + 2 * s ≤ a
        · rw [part_take i3 hta]; exact b2 t ht hta
        · have : t = a := mult_eq (by omega) ht hda (by omega) (by omega)
          subst this
          rw [i2, g1, g2]
      · rw [i4]; exact drop_more b3 (by omega)
      · show hp 0 _ = _
        simp only [Mx.mrg, Mx.l, uu, Int.toNat_natCast]
    · exact ⟨⟨(a : Int), cols l'⟩, ⟨a, s, l', rfl, rfl, rfl, ⟨b1, b2, b3⟩, ham, by show m < a + 2 * s; omega, hda⟩, rfl⟩
theorem TB4_ok (hE : Plain E) : ToldsOK Try.prog E ra base 1 TB4 := sumT_ok noT_ok rfl (toldR_ok (c := .loop (codeOf 61 (false :: k4))) (by kernel_rfl) (b4_ok hE))
end
end Go.Proofs.Ytgkejpfahpbnkaa

namespace Go.Proofs.Ytgkejpfahpbnkaa
open Ab
open Classical
theorem bl_sd {s m : Nat} {l0 l : List Rc} (h0 : l0.length = m) (h : Bl s l0 l) (hs : 1 ≤ s) {t : Nat} (ht : s ∣ t) (hm : t + s ≤ m) : Sd (part l t (t + s)) := by
  have := h.2 t ht (by omega)
  rw [h0, Nat.min_eq_left hm] at this
  rw [this]; exact isort_sd _
theorem bl_whole {s m : Nat} {l0 l : List Rc} (h0 : l0.length = m) (h : Bl s l0 l) (hs : m ≤ s) : l = isort l0 := by
  rcases Nat.eq_zero_or_pos m with hz | hz
  · have e0 : l0 = [] := List.length_eq_zero_iff.1 (by omega)
    have e1 : l = [] := List.length_eq_zero_iff.1 (by rw [h.1]; omega)
    rw [e0, e1]; rfl
  · have := h.2 0 (Nat.dvd_zero s) (by omega)
    rw [h0, Nat.zero_add, Nat.min_eq_right hs, whole_eq (h.1.trans h0), whole_eq h0] at this
    exact this
theorem bl_two {s m a : Nat} {l0 l1 l2 l3 : List Rc} (h0 : l0.length = m) (hs : 1 ≤ s) (hb : Bl s l0 l1) (hk : Mk s a l1 l2) (ha : a ≤ m) (ham : m < a + 2 * s) (hda : 2 * s ∣ a) (h3 : l3 = if a + s < m then mrgO l2 a (a + s) m else l2) : Bl (2 * s) l0 l3 := by
  obtain ⟨k1, k2, k3⟩ := hk
  have e1 : l1.length = m := hb.1.trans h0
  have hsa : s ∣ a := Nat.dvd_trans (Nat.dvd_mul_left s 2) hda
  have two : ∀ t, 2 * s ∣ t → t + 2 * s ≤ a → part l2 t (t + 2 * s) = isort (part l0 t (t + 2 * s)) := by
    intro t ht hta
    have hst : s ∣ t := Nat.dvd_trans (Nat.dvd_mul_left s 2) ht
    have g1 := hb.2 t hst (by omega)
    have g2 := hb.2 (t + s) (Nat.dvd_add hst (Nat.dvd_refl s)) (by omega)
    rw [h0, Nat.min_eq_left (by omega)] at g1 g2
    rw [k2 t ht hta, g1, show t + 2 * s = t + s + s by omega, g2, ← isort_append, ← part_cut l0 (by omega) (by omega)]
  by_cases hc : a + s < m
  · rw [if_pos hc] at h3
    subst h3
    obtain ⟨i1, i2, i3, i4⟩ := mrg_parts (l := l2) (a := a) (p := a + s) (b := m) (by omega) (by omega) (by omega)
    refine ⟨by omega, fun t ht htm => ?_⟩
    rw [h0] at htm ⊢
    by_cases hta : t + 2 * s ≤ a
    · rw [Nat.min_eq_left (by omega), part_take i3 hta, two t ht hta]
    · have : t = a := by
        rcases Nat.lt_or_ge a t with h | h
        · obtain ⟨i, rfl⟩ := ht
          obtain ⟨j, rfl⟩ := hda
          exfalso
          have e1 : j < i := Nat.lt_of_mul_lt_mul_left (a := 2 * s) h
          have e2 : 2 * s * (j + 1) ≤ 2 * s * i := Nat.mul_le_mul_left _ e1
          rw [Nat.mul_add, Nat.mul_one] at e2
          omega
        · exact mult_eq (by omega) ht hda h (by omega)
      subst this
      have g1 := hb.2 t hsa (by omega)
      have g2 := hb.2 (t + s) (Nat.dvd_add hsa (Nat.dvd_refl s)) (by omega)
      rw [h0, Nat.min_eq_left (by omega)] at g1
      rw [h0, Nat.min_eq_right (by omega)] at g2
      rw [Nat.min_eq_right (by omega), i2, part_drop k3 (Nat.le_refl _), part_drop k3 (by omega), g1, g2, ← isort_append, ← part_cut l0 (by omega) (by omega)]
  · rw [if_neg hc] at h3
    subst h3
    refine ⟨by omega, fun t ht htm => ?_⟩
    rw [h0] at htm ⊢
    by_cases hta : t + 2 * s ≤ a
    · rw [Nat.min_eq_left (by omega), two t ht hta]
    · have : t = a := by
        rcases Nat.lt_or_ge a t with h | h
        · obtain ⟨i, rfl⟩ := ht
          obtain ⟨j, rfl⟩ := hda
          exfalso
          have e1 : j < i := Nat.lt_of_mul_lt_mul_left (a := 2 * s) h
          have e2 : 2 * s * (j + 1) ≤ 2 * s * i := Nat.mul_le_mul_left _ e1
          rw [Nat.mul_add, Nat.mul_one] at e2
          omega
        · exact mult_eq (by omega) ht hda h (by omega)
      subst this
      have g1 := hb.2 t hsa (by omega)
      rw [h0, Nat.min_eq_right (by omega)] at g1
      rw [Nat.min_eq_right (by omega), part_drop k3 (Nat.le_refl _), g1]
section
variable {E : Nat → Nat → Seg} {ra : Nat → Nat → Nat × Nat} {base : Nat}
theorem wr_dbl {s : Nat} (h : s ≤ 1099511627776) : wr .i64 ((s : Int) * 2) = ((2 * s : Nat) : Int) := by rw [wr_in ⟨by omega, by omega⟩]; omega
theorem b2_ok (hE : Plain E) (x : Qx) (hx : b2Ok x = true) : Takes Try.prog E ra base 1 (.loop (codeOf 61 (false :: k2))) (mkT 63 (b2L.ins x)) (hp 0 (b2L.blks x)) fun y => PostL 63 x y b2L.alts := by
  obtain ⟨m, c, n, s⟩ := x
  have hx := @of_decide_eq_true _ (_) hx
  obtain ⟨hw, hn, hm, hs, l0, hl0, hb0⟩ := hx
  simp only [Qx.l] at hw hn hm hs hl0 hb0
  subst hn; subst hs
  have hm' := hm
  unfold big at hm'
  have e0 := cols_un hw
  have hl := un_len m c
  refine takes_loop (fun j ts hh => ∃ (s : Nat) (l1 : List Rc), m - s + 1 ≤ j ∧ 20 ≤ s ∧ s ≤ 2 * m + 20 ∧ l1.length = m ∧ (∀ l0 : List Rc, l0.length = m → Bl 20 l0 (c.un m) → Bl s l0 l1) ∧ ts = mkT 63 (stT m m (s : Int) []) ∧ hh = hp 0 [(cols l1).blkN m]) ?_ ?_ (j := m + 1) ⟨20, c.un m, by omega, Nat.le_refl _, by omega, hl, fun _ _ h => h, rfl, by rw [e0]; rfl⟩
  · rintro ts hh ⟨s, l1, h1, h2, h3, _⟩; omega
  · rintro j ts hh ⟨s, l1, hj, hs20, hs2, hl1, hbl, rfl, rfl⟩
    refine takes_of_treeQ hE (W_ok (ST_ok hE) noL_ok) (TB4_ok hE) (.inr (by kernel_rfl)) (hp_below [_]) (b2_tree E m (cols l1) m s) ?_
    by_cases hsm : s < m
    · refine br_yes (decide_eq_true (by omega)) ⟨eT_self rfl rfl (ok_blk _ _), ?_, ?_⟩
      · refine @decide_eq_true _ (_) ⟨wf_of (m := m) hl1, rfl, hm, by show (1 : Int) ≤ (s : Int); omega, by show (s : Int) < (m : Int); omega, ?_⟩
        simp only [Qx.l, un_of hl1, Int.toNat_natCast]
        exact fun t ht htm => bl_sd hl0 (hbl l0 hl0 hb0) (by omega) ht (show t + s ≤ m from htm)
      · rintro ⟨ya, yc⟩ ⟨a, s', l2, rfl, hs', rfl, hk, ham, hma, hda⟩
        have hs' : (s : Int) = (s' : Int) := hs'
        have : s' = s := by omega
        subst this
        have hk : Mk s' a l1 l2 := by rw [Qx.l, un_of hl1] at hk; exact hk
        have ham : a ≤ m := ham
        have hma : m < a + 2 * s' := hma
        have l2len : l2.length = m := hk.1.trans hl1
        dsimp only
        rw [wr_add (a := a) (b := s') (by omega), wr_dbl (s := s') (by omega)]
        by_cases hc : a + s' < m
        · have uu := un_of (m := m) (l := l2) l2len
          have bl := hbl l0 hl0 hb0
          have hsa : s' ∣ a := Nat.dvd_trans (Nat.dvd_mul_left s' 2) hda
          have q1 := bl_sd hl0 bl (by omega) hsa (by omega)
          have q2 : Sd (part l1 (a + s') m) := by
            have := bl.2 (a + s') (Nat.dvd_add hsa (Nat.dvd_refl s')) (by omega)
            rw [hl0, Nat.min_eq_right (by omega)] at this
            rw [this]; exact isort_sd _
          refine br_yes (decide_eq_true (by omega)) ⟨eB_eq (ok_blk _ _), eV_eq _, ?_, ⟨2 * s', mrgO l2 a (a + s') m, by omega, by omega, by omega, ?_, fun l0 h0 hb => bl_two h0 (by omega) (hbl l0 h0 hb) hk ham hma hda (by rw [if_pos hc]), rfl, ?_⟩⟩
          · refine @decide_eq_true _ (_) ⟨wf_of (m := m) l2len, by show (0 : Int) ≤ (a : Int); omega, by show (a : Int) < ((a + s' : Nat) : Int); omega, by show ((a + s' : Nat) : Int) < (m : Int); omega, by show (m : Int) ≤ (m : Int); omega, hm, ?_, ?_, by show (m : Int) - (a : Int) ≤ (big : Int); unfold big; omega⟩
            · simp only [Mx.l, uu, Int.toNat_natCast]; rw [part_drop hk.2.2 (Nat.le_refl a)]; exact q1
            · simp only [Mx.l, uu, Int.toNat_natCast]; rw [part_drop hk.2.2 (by omega)]; exact q2
          · rw [mrgO_len (by omega) (by omega) (by omega)]; exact l2len
          · show hp 0 _ = _
            simp only [Mx.mrg, Mx.l, uu, Int.toNat_natCast]
        · exact br_no (decide_eq_false (by omega)) ⟨2 * s', l2, by omega, by omega, by omega, l2len, fun l0 h0 hb => bl_two h0 (by omega) (hbl l0 h0 hb) hk ham hma hda (by rw [if_neg hc]), rfl, rfl⟩
    · refine br_no (decide_eq_false (by omega)) ⟨cols l1, fun l0 h0 hb => ?_, rfl⟩
      rw [Qx.l] at hb
      have h0 : l0.length = m := h0
      rw [bl_whole h0 (hbl l0 h0 hb) (by omega)]
theorem TB_ok (hE : Plain E) : ToldsOK Try.prog E ra base 1 TB := sumT_ok (sumT_ok noT_ok rfl (toldR_ok (c := .loop (codeOf 61 (false :: k2))) (by kernel_rfl) (b2_ok hE))) rfl (toldR_ok (c := .loop (codeOf 61 (false :: k0))) (by kernel_rfl) (b0_ok hE))
theorem st_gives (hE : Plain E) (x : Rx) (hx : stOk x = true) : Gives Try.prog E ra base 1 61 (stD.args x) (hp 0 (stD.blks x)) fun v h' => v = stD.out x ∧ h' = hp 0 (stD.blks' x) := by
  refine gives_of_treeQ hE (W_ok (ST_ok hE) noL_ok) (TB_ok hE) (hp_below [_]) (fs_tree E x) ?_
  obtain ⟨m, c⟩ := x
  simp only [stOk, Bool.and_eq_true, decide_eq_true_eq] at hx
  obtain ⟨hw, hm⟩ := hx
  have hm' := hm
  unfold big at hm'
  have e0 := cols_un hw
  have hl := un_len m c
  refine ⟨eT_self rfl rfl (ok_blk _ _), @decide_eq_true _ (_) ⟨hw, rfl, hm⟩, ?_⟩
  rintro ⟨ya, yc⟩ ⟨a, l', rfl, rfl, ⟨b1, b2, b3⟩, ham, hma, hda⟩
  have ham : a ≤ m := ham
  have hma : m < a + 20 := hma
  simp only [Qx.l] at b1 b2 b3
  have uu := un_of (m := m) (l := l') (by omega)
  obtain ⟨i1, i2, i3, i4⟩ := ins_parts (l := l') (a := a) (b := m) (by omega) (by omega)
  have out : Ix.out ⟨m, cols l', (a : Int), (m : Int), 0⟩ = cols (insO l' a m) := by simp only [Ix.out, Ix.l, uu, Int.toNat_natCast]
  have bl : Bl 20 (c.un m) (insO l' a m) := by
    refine ⟨by omega, fun t ht htm => ?_⟩
    rw [hl] at htm ⊢
    by_cases hta : t + 20 ≤ a
    · rw [Nat.min_eq_left (by omega), part_take i3 hta, b2 t ht hta]
    · have : t = a := by omega
      subst this
      rw [Nat.min_eq_right (by omega), i2, part_drop b3 (Nat.le_refl _)]
  dsimp only
  rw [out]
  refine ⟨eB_eq (ok_blk _ _), eV_eq _, ?_, eT_self rfl rfl (ok_blk _ _), @decide_eq_true _ (_) ⟨wf_of (m := m) (by omega), rfl, hm, rfl, c.un m, hl, ?_⟩, fun z hz => ⟨_, rfl, rfl, ?_⟩⟩
  · simp only [ioOk, Bool.and_eq_true, decide_eq_true_eq]
    exact ⟨wf_of (m := m) (by omega), by omega, by omega, by omega, hm⟩
  · rw [Qx.l, un_of (m := m) (by omega)]; exact bl
  · have := hz (c.un m) hl (by rw [Qx.l, un_of (m := m) (by omega)]; exact bl)
    rw [this]; rfl
end
end Go.Proofs.Ytgkejpfahpbnkaa

namespace Go.Proofs.Ytgkejpfahpbnkaa
open Ab
structure Ql where
  nil : Bool
  lit : Bool
  n : Nat
  m : Nat
  c : C6
def litB : Blk := .segs [⟨0, 6, [.val [], .val [], .val [], .val [], .val [], .val []]⟩]
def litV (i : Nat) : AVal := .slice (.own i 0 0 6) 0 (some 0)
def slN (i n : Nat) : AVal := .slice (.own i 0 0 6) n none
def Ql.v (i : Nat) (x : Ql) : AVal := match x.nil, x.lit with
  | true, _ => .nils
  | false, true => litV i
  | false, false => slN i x.n
def Ql.blk (x : Ql) : List Blk := match x.nil, x.lit with
  | true, _ => []
  | false, true => [litB]
  | false, false => [x.c.blkN x.m]
def Ql.l (x : Ql) : List Rc := match x.nil, x.lit with
  | true, _ => []
  | false, true => []
  | false, false => (x.c.un x.m).take x.n
def Ql.ok (x : Ql) : Bool := match x.nil, x.lit with
  | true, _ => true
  | false, true => true
  | false, false => x.c.wf x.m && (decide (x.n ≤ x.m) && decide (x.m ≤ big))
def C6.take (n : Nat) (c : C6) : C6 := ⟨c.k.take n, c.t.take n, c.v.take n, c.s.take n, c.e.take n, c.f.take n⟩
def qlOf (v : AVal) (Bs : List Blk) : Option (Ql × List Blk) := match v, Bs with
  | .nils, R => some (⟨true, false, 0, 0, ⟨[], [], [], [], [], []⟩⟩, R)
  | .slice _ _ (some _), _ :: R => some (⟨false, true, 0, 0, ⟨[], [], [], [], [], []⟩⟩, R)
  | .slice _ n none, B :: R => match B, c6O B with
    | .segs [⟨m, _, _⟩], some c => some (⟨false, false, n, m, c⟩, R)
    | _, _ => none
  | _, _ => none
def ql1 (us : List AVal) (Bs : List Blk) : Option Ql := match us with
  | v :: _ => match qlOf v Bs with
    | some (x, _) => some x
    | none => none
  | _ => none
def Ql.none (x : Ql) : Bool := x.lit || Nat.beq x.n 0
def Ql.e1 (x : Ql) : Bool := !x.nil && x.none
def clN (f : FuncId) : CDeal Ql := ⟨fun _ => [.nils], fun _ => [], fun x => x.nil, fun _ => .nils, fun _ => []⟩
def clE : CDeal Ql := ⟨fun x => [x.v 0], fun x => x.blk, fun x => x.ok && (!x.nil && x.none), fun _ => litV 1, fun x => x.blk ++ [litB]⟩
def clG : CDeal Ql := ⟨fun x => [x.v 0], fun x => x.blk, fun x => x.ok && (!x.nil && (!x.lit && decide (1 ≤ x.n))), fun x => slN 1 x.n, fun x => x.blk ++ [(x.c.take x.n).blkN x.n]⟩
def srG : CDeal Ql := ⟨fun x => [x.v 0], fun x => x.blk, fun x => x.ok && (!x.nil && (!x.lit && decide (1 ≤ x.n))), fun x => slN 1 x.n, fun x => x.blk ++ [(cols (isort x.l)).blkN x.n]⟩
end Go.Proofs.Ytgkejpfahpbnkaa

namespace Go.Proofs.Ytgkejpfahpbnkaa
open Ab
def S61 : Sums := sumF 61 (callG stD rxO) noS
def stN : CDeal Ql := ⟨fun _ => [.nils, .fn 46 []], fun _ => [], fun x => x.nil, fun _ => .undef, fun _ => []⟩
def st0D : CDeal Ql := ⟨fun _ => [litV 0, .fn 46 []], fun _ => [litB], fun x => x.lit, fun _ => .undef, fun _ => [litB]⟩
def st1D : CDeal Ql := ⟨fun x => [slN 0 x.n, .fn 46 []], fun x => [x.c.blkN x.n], fun x => x.c.wf x.n && decide (x.n ≤ big), fun _ => .undef, fun x => [(cols (isort (x.c.un x.n))).blkN x.n]⟩
def SQ : Sums := sumF 25 (callNG [(Ql.nil, clN 25), (Ql.e1, clE)] clG ql1) (sumF 54 (callNG [(Ql.nil, stN), (Ql.lit, st0D)] st1D ql1) noS)
def S32 (S : Sums) : Sums := sumF 25 (callNG [(Ql.nil, clN 25), (Ql.e1, clE)] clG ql1) (sumF 32 (callNG [(Ql.nil, clN 32), (Ql.e1, clE)] srG ql1) S)
end Go.Proofs.Ytgkejpfahpbnkaa

namespace Go.Proofs.Ytgkejpfahpbnkaa
open Ab
def lfV (v : AVal) (Bs : List Blk) : Tree State := .leaf (.ret, mkT 1 [(0, v)], hp 0 Bs)
theorem cl_n (E : Nat → Nat → Seg) : ((callB Try.prog E noS (W E noS noL) 25 [.nils]).full ⟨hp 0 [], 0, [], []⟩ leafV).take 0 (.c (.leaf [] 1)) = lfV .nils [] := by kernel_rfl
theorem cl_l (E : Nat → Nat → Seg) : ((callB Try.prog E noS (W E noS noL) 25 [litV 0]).full ⟨hp 0 [litB], 1, [], []⟩ leafV).take 1 (cs 5 (.leaf [0, 1] 1)) = lfV (litV 1) [litB, litB] := by kernel_rfl
theorem cl_g (E : Nat → Nat → Seg) (n m : Nat) (c : C6) : ((callB Try.prog E noS (W E noS noL) 25 [slN 0 n]).full ⟨hp 0 [c.blkN m], 1, [], []⟩ leafV).take 1 (.c (.x (.n (.n (.c (.leaf [0, 1] 1)))) (.n (.c (.n (.leaf [0, 2] 1)))))) =
  .br (Nat.ble (0 + n) 0) (.need (decide (0 + n ≤ 0)) (.need (decide (0 + n ≤ m)) (lfV (.slice (.own 1 0 0 6) (0 + n) (some 0)) [c.blkN m, litB])))
    (.need (decide ((0 + n) * 32 ≤ 35184372088832)) (.need (decide (0 + n ≤ m)) (lfV (slN 1 (0 + n)) [c.blkN m, C6.blkN (0 + n) ⟨List.take n (List.drop 0 c.k), List.take n (List.drop 0 c.t), List.take n (List.drop 0 c.v), List.take n (List.drop 0 c.s), List.take n (List.drop 0 c.e), List.take n (List.drop 0 c.f)⟩]))) := by kernel_rfl
theorem s5_n (E : Nat → Nat → Seg) : ((callB Try.prog E noS (W E noS noL) 54 [.nils, .fn 46 []]).full ⟨hp 0 [], 0, [], []⟩ leafV).take 0 (.c (.c (.c (.leaf [] 0)))) = .leaf (.ret, mkT 1 [], []) := by kernel_rfl
theorem s5_l (E : Nat → Nat → Seg) : ((callB Try.prog E noS (W E noS noL) 54 [litV 0, .fn 46 []]).full ⟨hp 0 [litB], 1, [], []⟩ leafV).take 1 (.c (.c (.c (.leaf [0] 0)))) = .leaf (.ret, mkT 1 [], hp 0 [litB]) := by kernel_rfl
theorem s5_g (E : Nat → Nat → Seg) (n : Nat) (c : C6) : ((callB Try.prog E S61 (W E S61 noL) 54 [slN 0 n, .fn 46 []]).full ⟨hp 0 [c.blkN n], 1, [], []⟩ leafV).take 1 (.n (.n (.n (.leaf [0] 0)))) =
  .need (eB [c.blkN n]) (.need (eV (stD.args ⟨n, c⟩)) (.need (stOk ⟨n, c⟩) (.leaf (.ret, mkT 1 [], hp 0 [(cols (isort (c.un n))).blkN n])))) := by kernel_rfl
theorem so_n (E : Nat → Nat → Seg) : ((callB Try.prog E SQ (W E SQ noL) 32 [.nils]).full ⟨hp 0 [], 0, [], []⟩ leafV).take 0 (cs 8 (.leaf [] 1)) = lfV .nils [] := by kernel_rfl
theorem so_l (E : Nat → Nat → Seg) : ((callB Try.prog E SQ (W E SQ noL) 32 [litV 0]).full ⟨hp 0 [litB], 1, [], []⟩ leafV).take 1 (cs 10 (.leaf [0, 1] 1)) = lfV (litV 1) [litB, litB] := by kernel_rfl
theorem so_g (E : Nat → Nat → Seg) (n m : Nat) (c : C6) : ((callB Try.prog E SQ (W E SQ noL) 32 [slN 0 n]).full ⟨hp 0 [c.blkN m], 1, [], []⟩ leafV).take 1 (.c (.x (.n (.n (.n (cs 5 (.leaf [0, 1] 1))))) (.n (.n (.n (.c (.c (.n (.n (.n (.leaf [0, 1] 1))))))))))) =
  .br (Ql.e1 ⟨false, false, n, m, c⟩) (.need (eB [c.blkN m]) (.need (eV [slN 0 n]) (.need (Ql.ok ⟨false, false, n, m, c⟩ && (true && Ql.none ⟨false, false, n, m, c⟩)) (lfV (litV 1) [c.blkN m, litB]))))
    (.need (eB [c.blkN m]) (.need (eV [slN 0 n]) (.need (Ql.ok ⟨false, false, n, m, c⟩ && (true && (true && decide (1 ≤ n))))
      (.need (eB [(c.take n).blkN n]) (.need (eV [slN 0 n, .fn 46 []]) (.need ((c.take n).wf n && decide (n ≤ big)) (lfV (slN 1 n) [c.blkN m, (cols (isort ((c.take n).un n))).blkN n]))))))) := by kernel_rfl
end Go.Proofs.Ytgkejpfahpbnkaa

namespace Go.Proofs.Ytgkejpfahpbnkaa
open Ab
theorem take_cols {m n : Nat} {c : C6} (hw : c.wf m = true) (h : n ≤ m) : (c.take n).wf n = true ∧ (c.take n).un n = (c.un m).take n := by
  have e : c.take n = cols ((c.un m).take n) := by
    conv => lhs; rw [← cols_un hw]
    simp only [C6.take, cols, List.map_take]
  have hl : ((c.un m).take n).length = n := by rw [List.length_take, un_len]; omega
  rw [e]
  exact ⟨wf_of hl, un_of hl⟩
section
variable {E : Nat → Nat → Seg} {ra : Nat → Nat → Nat × Nat} {base : Nat} {S : Sums}
theorem cl_sum (hE : Plain E) (hS : SumsOK Try.prog E ra base S) : SumsOK Try.prog E ra base (sumF 25 (callNG [(Ql.nil, clN 25), (Ql.e1, clE)] clG ql1) S) := by
  refine sumNG_deal hE hS ⟨_, Try.func25, by kernel_rfl⟩ (fun q hq => ?_) ?_
  · simp only [List.mem_cons, List.not_mem_nil, or_false] at hq
    rcases hq with rfl | rfl
    · intro x hx
      exact (gives_of_tree hE (W_ok sumNone_ok noL_ok) sumNone_ok (hp_below []) (cl_n E) ⟨_, rfl, rfl, rfl⟩).2
    · rintro ⟨nil, li, n, m, c⟩ hx
      simp only [clE, Bool.and_eq_true, Bool.not_eq_true'] at hx
      obtain ⟨ho, hn, hz⟩ := hx
      subst hn
      cases li
      · simp only [Ql.ok, Bool.and_eq_true, decide_eq_true_eq] at ho
        have hz : n = 0 := Nat.eq_of_beq_eq_true (by simpa [Ql.none] using hz)
        subst hz
        refine (gives_of_tree hE (W_ok sumNone_ok noL_ok) sumNone_ok (hp_below [_]) (cl_g E 0 m c) ?_).2
        exact brT_yes rfl ⟨rfl, decide_eq_true (by omega), ⟨_, rfl, rfl, rfl⟩⟩
      · exact (gives_of_tree hE (W_ok sumNone_ok noL_ok) sumNone_ok (hp_below [_]) (cl_l E) ⟨_, rfl, rfl, rfl⟩).2
  · rintro ⟨nil, li, n, m, c⟩ hx
    simp only [clG, Bool.and_eq_true, Bool.not_eq_true', decide_eq_true_eq] at hx
    obtain ⟨ho, hn, hli, h1⟩ := hx
    subst hn; subst hli
    simp only [Ql.ok, Bool.and_eq_true, decide_eq_true_eq] at ho
    obtain ⟨hw, hnm, hm⟩ := ho
    unfold big at hm
    refine (gives_of_tree hE (W_ok sumNone_ok noL_ok) sumNone_ok (hp_below [_]) (cl_g E n m c) ?_).2
    have e : Nat.ble (0 + n) 0 = false := by
      cases h : Nat.ble (0 + n) 0
      · rfl
      · have := Nat.le_of_ble_eq_true h; omega
    refine brT_no e ⟨decide_eq_true (by omega), decide_eq_true (by omega), ⟨_, rfl, ?_, ?_⟩⟩
    · show slN 1 (0 + n) = slN 1 n
      rw [Nat.zero_add]
    · show hp 0 _ = hp 0 _
      simp only [List.drop_zero, Nat.zero_add]; rfl
theorem S61_ok (hE : Plain E) : SumsOK Try.prog E ra base S61 := sumG_deal hE sumNone_ok ⟨_, Try.func61, by kernel_rfl⟩ fun x hx => st_gives hE x hx
theorem SQ_ok (hE : Plain E) : SumsOK Try.prog E ra base SQ := by
  refine cl_sum hE (sumNG_deal hE sumNone_ok ⟨_, Try.func54, by kernel_rfl⟩ (fun q hq => ?_) ?_)
  · simp only [List.mem_cons, List.not_mem_nil, or_false] at hq
    rcases hq with rfl | rfl
    · intro x hx
      exact (gives_of_tree hE (W_ok sumNone_ok noL_ok) sumNone_ok (hp_below []) (s5_n E) ⟨_, rfl, rfl, rfl⟩).2
    · intro x hx
      exact (gives_of_tree hE (W_ok sumNone_ok noL_ok) sumNone_ok (hp_below [_]) (s5_l E) ⟨_, rfl, rfl, rfl⟩).2
  · rintro ⟨nil, li, n, m, c⟩ hx
    refine (gives_of_tree hE (W_ok (S61_ok hE) noL_ok) (S61_ok hE) (hp_below [_]) (s5_g E n c) ?_).2
    exact ⟨eB_eq (ok_blk _ _), eV_eq _, hx, ⟨_, rfl, rfl, rfl⟩⟩
theorem sort_sum (hE : Plain E) (hS : SumsOK Try.prog E ra base S) : SumsOK Try.prog E ra base (sumF 32 (callNG [(Ql.nil, clN 32), (Ql.e1, clE)] srG ql1) S) := by
  refine sumNG_deal hE hS ⟨_, Try.func32, by kernel_rfl⟩ (fun q hq => ?_) ?_
  · simp only [List.mem_cons, List.not_mem_nil, or_false] at hq
    rcases hq with rfl | rfl
    · intro x hx
      exact (gives_of_tree hE (W_ok (SQ_ok hE) noL_ok) (SQ_ok hE) (hp_below []) (so_n E) ⟨_, rfl, rfl, rfl⟩).2
    · rintro ⟨nil, li, n, m, c⟩ hx
      simp only [clE, Bool.and_eq_true, Bool.not_eq_true'] at hx
      obtain ⟨ho, hn, hz⟩ := hx
      subst hn
      cases li
      · refine (gives_of_tree hE (W_ok (SQ_ok hE) noL_ok) (SQ_ok hE) (hp_below [_]) (so_g E n m c) ?_).2
        refine brT_yes (by simp only [Ql.e1, Bool.not_false, Bool.true_and]; exact hz) ⟨eB_eq (ok_blk _ _), eV_eq _, ?_, ⟨_, rfl, rfl, rfl⟩⟩
        rw [ho, hz]; rfl
      · exact (gives_of_tree hE (W_ok (SQ_ok hE) noL_ok) (SQ_ok hE) (hp_below [_]) (so_l E) ⟨_, rfl, rfl, rfl⟩).2
  · rintro ⟨nil, li, n, m, c⟩ hx
    simp only [srG, Bool.and_eq_true, Bool.not_eq_true', decide_eq_true_eq] at hx
    obtain ⟨ho, hn, hli, h1⟩ := hx
    subst hn; subst hli
    have ho' := ho
    simp only [Ql.ok, Bool.and_eq_true, decide_eq_true_eq] at ho
    obtain ⟨hw, hnm, hm⟩ := ho
    obtain ⟨t1, t2⟩ := take_cols hw hnm
    refine (gives_of_tree hE (W_ok (SQ_ok hE) noL_ok) (SQ_ok hE) (hp_below [_]) (so_g E n m c) ?_).2
    have e : Nat.beq n 0 = false := by
      cases h : Nat.beq n 0
      · rfl
      · have := Nat.eq_of_beq_eq_true h; omega
    refine brT_no (by simp only [Ql.e1, Ql.none, e]; rfl) ⟨eB_eq (ok_blk _ _), eV_eq _, ?_, eB_eq (ok_blk _ _), eV_eq _, ?_, ⟨_, rfl, rfl, ?_⟩⟩
    · rw [ho', decide_eq_true h1]; rfl
    · rw [t1, decide_eq_true (show n ≤ big by omega)]; rfl
    · rw [t2]; rfl
theorem S32_ok (hE : Plain E) (hS : SumsOK Try.prog E ra base S) : SumsOK Try.prog E ra base (S32 S) := cl_sum hE (sort_sum hE hS)
end
end Go.Proofs.Ytgkejpfahpbnkaa

namespace Go.Proofs.Ytgkejpfahpbnkaa
open Ab
structure Al where
  c : List Bool
  d : List Bool
  n : Int
  m : Int
  l : Int
def Al.blk (x : Al) : Blk := .segs [⟨1, 1, [.int .i64 [x.n]]⟩, ⟨16, 1, [.bool x.c]⟩, ⟨1, 1, [.int .i64 [x.m]]⟩, ⟨16, 1, [.bool x.d]⟩, ⟨1, 1, [.int .i64 [x.l]]⟩]
def alOf : Blk → Option Al
  | .segs [⟨_, _, [.int _ [n]]⟩, ⟨_, _, [.bool c]⟩, ⟨_, _, [.int _ [m]]⟩, ⟨_, _, [.bool d]⟩, ⟨_, _, [.int _ [l]]⟩] => some ⟨c, d, n, m, l⟩
  | _ => none
def okAl (x : Al) : Bool := decide (x.c.length = 16) && (decide (x.d.length = 16) && (decide (0 ≤ x.n) && (decide (x.n ≤ 16) && (decide (0 ≤ x.m) && decide (x.m ≤ 16)))))
def Al.p (x : Al) : List Bool := x.c.take x.n.toNat
def Al.q (x : Al) : List Bool := x.d.take x.m.toNat
def allB (l : List Bool) (g : Bool) : Bool := l.all fun b => b == g
def phaseL (p q : List Bool) : Int := if (allB p false && allB q false) = true then 0 else if allB p true = false then 1 else if allB q true = false then 2 else 3
def comeE (p : List Bool) (l i k : Int) : Int := if i < 0 ∨ (p.length : Int) ≤ i then 2 else if p.getD i.toNat false = true then 19 else if wr .i64 (k - 1) ≠ l then 7 else 0
def putB (c : List Bool) (e i : Int) : List Bool := if e = 0 then c.set i.toNat true else c
def Al.come (x : Al) (i k : Int) : Al := { x with c := putB x.c (comeE x.p x.l i k) i }
def Al.done (x : Al) : Al := if phaseL x.p x.q = 3 then ⟨List.replicate 16 false, List.replicate 16 false, x.n, x.m, wr .i64 (x.l + 1)⟩ else x
def isB (p : List Bool) (i : Int) : Bool := decide (0 ≤ i) && (decide (i < p.length) && p.getD i.toNat false)
structure AllX where
  x : Al
  s : Bool
  g : Bool
def allD : CDeal AllX where
  args y := [match y.s with
    | true => .slice (.own 0 1 0 1) y.x.n.toNat (some 16)
    | false => .slice (.own 0 18 0 1) y.x.m.toNat (some 16), match y.g with
    | true => .fn 50 []
    | false => .fn 49 []]
  blks y := [y.x.blk]
  pre y := okAl y.x
  out y := match y.s with
    | true => .bool (allB y.x.p y.g)
    | false => .bool (allB y.x.q y.g)
  blks' y := [y.x.blk]
def allO (us : List AVal) (Bs : List Blk) : Option AllX := match us, Bs with
  | [.slice (.own _ o _ _) _ _, .fn f _], [B] => match alOf B with
    | some x => some ⟨x, Nat.beq o 1, Nat.beq f 50⟩
    | none => none
  | _, _ => none
def alD (out : Al → AVal) (nx : Al → Al) : CDeal Al := ⟨fun _ => [.ptr (.own 0 0 0 0)], fun x => [x.blk], okAl, out, fun x => [(nx x).blk]⟩
def al1 (_ : List AVal) (Bs : List Blk) : Option Al := match Bs with
  | [B] => alOf B
  | _ => none
structure AlI where
  x : Al
  i : Int
  k : Int
def alI (us : List AVal) (Bs : List Blk) : Option AlI := match us, Bs with
  | [_, .int _ i], [B] => match alOf B with
    | some x => some ⟨x, i, 0⟩
    | none => none
  | [_, .int _ i, .int _ k], [B] => match alOf B with
    | some x => some ⟨x, i, k⟩
    | none => none
  | _, _ => none
def phaseD : CDeal Al := alD (fun x => .int .i64 (phaseL x.p x.q)) id
def lastD : CDeal Al := alD (fun x => .int .i64 x.l) id
def blockedD : CDeal AlI := ⟨fun y => [.ptr (.own 0 0 0 0), .int .i64 y.i], fun y => [y.x.blk], fun y => okAl y.x, fun y => .bool (isB y.x.p y.i), fun y => [y.x.blk]⟩
def comeD : CDeal AlI := ⟨fun y => [.ptr (.own 0 0 0 0), .int .i64 y.i, .int .i64 y.k], fun y => [y.x.blk], fun y => okAl y.x, fun y => .int .i64 (comeE y.x.p y.x.l y.i y.k), fun y => [(y.x.come y.i y.k).blk]⟩
def doneD : CDeal Al := alD (fun x => .int .i64 (if phaseL x.p x.q = 3 then 0 else 7)) Al.done
def allIns (y : AllX) : List (Nat × AVal) := [(1, match y.g with
    | true => .fn 50 []
    | false => .fn 49 []), (7, match y.s with
    | true => .slice (.own 0 1 0 1) y.x.n.toNat (some 16)
    | false => .slice (.own 0 18 0 1) y.x.m.toNat (some 16)), (8, .int .i64 (match y.s with
    | true => (y.x.n.toNat : Int)
    | false => (y.x.m.toNat : Int))), (9, .int .i64 0)]
def allV (y : AllX) : Bool := match y.s with
    | true => allB y.x.p y.g
    | false => allB y.x.q y.g
def allL1 : Deal AllX := ⟨allIns, fun y => [y.x.blk], fun y => okAl y.x && allV y, fun _ => .exit 0, fun _ => [], fun y => [y.x.blk]⟩
def allL2 : Deal AllX := ⟨allIns, fun y => [y.x.blk], fun y => okAl y.x && !allV y, fun _ => .ret, fun _ => [(4, .bool false)], fun y => [y.x.blk]⟩
def allLO (us : List AVal) (Bs : List Blk) : Option AllX := match us with
  | [f, s] => allO [s, f] Bs
  | _ => none
def L48 : Loops := sumL 48 [false, true, false, true] (loop2G 18 allL1 allL2 allV [1, 7] allLO) noL
structure Tri where
  n : Int
  m : Int
  l : Int
def triOf (us : List AVal) (_ : List Blk) : Option Tri := match us with
  | [.int _ n, .int _ m, .int _ l] => some ⟨n, m, l⟩
  | _ => none
def Tri.as (t : Tri) : List AVal := [.int .i64 t.n, .int .i64 t.m, .int .i64 t.l]
def newOkA (t : Tri) : Bool := decide (1 ≤ t.n) && (decide (t.n ≤ 16) && (decide (0 ≤ t.m) && (decide (t.m ≤ 16) && decide (0 ≤ t.l))))
def newAl (t : Tri) : Al := ⟨List.replicate 16 false, List.replicate 16 false, t.n, t.m, t.l⟩
def newA1 : CDeal Tri := ⟨Tri.as, fun _ => [], newOkA, fun _ => .ptr (.own 0 0 0 0), fun t => [(newAl t).blk]⟩
def newA2 : CDeal Tri := ⟨Tri.as, fun _ => [], fun t => !newOkA t, fun _ => .nilp, fun _ => []⟩
def S48 : Sums := sumF 48 (callG allD allO) noS
def SA2 (S : Sums) : Sums := sumF 27 (callG blockedD alI) (sumF 31 (callG lastD al1) (sumF 34 (callG phaseD al1) S))
def SA (S : Sums) : Sums := sumF 24 (call2G newA1 newA2 newOkA triOf) (sumF 38 (callG doneD al1) (sumF 44 (callG comeD alI) (SA2 S)))
structure Fr where
  c : List Int
  n : Int
  t : Int
def Fr.blk (x : Fr) : Blk := .segs [⟨16, 1, [.int .i64 x.c]⟩, ⟨1, 1, [.int .i64 [x.n]]⟩, ⟨1, 1, [.int .i64 [x.t]]⟩]
def frOf : Blk → Option Fr
  | .segs [⟨_, _, [.int _ c]⟩, ⟨_, _, [.int _ [n]]⟩, ⟨_, _, [.int _ [t]]⟩] => some ⟨c, n, t⟩
  | _ => none
def okFr (x : Fr) : Bool := decide (x.c.length = 16) && (decide (1 ≤ x.n) && decide (x.n ≤ 16))
def Fr.l (x : Fr) : List Int := x.c.take x.n.toNat
def leastL (v : Int) (l : List Int) : Int := l.foldl (fun a x => if x < a then x else a) v
def minF (x : Fr) : Int := leastL (x.c.getD 0 0) x.l
structure Le where
  v : Int
  x : Fr
def leO (us : List AVal) (Bs : List Blk) : Option Le := match us, Bs with
  | [.int _ v, _], [B] => match frOf B with
    | some x => some ⟨v, x⟩
    | none => none
  | _, _ => none
def leSl (x : Fr) : AVal := .slice (.own 0 0 0 1) x.n.toNat (some x.n.toNat)
def leastD : CDeal Le := ⟨fun y => [.int .i64 y.v, leSl y.x], fun y => [y.x.blk], fun y => okFr y.x, fun y => .int .i64 (leastL y.v y.x.l), fun y => [y.x.blk]⟩
def leastLoop : Deal Le := ⟨fun y => [(0, .int .i64 y.v), (7, leSl y.x), (8, .int .i64 y.x.n.toNat), (9, .int .i64 0)], fun y => [y.x.blk], fun y => okFr y.x, fun _ => .exit 0, fun y => [(0, .int .i64 (leastL y.v y.x.l))], fun y => [y.x.blk]⟩
def L47 : Loops := sumL 47 [false, true, false, true] (loopG 19 leastLoop [0, 7] leO) noL
def frD (out : Fr → AVal) : CDeal Fr := ⟨fun _ => [.ptr (.own 0 0 0 0)], fun x => [x.blk], okFr, out, fun x => [x.blk]⟩
def fr1 (_ : List AVal) (Bs : List Blk) : Option Fr := match Bs with
  | [B] => frOf B
  | _ => none
structure FrM where
  x : Fr
  i : Int
  a : Int
def frM (us : List AVal) (Bs : List Blk) : Option FrM := match us, Bs with
  | [_, .int _ i, .int _ a], [B] => match frOf B with
    | some x => some ⟨x, i, a⟩
    | none => none
  | [_, .int _ i], [B] => match frOf B with
    | some x => some ⟨x, i, 0⟩
    | none => none
  | _, _ => none
def markE (l : List Int) (i a : Int) : Int := if i < 0 ∨ (l.length : Int) ≤ i then 2 else if a < l.getD i.toNat 0 ∨ 1152921504606846976 < a then 12 else 0
def putI (c : List Int) (e i a : Int) : List Int := if e = 0 then c.set i.toNat a else c
def Fr.mark (x : Fr) (i a : Int) : Fr := { x with c := putI x.c (markE x.l i a) i a }
def minD : CDeal Fr := frD fun x => .int .i64 (minF x)
def markD : CDeal FrM := ⟨fun y => [.ptr (.own 0 0 0 0), .int .i64 y.i, .int .i64 y.a], fun y => [y.x.blk], fun y => okFr y.x, fun y => .int .i64 (markE y.x.l y.i y.a), fun y => [(y.x.mark y.i y.a).blk]⟩
def newFr (n : Int) : Fr := ⟨List.replicate 16 0, n, 0⟩
def newOkF (n : Int) : Bool := decide (1 ≤ n) && decide (n ≤ 16)
def intO (us : List AVal) (_ : List Blk) : Option Int := match us with
  | [.int _ n] => some n
  | _ => none
def newF1 : CDeal Int := ⟨fun n => [.int .i64 n], fun _ => [], newOkF, fun _ => .ptr (.own 0 0 0 0), fun n => [(newFr n).blk]⟩
def newF2 : CDeal Int := ⟨fun n => [.int .i64 n], fun _ => [], fun n => !newOkF n, fun _ => .nilp, fun _ => []⟩
def S47 : Sums := sumF 47 (callG leastD leO) noS
def ilV (i n : Nat) : AVal := .slice (.own i 0 0 1) n none
def ilN (n : Nat) (l : List Int) : Blk := .segs [⟨n, 1, [.int .i64 l]⟩]
def marksD : CDeal Fr := ⟨fun _ => [.ptr (.own 0 0 0 0)], fun x => [x.blk], okFr, fun x => ilV 1 x.n.toNat, fun x => [x.blk, ilN x.n.toNat x.l]⟩
def withD : CDeal Unit := ⟨fun _ => [.int .i64 0], fun _ => [], fun _ => true, fun _ => .int .i64 0, fun _ => []⟩
def SF (S : Sums) : Sums := sumF 26 (callG marksD fr1) (sumF 39 (call2G newF1 newF2 newOkF intO) (sumF 41 (callG markD frM) (sumF 33 (callG minD fr1) (sumF 40 (callG withD fun _ _ => some ()) S))))
end Go.Proofs.Ytgkejpfahpbnkaa

namespace Go.Proofs.Ytgkejpfahpbnkaa
open Ab
theorem all_round_it (E : Nat → Nat → Seg) (n : Nat) (k i : Int) (x : Al) : ((W E noS noL 48 [false, false, true, false, true] false (codeOf 48 [false, false, true, false, true]) (mkT 18 [(1, .fn 50 []), (7, .slice (.own 0 1 0 1) n (some 16)), (8, .int .i64 k), (9, .int .i64 i)])).full ⟨hp 0 [x.blk], 1, [], []⟩ leafS).take 1 (.x (.n (.n (.x (.leaf [0] 16) (.leaf [0] 898)))) (.leaf [0] 16)) =
  (.br (decide (i < k))
  (.need (decide (0 ≤ i) && decide (i < (↑n : Int))) (.need (decide (0 + Int.toNat i < 16)) (.br (!List.getD (Al.c x) (0 + Int.toNat i) false)
    (.leaf (.ret, mkT 18 [(4, .bool false)], [(0, some (.segs [⟨1, 1, [.int .i64 [Al.n x]]⟩, ⟨16, 1, [.bool (Al.c x)]⟩, ⟨1, 1, [.int .i64 [Al.m x]]⟩, ⟨16, 1, [.bool (Al.d x)]⟩, ⟨1, 1, [.int .i64 [Al.l x]]⟩]))]))
    (.leaf (.normal, mkT 18 [(1, .fn 50 []), (7, .slice (.own 0 1 0 1) n (some 16)), (8, .int .i64 k), (9, .int .i64 (wr .i64 (i + 1)))], [(0, some (.segs [⟨1, 1, [.int .i64 [Al.n x]]⟩, ⟨16, 1, [.bool (Al.c x)]⟩, ⟨1, 1, [.int .i64 [Al.m x]]⟩, ⟨16, 1, [.bool (Al.d x)]⟩, ⟨1, 1, [.int .i64 [Al.l x]]⟩]))])))))
  (.leaf (.exit 0, mkT 18 [], [(0, some (.segs [⟨1, 1, [.int .i64 [Al.n x]]⟩, ⟨16, 1, [.bool (Al.c x)]⟩, ⟨1, 1, [.int .i64 [Al.m x]]⟩, ⟨16, 1, [.bool (Al.d x)]⟩, ⟨1, 1, [.int .i64 [Al.l x]]⟩]))]))) := by kernel_rfl
theorem all_round_if (E : Nat → Nat → Seg) (n : Nat) (k i : Int) (x : Al) : ((W E noS noL 48 [false, false, true, false, true] false (codeOf 48 [false, false, true, false, true]) (mkT 18 [(1, .fn 49 []), (7, .slice (.own 0 1 0 1) n (some 16)), (8, .int .i64 k), (9, .int .i64 i)])).full ⟨hp 0 [x.blk], 1, [], []⟩ leafS).take 1 (.x (.n (.n (.x (.leaf [0] 16) (.leaf [0] 898)))) (.leaf [0] 16)) =
  (.br (decide (i < k))
  (.need (decide (0 ≤ i) && decide (i < (↑n : Int))) (.need (decide (0 + Int.toNat i < 16)) (.br (!!List.getD (Al.c x) (0 + Int.toNat i) false)
    (.leaf (.ret, mkT 18 [(4, .bool false)], [(0, some (.segs [⟨1, 1, [.int .i64 [Al.n x]]⟩, ⟨16, 1, [.bool (Al.c x)]⟩, ⟨1, 1, [.int .i64 [Al.m x]]⟩, ⟨16, 1, [.bool (Al.d x)]⟩, ⟨1, 1, [.int .i64 [Al.l x]]⟩]))]))
    (.leaf (.normal, mkT 18 [(1, .fn 49 []), (7, .slice (.own 0 1 0 1) n (some 16)), (8, .int .i64 k), (9, .int .i64 (wr .i64 (i + 1)))], [(0, some (.segs [⟨1, 1, [.int .i64 [Al.n x]]⟩, ⟨16, 1, [.bool (Al.c x)]⟩, ⟨1, 1, [.int .i64 [Al.m x]]⟩, ⟨16, 1, [.bool (Al.d x)]⟩, ⟨1, 1, [.int .i64 [Al.l x]]⟩]))])))))
  (.leaf (.exit 0, mkT 18 [], [(0, some (.segs [⟨1, 1, [.int .i64 [Al.n x]]⟩, ⟨16, 1, [.bool (Al.c x)]⟩, ⟨1, 1, [.int .i64 [Al.m x]]⟩, ⟨16, 1, [.bool (Al.d x)]⟩, ⟨1, 1, [.int .i64 [Al.l x]]⟩]))]))) := by kernel_rfl
theorem all_round_bt (E : Nat → Nat → Seg) (n : Nat) (k i : Int) (x : Al) : ((W E noS noL 48 [false, false, true, false, true] false (codeOf 48 [false, false, true, false, true]) (mkT 18 [(1, .fn 50 []), (7, .slice (.own 0 18 0 1) n (some 16)), (8, .int .i64 k), (9, .int .i64 i)])).full ⟨hp 0 [x.blk], 1, [], []⟩ leafS).take 1 (.x (.n (.n (.x (.leaf [0] 16) (.leaf [0] 898)))) (.leaf [0] 16)) =
  (.br (decide (i < k))
  (.need (decide (0 ≤ i) && decide (i < (↑n : Int))) (.need (decide (0 + Int.toNat i < 16)) (.br (!List.getD (Al.d x) (0 + Int.toNat i) false)
    (.leaf (.ret, mkT 18 [(4, .bool false)], [(0, some (.segs [⟨1, 1, [.int .i64 [Al.n x]]⟩, ⟨16, 1, [.bool (Al.c x)]⟩, ⟨1, 1, [.int .i64 [Al.m x]]⟩, ⟨16, 1, [.bool (Al.d x)]⟩, ⟨1, 1, [.int .i64 [Al.l x]]⟩]))]))
    (.leaf (.normal, mkT 18 [(1, .fn 50 []), (7, .slice (.own 0 18 0 1) n (some 16)), (8, .int .i64 k), (9, .int .i64 (wr .i64 (i + 1)))], [(0, some (.segs [⟨1, 1, [.int .i64 [Al.n x]]⟩, ⟨16, 1, [.bool (Al.c x)]⟩, ⟨1, 1, [.int .i64 [Al.m x]]⟩, ⟨16, 1, [.bool (Al.d x)]⟩, ⟨1, 1, [.int .i64 [Al.l x]]⟩]))])))))
  (.leaf (.exit 0, mkT 18 [], [(0, some (.segs [⟨1, 1, [.int .i64 [Al.n x]]⟩, ⟨16, 1, [.bool (Al.c x)]⟩, ⟨1, 1, [.int .i64 [Al.m x]]⟩, ⟨16, 1, [.bool (Al.d x)]⟩, ⟨1, 1, [.int .i64 [Al.l x]]⟩]))]))) := by kernel_rfl
theorem all_round_bf (E : Nat → Nat → Seg) (n : Nat) (k i : Int) (x : Al) : ((W E noS noL 48 [false, false, true, false, true] false (codeOf 48 [false, false, true, false, true]) (mkT 18 [(1, .fn 49 []), (7, .slice (.own 0 18 0 1) n (some 16)), (8, .int .i64 k), (9, .int .i64 i)])).full ⟨hp 0 [x.blk], 1, [], []⟩ leafS).take 1 (.x (.n (.n (.x (.leaf [0] 16) (.leaf [0] 898)))) (.leaf [0] 16)) =
  (.br (decide (i < k))
  (.need (decide (0 ≤ i) && decide (i < (↑n : Int))) (.need (decide (0 + Int.toNat i < 16)) (.br (!!List.getD (Al.d x) (0 + Int.toNat i) false)
    (.leaf (.ret, mkT 18 [(4, .bool false)], [(0, some (.segs [⟨1, 1, [.int .i64 [Al.n x]]⟩, ⟨16, 1, [.bool (Al.c x)]⟩, ⟨1, 1, [.int .i64 [Al.m x]]⟩, ⟨16, 1, [.bool (Al.d x)]⟩, ⟨1, 1, [.int .i64 [Al.l x]]⟩]))]))
    (.leaf (.normal, mkT 18 [(1, .fn 49 []), (7, .slice (.own 0 18 0 1) n (some 16)), (8, .int .i64 k), (9, .int .i64 (wr .i64 (i + 1)))], [(0, some (.segs [⟨1, 1, [.int .i64 [Al.n x]]⟩, ⟨16, 1, [.bool (Al.c x)]⟩, ⟨1, 1, [.int .i64 [Al.m x]]⟩, ⟨16, 1, [.bool (Al.d x)]⟩, ⟨1, 1, [.int .i64 [Al.l x]]⟩]))])))))
  (.leaf (.exit 0, mkT 18 [], [(0, some (.segs [⟨1, 1, [.int .i64 [Al.n x]]⟩, ⟨16, 1, [.bool (Al.c x)]⟩, ⟨1, 1, [.int .i64 [Al.m x]]⟩, ⟨16, 1, [.bool (Al.d x)]⟩, ⟨1, 1, [.int .i64 [Al.l x]]⟩]))]))) := by kernel_rfl
theorem all_it (E : Nat → Nat → Seg) (x : Al) : ((callB Try.prog E noS (W E noS L48) 48 [.slice (.own 0 1 0 1) x.n.toNat (some 16), .fn 50 []]).full ⟨hp 0 [x.blk], 1, [], []⟩ leafV).take 1 (.x (.n (.n (.n (.leaf [0] 1)))) (.n (.n (.n (.leaf [0] 1))))) =
  (.br (allV { x := x, s := true, g := true })
  (.need (decide ([Al.n x] = [Al.n x]) && true && (decide (Al.c x = Al.c x) && true && (decide ([Al.m x] = [Al.m x]) && true && (decide (Al.d x = Al.d x) && true && (decide ([Al.l x] = [Al.l x]) && true && true)))) && true && true) (.need (decide (Int.toNat (Al.n x) = Int.toNat (Al.n x)) && true && (decide ((↑(Int.toNat (Al.n x)) : Int) = (↑(Int.toNat (Al.n x)) : Int)) && true) && true) (.need (okAl x && allV { x := x, s := true, g := true }) (.leaf (.ret, mkT 1 [(0, .bool true)], [(0, some (.segs [⟨1, 1, [.int .i64 [Al.n x]]⟩, ⟨16, 1, [.bool (Al.c x)]⟩, ⟨1, 1, [.int .i64 [Al.m x]]⟩, ⟨16, 1, [.bool (Al.d x)]⟩, ⟨1, 1, [.int .i64 [Al.l x]]⟩]))])))))
  (.need (decide ([Al.n x] = [Al.n x]) && true && (decide (Al.c x = Al.c x) && true && (decide ([Al.m x] = [Al.m x]) && true && (decide (Al.d x = Al.d x) && true && (decide ([Al.l x] = [Al.l x]) && true && true)))) && true && true) (.need (decide (Int.toNat (Al.n x) = Int.toNat (Al.n x)) && true && (decide ((↑(Int.toNat (Al.n x)) : Int) = (↑(Int.toNat (Al.n x)) : Int)) && true) && true) (.need (okAl x && !allV { x := x, s := true, g := true }) (.leaf (.ret, mkT 1 [(0, .bool false)], [(0, some (.segs [⟨1, 1, [.int .i64 [Al.n x]]⟩, ⟨16, 1, [.bool (Al.c x)]⟩, ⟨1, 1, [.int .i64 [Al.m x]]⟩, ⟨16, 1, [.bool (Al.d x)]⟩, ⟨1, 1, [.int .i64 [Al.l x]]⟩]))])))))) := by kernel_rfl
theorem all_if (E : Nat → Nat → Seg) (x : Al) : ((callB Try.prog E noS (W E noS L48) 48 [.slice (.own 0 1 0 1) x.n.toNat (some 16), .fn 49 []]).full ⟨hp 0 [x.blk], 1, [], []⟩ leafV).take 1 (.x (.n (.n (.n (.leaf [0] 1)))) (.n (.n (.n (.leaf [0] 1))))) =
  (.br (allV { x := x, s := true, g := false })
  (.need (decide ([Al.n x] = [Al.n x]) && true && (decide (Al.c x = Al.c x) && true && (decide ([Al.m x] = [Al.m x]) && true && (decide (Al.d x = Al.d x) && true && (decide ([Al.l x] = [Al.l x]) && true && true)))) && true && true) (.need (decide (Int.toNat (Al.n x) = Int.toNat (Al.n x)) && true && (decide ((↑(Int.toNat (Al.n x)) : Int) = (↑(Int.toNat (Al.n x)) : Int)) && true) && true) (.need (okAl x && allV { x := x, s := true, g := false }) (.leaf (.ret, mkT 1 [(0, .bool true)], [(0, some (.segs [⟨1, 1, [.int .i64 [Al.n x]]⟩, ⟨16, 1, [.bool (Al.c x)]⟩, ⟨1, 1, [.int .i64 [Al.m x]]⟩, ⟨16, 1, [.bool (Al.d x)]⟩, ⟨1, 1, [.int .i64 [Al.l x]]⟩]))])))))
  (.need (decide ([Al.n x] = [Al.n x]) && true && (decide (Al.c x = Al.c x) && true && (decide ([Al.m x] = [Al.m x]) && true && (decide (Al.d x = Al.d x) && true && (decide ([Al.l x] = [Al.l x]) && true && true)))) && true && true) (.need (decide (Int.toNat (Al.n x) = Int.toNat (Al.n x)) && true && (decide ((↑(Int.toNat (Al.n x)) : Int) = (↑(Int.toNat (Al.n x)) : Int)) && true) && true) (.need (okAl x && !allV { x := x, s := true, g := false }) (.leaf (.ret, mkT 1 [(0, .bool false)], [(0, some (.segs [⟨1, 1, [.int .i64 [Al.n x]]⟩, ⟨16, 1, [.bool (Al.c x)]⟩, ⟨1, 1, [.int .i64 [Al.m x]]⟩, ⟨16, 1, [.bool (Al.d x)]⟩, ⟨1, 1, [.int .i64 [Al.l x]]⟩]))])))))) := by kernel_rfl
theorem all_bt (E : Nat → Nat → Seg) (x : Al) : ((callB Try.prog E noS (W E noS L48) 48 [.slice (.own 0 18 0 1) x.m.toNat (some 16), .fn 50 []]).full ⟨hp 0 [x.blk], 1, [], []⟩ leafV).take 1 (.x (.n (.n (.n (.leaf [0] 1)))) (.n (.n (.n (.leaf [0] 1))))) =
  (.br (allV { x := x, s := false, g := true })
  (.need (decide ([Al.n x] = [Al.n x]) && true && (decide (Al.c x = Al.c x) && true && (decide ([Al.m x] = [Al.m x]) && true && (decide (Al.d x = Al.d x) && true && (decide ([Al.l x] = [Al.l x]) && true && true)))) && true && true) (.need (decide (Int.toNat (Al.m x) = Int.toNat (Al.m x)) && true && (decide ((↑(Int.toNat (Al.m x)) : Int) = (↑(Int.toNat (Al.m x)) : Int)) && true) && true) (.need (okAl x && allV { x := x, s := false, g := true }) (.leaf (.ret, mkT 1 [(0, .bool true)], [(0, some (.segs [⟨1, 1, [.int .i64 [Al.n x]]⟩, ⟨16, 1, [.bool (Al.c x)]⟩, ⟨1, 1, [.int .i64 [Al.m x]]⟩, ⟨16, 1, [.bool (Al.d x)]⟩, ⟨1, 1, [.int .i64 [Al.l x]]⟩]))])))))
  (.need (decide ([Al.n x] = [Al.n x]) && true && (decide (Al.c x = Al.c x) && true && (decide ([Al.m x] = [Al.m x]) && true && (decide (Al.d x = Al.d x) && true && (decide ([Al.l x] = [Al.l x]) && true && true)))) && true && true) (.need (decide (Int.toNat (Al.m x) = Int.toNat (Al.m x)) && true && (decide ((↑(Int.toNat (Al.m x)) : Int) = (↑(Int.toNat (Al.m x)) : Int)) && true) && true) (.need (okAl x && !allV { x := x, s := false, g := true }) (.leaf (.ret, mkT 1 [(0, .bool false)], [(0, some (.segs [⟨1, 1, [.int .i64 [Al.n x]]⟩, ⟨16, 1, [.bool (Al.c x)]⟩, ⟨1, 1, [.int .i64 [Al.m x]]⟩, ⟨16, 1, [.bool (Al.d x)]⟩, ⟨1, 1, [.int .i64 [Al.l x]]⟩]))])))))) := by kernel_rfl
theorem all_bf (E : Nat → Nat → Seg) (x : Al) : ((callB Try.prog E noS (W E noS L48) 48 [.slice (.own 0 18 0 1) x.m.toNat (some 16), .fn 49 []]).full ⟨hp 0 [x.blk], 1, [], []⟩ leafV).take 1 (.x (.n (.n (.n (.leaf [0] 1)))) (.n (.n (.n (.leaf [0] 1))))) =
  (.br (allV { x := x, s := false, g := false })
  (.need (decide ([Al.n x] = [Al.n x]) && true && (decide (Al.c x = Al.c x) && true && (decide ([Al.m x] = [Al.m x]) && true && (decide (Al.d x = Al.d x) && true && (decide ([Al.l x] = [Al.l x]) && true && true)))) && true && true) (.need (decide (Int.toNat (Al.m x) = Int.toNat (Al.m x)) && true && (decide ((↑(Int.toNat (Al.m x)) : Int) = (↑(Int.toNat (Al.m x)) : Int)) && true) && true) (.need (okAl x && allV { x := x, s := false, g := false }) (.leaf (.ret, mkT 1 [(0, .bool true)], [(0, some (.segs [⟨1, 1, [.int .i64 [Al.n x]]⟩, ⟨16, 1, [.bool (Al.c x)]⟩, ⟨1, 1, [.int .i64 [Al.m x]]⟩, ⟨16, 1, [.bool (Al.d x)]⟩, ⟨1, 1, [.int .i64 [Al.l x]]⟩]))])))))
  (.need (decide ([Al.n x] = [Al.n x]) && true && (decide (Al.c x = Al.c x) && true && (decide ([Al.m x] = [Al.m x]) && true && (decide (Al.d x = Al.d x) && true && (decide ([Al.l x] = [Al.l x]) && true && true)))) && true && true) (.need (decide (Int.toNat (Al.m x) = Int.toNat (Al.m x)) && true && (decide ((↑(Int.toNat (Al.m x)) : Int) = (↑(Int.toNat (Al.m x)) : Int)) && true) && true) (.need (okAl x && !allV { x := x, s := false, g := false }) (.leaf (.ret, mkT 1 [(0, .bool false)], [(0, some (.segs [⟨1, 1, [.int .i64 [Al.n x]]⟩, ⟨16, 1, [.bool (Al.c x)]⟩, ⟨1, 1, [.int .i64 [Al.m x]]⟩, ⟨16, 1, [.bool (Al.d x)]⟩, ⟨1, 1, [.int .i64 [Al.l x]]⟩]))])))))) := by kernel_rfl
theorem phase_call (E : Nat → Nat → Seg) (x : Al) : ((callB Try.prog E S48 (W E S48 noL) 34 [.ptr (.own 0 0 0 0)]).full ⟨hp 0 [x.blk], 1, [], []⟩ leafV).take 1 (.c (.n (.n (.c (.n (.n (.n (.x (.c (.n (.n (.n (.x (.leaf [0] 1) (.n (.n (.n (.x (.leaf [0] 1) (.n (.n (.n (.x (.leaf [0] 1) (.leaf [0] 1)))))))))))))) (.c (.c (.c (.n (.n (.n (.x (.leaf [0] 1) (.n (.n (.n (.x (.leaf [0] 1) (.leaf [0] 1)))))))))))))))))))) =
  (.need (decide (0 ≤ Al.n x) && decide (Al.n x ≤ 16)) (.need (decide (0 ≤ Al.m x) && decide (Al.m x ≤ 16)) (.need (decide ([Al.n x] = [Al.n x]) && true && (decide (Al.c x = Al.c x) && true && (decide ([Al.m x] = [Al.m x]) && true && (decide (Al.d x = Al.d x) && true && (decide ([Al.l x] = [Al.l x]) && true && true)))) && true && true) (.need (decide (Int.toNat (Al.n x) = Int.toNat (Al.n x)) && true && true && true) (.need (okAl x) (.br (allB (Al.p x) false)
  (.need (decide ([Al.n x] = [Al.n x]) && true && (decide (Al.c x = Al.c x) && true && (decide ([Al.m x] = [Al.m x]) && true && (decide (Al.d x = Al.d x) && true && (decide ([Al.l x] = [Al.l x]) && true && true)))) && true && true) (.need (decide (Int.toNat (Al.m x) = Int.toNat (Al.m x)) && true && true && true) (.need (okAl x) (.br (allB (Al.q x) false)
    (.leaf (.ret, mkT 1 [(0, .int .i64 0)], [(0, some (.segs [⟨1, 1, [.int .i64 [Al.n x]]⟩, ⟨16, 1, [.bool (Al.c x)]⟩, ⟨1, 1, [.int .i64 [Al.m x]]⟩, ⟨16, 1, [.bool (Al.d x)]⟩, ⟨1, 1, [.int .i64 [Al.l x]]⟩]))]))
    (.need (decide ([Al.n x] = [Al.n x]) && true && (decide (Al.c x = Al.c x) && true && (decide ([Al.m x] = [Al.m x]) && true && (decide (Al.d x = Al.d x) && true && (decide ([Al.l x] = [Al.l x]) && true && true)))) && true && true) (.need (decide (Int.toNat (Al.n x) = Int.toNat (Al.n x)) && true && true && true) (.need (okAl x) (.br (!allB (Al.p x) true)
      (.leaf (.ret, mkT 1 [(0, .int .i64 1)], [(0, some (.segs [⟨1, 1, [.int .i64 [Al.n x]]⟩, ⟨16, 1, [.bool (Al.c x)]⟩, ⟨1, 1, [.int .i64 [Al.m x]]⟩, ⟨16, 1, [.bool (Al.d x)]⟩, ⟨1, 1, [.int .i64 [Al.l x]]⟩]))]))
      (.need (decide ([Al.n x] = [Al.n x]) && true && (decide (Al.c x = Al.c x) && true && (decide ([Al.m x] = [Al.m x]) && true && (decide (Al.d x = Al.d x) && true && (decide ([Al.l x] = [Al.l x]) && true && true)))) && true && true) (.need (decide (Int.toNat (Al.m x) = Int.toNat (Al.m x)) && true && true && true) (.need (okAl x) (.br (!allB (Al.q x) true)
        (.leaf (.ret, mkT 1 [(0, .int .i64 2)], [(0, some (.segs [⟨1, 1, [.int .i64 [Al.n x]]⟩, ⟨16, 1, [.bool (Al.c x)]⟩, ⟨1, 1, [.int .i64 [Al.m x]]⟩, ⟨16, 1, [.bool (Al.d x)]⟩, ⟨1, 1, [.int .i64 [Al.l x]]⟩]))]))
        (.leaf (.ret, mkT 1 [(0, .int .i64 3)], [(0, some (.segs [⟨1, 1, [.int .i64 [Al.n x]]⟩, ⟨16, 1, [.bool (Al.c x)]⟩, ⟨1, 1, [.int .i64 [Al.m x]]⟩, ⟨16, 1, [.bool (Al.d x)]⟩, ⟨1, 1, [.int .i64 [Al.l x]]⟩]))]))))))))))))))
  (.need (decide ([Al.n x] = [Al.n x]) && true && (decide (Al.c x = Al.c x) && true && (decide ([Al.m x] = [Al.m x]) && true && (decide (Al.d x = Al.d x) && true && (decide ([Al.l x] = [Al.l x]) && true && true)))) && true && true) (.need (decide (Int.toNat (Al.n x) = Int.toNat (Al.n x)) && true && true && true) (.need (okAl x) (.br (!allB (Al.p x) true)
    (.leaf (.ret, mkT 1 [(0, .int .i64 1)], [(0, some (.segs [⟨1, 1, [.int .i64 [Al.n x]]⟩, ⟨16, 1, [.bool (Al.c x)]⟩, ⟨1, 1, [.int .i64 [Al.m x]]⟩, ⟨16, 1, [.bool (Al.d x)]⟩, ⟨1, 1, [.int .i64 [Al.l x]]⟩]))]))
    (.need (decide ([Al.n x] = [Al.n x]) && true && (decide (Al.c x = Al.c x) && true && (decide ([Al.m x] = [Al.m x]) && true && (decide (Al.d x = Al.d x) && true && (decide ([Al.l x] = [Al.l x]) && true && true)))) && true && true) (.need (decide (Int.toNat (Al.m x) = Int.toNat (Al.m x)) && true && true && true) (.need (okAl x) (.br (!allB (Al.q x) true)
      (.leaf (.ret, mkT 1 [(0, .int .i64 2)], [(0, some (.segs [⟨1, 1, [.int .i64 [Al.n x]]⟩, ⟨16, 1, [.bool (Al.c x)]⟩, ⟨1, 1, [.int .i64 [Al.m x]]⟩, ⟨16, 1, [.bool (Al.d x)]⟩, ⟨1, 1, [.int .i64 [Al.l x]]⟩]))]))
      (.leaf (.ret, mkT 1 [(0, .int .i64 3)], [(0, some (.segs [⟨1, 1, [.int .i64 [Al.n x]]⟩, ⟨16, 1, [.bool (Al.c x)]⟩, ⟨1, 1, [.int .i64 [Al.m x]]⟩, ⟨16, 1, [.bool (Al.d x)]⟩, ⟨1, 1, [.int .i64 [Al.l x]]⟩]))])))))))))))))))) := by kernel_rfl
theorem last_call (E : Nat → Nat → Seg) (x : Al) : ((callB Try.prog E noS (W E noS noL) 31 [.ptr (.own 0 0 0 0)]).full ⟨hp 0 [x.blk], 1, [], []⟩ leafV).take 1 (.c (.leaf [0] 1)) =
  (.leaf (.ret, mkT 1 [(0, .int .i64 (Al.l x))], [(0, some (.segs [⟨1, 1, [.int .i64 [Al.n x]]⟩, ⟨16, 1, [.bool (Al.c x)]⟩, ⟨1, 1, [.int .i64 [Al.m x]]⟩, ⟨16, 1, [.bool (Al.d x)]⟩, ⟨1, 1, [.int .i64 [Al.l x]]⟩]))])) := by kernel_rfl
theorem blocked_call (E : Nat → Nat → Seg) (x : Al) (i : Int) : ((callB Try.prog E noS (W E noS noL) 27 [.ptr (.own 0 0 0 0), .int .i64 i]).full ⟨hp 0 [x.blk], 1, [], []⟩ leafV).take 1 (cs 5 (.x (cs 5 (.x (cs 5 (.n (.c (.n (.leaf [0] 1))))) (cs 7 (.leaf [0] 1)))) (cs 14 (.leaf [0] 1)))) =
  (.br (decide (0 ≤ i))
  (.br (decide (i < Al.n x))
    (.need (decide (0 ≤ i) && decide (i < 16)) (.need (decide (Int.toNat i < 16)) (.leaf (.ret, mkT 1 [(0, .bool (List.getD (Al.c x) (Int.toNat i) false))], [(0, some (.segs [⟨1, 1, [.int .i64 [Al.n x]]⟩, ⟨16, 1, [.bool (Al.c x)]⟩, ⟨1, 1, [.int .i64 [Al.m x]]⟩, ⟨16, 1, [.bool (Al.d x)]⟩, ⟨1, 1, [.int .i64 [Al.l x]]⟩]))]))))
    (.leaf (.ret, mkT 1 [(0, .bool false)], [(0, some (.segs [⟨1, 1, [.int .i64 [Al.n x]]⟩, ⟨16, 1, [.bool (Al.c x)]⟩, ⟨1, 1, [.int .i64 [Al.m x]]⟩, ⟨16, 1, [.bool (Al.d x)]⟩, ⟨1, 1, [.int .i64 [Al.l x]]⟩]))])))
  (.leaf (.ret, mkT 1 [(0, .bool false)], [(0, some (.segs [⟨1, 1, [.int .i64 [Al.n x]]⟩, ⟨16, 1, [.bool (Al.c x)]⟩, ⟨1, 1, [.int .i64 [Al.m x]]⟩, ⟨16, 1, [.bool (Al.d x)]⟩, ⟨1, 1, [.int .i64 [Al.l x]]⟩]))]))) := by kernel_rfl
theorem come_call (E : Nat → Nat → Seg) (x : Al) (i k : Int) : ((callB Try.prog E noS (W E noS noL) 44 [.ptr (.own 0 0 0 0), .int .i64 i, .int .i64 k]).full ⟨hp 0 [x.blk], 1, [], []⟩ leafV).take 1 (.c (.x (cs 5 (.x (.c (.leaf [0] 1)) (.n (.n (.x (.c (.leaf [0] 1)) (.x (.c (.leaf [0] 1)) (.n (.n (.c (.leaf [0] 1)))))))))) (cs 8 (.leaf [0] 1)))) =
  (.br (decide (0 ≤ i))
  (.br (!decide (i < Al.n x))
    (.leaf (.ret, mkT 1 [(0, .int .i64 2)], [(0, some (.segs [⟨1, 1, [.int .i64 [Al.n x]]⟩, ⟨16, 1, [.bool (Al.c x)]⟩, ⟨1, 1, [.int .i64 [Al.m x]]⟩, ⟨16, 1, [.bool (Al.d x)]⟩, ⟨1, 1, [.int .i64 [Al.l x]]⟩]))]))
    (.need (decide (0 ≤ i) && decide (i < 16)) (.need (decide (Int.toNat i < 16)) (.br (List.getD (Al.c x) (Int.toNat i) false)
      (.leaf (.ret, mkT 1 [(0, .int .i64 19)], [(0, some (.segs [⟨1, 1, [.int .i64 [Al.n x]]⟩, ⟨16, 1, [.bool (Al.c x)]⟩, ⟨1, 1, [.int .i64 [Al.m x]]⟩, ⟨16, 1, [.bool (Al.d x)]⟩, ⟨1, 1, [.int .i64 [Al.l x]]⟩]))]))
      (.br (!decide (wr .i64 (k - 1) = Al.l x))
        (.leaf (.ret, mkT 1 [(0, .int .i64 7)], [(0, some (.segs [⟨1, 1, [.int .i64 [Al.n x]]⟩, ⟨16, 1, [.bool (Al.c x)]⟩, ⟨1, 1, [.int .i64 [Al.m x]]⟩, ⟨16, 1, [.bool (Al.d x)]⟩, ⟨1, 1, [.int .i64 [Al.l x]]⟩]))]))
        (.need (decide (0 ≤ i) && decide (i < 16)) (.need (decide (Int.toNat i < 16)) (.leaf (.ret, mkT 1 [(0, .int .i64 0)], [(0, some (.segs [⟨1, 1, [.int .i64 [Al.n x]]⟩, ⟨16, 1, [.bool (List.set (Al.c x) (Int.toNat i) true)]⟩, ⟨1, 1, [.int .i64 [Al.m x]]⟩, ⟨16, 1, [.bool (Al.d x)]⟩, ⟨1, 1, [.int .i64 [Al.l x]]⟩]))])))))))))
  (.leaf (.ret, mkT 1 [(0, .int .i64 2)], [(0, some (.segs [⟨1, 1, [.int .i64 [Al.n x]]⟩, ⟨16, 1, [.bool (Al.c x)]⟩, ⟨1, 1, [.int .i64 [Al.m x]]⟩, ⟨16, 1, [.bool (Al.d x)]⟩, ⟨1, 1, [.int .i64 [Al.l x]]⟩]))]))) := by kernel_rfl
theorem done_call (E : Nat → Nat → Seg) (x : Al) : ((callB Try.prog E (SA2 S48) (W E (SA2 S48) noL) 38 [.ptr (.own 0 0 0 0)]).full ⟨hp 0 [x.blk], 1, [], []⟩ leafV).take 1 (.c (.n (.c (.n (.x (.leaf [0] 1) (.c (.leaf [0] 1))))))) =
  (.need (decide ([Al.n x] = [Al.n x]) && true && (decide (Al.c x = Al.c x) && true && (decide ([Al.m x] = [Al.m x]) && true && (decide (Al.d x = Al.d x) && true && (decide ([Al.l x] = [Al.l x]) && true && true)))) && true && true) (.need (decide (List.length (Al.c x) = 16) && (decide (List.length (Al.d x) = 16) && (decide (0 ≤ Al.n x) && (decide (Al.n x ≤ 16) && (decide (0 ≤ Al.m x) && decide (Al.m x ≤ 16)))))) (.br (!decide (phaseL (Al.p x) (Al.q x) = 3))
  (.leaf (.ret, mkT 1 [(0, .int .i64 7)], [(0, some (.segs [⟨1, 1, [.int .i64 [Al.n x]]⟩, ⟨16, 1, [.bool (Al.c x)]⟩, ⟨1, 1, [.int .i64 [Al.m x]]⟩, ⟨16, 1, [.bool (Al.d x)]⟩, ⟨1, 1, [.int .i64 [Al.l x]]⟩]))]))
  (.leaf (.ret, mkT 1 [(0, .int .i64 0)], [(0, some (.segs [⟨1, 1, [.int .i64 [Al.n x]]⟩, ⟨16, 1, [.bool (List.set (List.set (List.set (List.set (List.set (List.set (List.set (List.set (List.set (List.set (List.set (List.set (List.set (List.set (List.set (List.set (Al.c x) 0 false) 1 false) 2 false) 3 false) 4 false) 5 false) 6 false) 7 false) 8 false) 9 false) 10 false) 11 false) 12 false) 13 false) 14 false) 15 false)]⟩, ⟨1, 1, [.int .i64 [Al.m x]]⟩, ⟨16, 1, [.bool (List.set (List.set (List.set (List.set (List.set (List.set (List.set (List.set (List.set (List.set (List.set (List.set (List.set (List.set (List.set (List.set (Al.d x) 0 false) 1 false) 2 false) 3 false) 4 false) 5 false) 6 false) 7 false) 8 false) 9 false) 10 false) 11 false) 12 false) 13 false) 14 false) 15 false)]⟩, ⟨1, 1, [.int .i64 [wr .i64 (Al.l x + 1)]]⟩]))]))))) := by kernel_rfl
theorem newal_call (E : Nat → Nat → Seg) (n m l : Int) : ((callB Try.prog E noS (W E noS noL) 24 [.int .i64 n, .int .i64 m, .int .i64 l]).full ⟨hp 0 [], 0, [], []⟩ leafV).take 0 (.x (cs 12 (.leaf [] 1)) (.c (.x (cs 9 (.leaf [] 1)) (.c (.x (cs 6 (.leaf [] 1)) (.c (.x (.c (.c (.c (.leaf [] 1)))) (.c (.x (.leaf [] 1) (.leaf [0] 1)))))))))) =
  (.br (decide (n < 1))
  (.leaf (.ret, mkT 1 [(0, .nilp)], []))
  (.br (decide (16 < n))
    (.leaf (.ret, mkT 1 [(0, .nilp)], []))
    (.br (decide (m < 0))
      (.leaf (.ret, mkT 1 [(0, .nilp)], []))
      (.br (decide (16 < m))
        (.leaf (.ret, mkT 1 [(0, .nilp)], []))
        (.br (decide (l < 0))
          (.leaf (.ret, mkT 1 [(0, .nilp)], []))
          (.leaf (.ret, mkT 1 [(0, .ptr (.own 0 0 0 0))], [(0, some (.segs [⟨1, 1, [.int .i64 [n]]⟩, ⟨16, 1, [.bool [false, false, false, false, false, false, false, false, false, false, false, false, false, false, false, false]]⟩, ⟨1, 1, [.int .i64 [m]]⟩, ⟨16, 1, [.bool [false, false, false, false, false, false, false, false, false, false, false, false, false, false, false, false]]⟩, ⟨1, 1, [.int .i64 [l]]⟩]))]))))))) := by kernel_rfl
theorem least_round (E : Nat → Nat → Seg) (v k i : Int) (x : Fr) : ((W E noS noL 47 [false, false, true, false, true] false (codeOf 47 [false, false, true, false, true]) (mkT 19 [(0, .int .i64 v), (7, leSl x), (8, .int .i64 k), (9, .int .i64 i)])).full ⟨hp 0 [x.blk], 1, [], []⟩ leafS).take 1 (.x (.n (.n (.x (.leaf [0] 897) (.leaf [0] 897)))) (.leaf [0] 1)) =
  (.br (decide (i < k))
  (.need (decide (0 ≤ i) && decide (i < (↑(Int.toNat (Fr.n x)) : Int))) (.need (decide (0 + Int.toNat i < 16)) (.br (decide (List.getD (Fr.c x) (0 + Int.toNat i) 0 < v))
    (.leaf (.normal, mkT 19 [(0, .int .i64 (List.getD (Fr.c x) (0 + Int.toNat i) 0)), (7, .slice (.own 0 0 0 1) (Int.toNat (Fr.n x)) (some (Int.toNat (Fr.n x)))), (8, .int .i64 k), (9, .int .i64 (wr .i64 (i + 1)))], [(0, some (.segs [⟨16, 1, [.int .i64 (Fr.c x)]⟩, ⟨1, 1, [.int .i64 [Fr.n x]]⟩, ⟨1, 1, [.int .i64 [Fr.t x]]⟩]))]))
    (.leaf (.normal, mkT 19 [(0, .int .i64 v), (7, .slice (.own 0 0 0 1) (Int.toNat (Fr.n x)) (some (Int.toNat (Fr.n x)))), (8, .int .i64 k), (9, .int .i64 (wr .i64 (i + 1)))], [(0, some (.segs [⟨16, 1, [.int .i64 (Fr.c x)]⟩, ⟨1, 1, [.int .i64 [Fr.n x]]⟩, ⟨1, 1, [.int .i64 [Fr.t x]]⟩]))])))))
  (.leaf (.exit 0, mkT 19 [(0, .int .i64 v)], [(0, some (.segs [⟨16, 1, [.int .i64 (Fr.c x)]⟩, ⟨1, 1, [.int .i64 [Fr.n x]]⟩, ⟨1, 1, [.int .i64 [Fr.t x]]⟩]))]))) := by kernel_rfl
theorem least_call (E : Nat → Nat → Seg) (v : Int) (x : Fr) : ((callB Try.prog E noS (W E noS L47) 47 [.int .i64 v, leSl x]).full ⟨hp 0 [x.blk], 1, [], []⟩ leafV).take 1 (.n (.n (.n (.leaf [0] 1)))) =
  (.need (decide (Fr.c x = Fr.c x) && true && (decide ([Fr.n x] = [Fr.n x]) && true && (decide ([Fr.t x] = [Fr.t x]) && true && true)) && true && true) (.need (decide (v = v) && (decide (Int.toNat (Fr.n x) = Int.toNat (Fr.n x)) && sameCap (some (Int.toNat (Fr.n x))) (some (Int.toNat (Fr.n x))) && (decide ((↑(Int.toNat (Fr.n x)) : Int) = (↑(Int.toNat (Fr.n x)) : Int)) && true)) && true) (.need (okFr x) (.leaf (.ret, mkT 1 [(0, .int .i64 (leastL v (Fr.l x)))], [(0, some (.segs [⟨16, 1, [.int .i64 (Fr.c x)]⟩, ⟨1, 1, [.int .i64 [Fr.n x]]⟩, ⟨1, 1, [.int .i64 [Fr.t x]]⟩]))]))))) := by kernel_rfl
theorem newfr_call (E : Nat → Nat → Seg) (n : Int) : ((callB Try.prog E noS (W E noS noL) 39 [.int .i64 n]).full ⟨hp 0 [], 0, [], []⟩ leafV).take 0 (.x (.c (.c (.c (.leaf [] 1)))) (.c (.x (.leaf [] 1) (.leaf [0] 1)))) =
  (.br (decide (n < 1))
  (.leaf (.ret, mkT 1 [(0, .nilp)], []))
  (.br (decide (16 < n))
    (.leaf (.ret, mkT 1 [(0, .nilp)], []))
    (.leaf (.ret, mkT 1 [(0, .ptr (.own 0 0 0 0))], [(0, some (.segs [⟨16, 1, [.int .i64 [0, 0, 0, 0, 0, 0, 0, 0, 0, 0, 0, 0, 0, 0, 0, 0]]⟩, ⟨1, 1, [.int .i64 [n]]⟩, ⟨1, 1, [.int .i64 [0]]⟩]))])))) := by kernel_rfl
theorem mark_call (E : Nat → Nat → Seg) (x : Fr) (i a : Int) : ((callB Try.prog E noS (W E noS noL) 41 [.ptr (.own 0 0 0 0), .int .i64 i, .int .i64 a]).full ⟨hp 0 [x.blk], 1, [], []⟩ leafV).take 1 (.c (.x (cs 7 (.leaf [0] 1)) (cs 5 (.x (.leaf [0] 1) (.n (.n (.x (.c (.c (.c (.leaf [0] 1)))) (.c (.x (.leaf [0] 1) (.n (.n (.leaf [0] 1)))))))))))) =
  (.br (decide (i < 0))
  (.leaf (.ret, mkT 1 [(0, .int .i64 2)], [(0, some (.segs [⟨16, 1, [.int .i64 (Fr.c x)]⟩, ⟨1, 1, [.int .i64 [Fr.n x]]⟩, ⟨1, 1, [.int .i64 [Fr.t x]]⟩]))]))
  (.br (decide (Fr.n x ≤ i))
    (.leaf (.ret, mkT 1 [(0, .int .i64 2)], [(0, some (.segs [⟨16, 1, [.int .i64 (Fr.c x)]⟩, ⟨1, 1, [.int .i64 [Fr.n x]]⟩, ⟨1, 1, [.int .i64 [Fr.t x]]⟩]))]))
    (.need (decide (0 ≤ i) && decide (i < 16)) (.need (decide (Int.toNat i < 16)) (.br (decide (a < List.getD (Fr.c x) (Int.toNat i) 0))
      (.leaf (.ret, mkT 1 [(0, .int .i64 12)], [(0, some (.segs [⟨16, 1, [.int .i64 (Fr.c x)]⟩, ⟨1, 1, [.int .i64 [Fr.n x]]⟩, ⟨1, 1, [.int .i64 [Fr.t x]]⟩]))]))
      (.br (decide (1152921504606846976 < a))
        (.leaf (.ret, mkT 1 [(0, .int .i64 12)], [(0, some (.segs [⟨16, 1, [.int .i64 (Fr.c x)]⟩, ⟨1, 1, [.int .i64 [Fr.n x]]⟩, ⟨1, 1, [.int .i64 [Fr.t x]]⟩]))]))
        (.need (decide (0 ≤ i) && decide (i < 16)) (.need (decide (Int.toNat i < 16)) (.leaf (.ret, mkT 1 [(0, .int .i64 0)], [(0, some (.segs [⟨16, 1, [.int .i64 (List.set (Fr.c x) (Int.toNat i) a)]⟩, ⟨1, 1, [.int .i64 [Fr.n x]]⟩, ⟨1, 1, [.int .i64 [Fr.t x]]⟩]))])))))))))) := by kernel_rfl
theorem min_call (E : Nat → Nat → Seg) (x : Fr) : ((callB Try.prog E S47 (W E S47 noL) 33 [.ptr (.own 0 0 0 0)]).full ⟨hp 0 [x.blk], 1, [], []⟩ leafV).take 1 (.c (.c (.c (.n (.n (.c (.n (.n (.n (.c (.leaf [0] 1))))))))))) =
  (.need (decide (0 ≤ Fr.n x) && decide (Fr.n x ≤ 16)) (.need (decide (0 ≤ Fr.n x) && decide (Fr.n x ≤ (↑(Int.toNat (Fr.n x)) : Int))) (.need (decide (Fr.c x = Fr.c x) && true && (decide ([Fr.n x] = [Fr.n x]) && true && (decide ([Fr.t x] = [Fr.t x]) && true && true)) && true && true) (.need (decide (List.getD (Fr.c x) 0 0 = List.getD (Fr.c x) 0 0) && (decide (Int.toNat (Fr.n x) = Int.toNat (Fr.n x)) && sameCap (some (Int.toNat (Fr.n x))) (some (Int.toNat (Fr.n x))) && true) && true) (.need (okFr x) (.leaf (.ret, mkT 1 [(0, .int .i64 (leastL (List.getD (Fr.c x) 0 0) (Fr.l x)))], [(0, some (.segs [⟨16, 1, [.int .i64 (Fr.c x)]⟩, ⟨1, 1, [.int .i64 [Fr.n x]]⟩, ⟨1, 1, [.int .i64 [Fr.t x]]⟩]))]))))))) := by kernel_rfl
theorem marks_call (E : Nat → Nat → Seg) (x : Fr) : ((callB Try.prog E noS (W E noS noL) 26 [.ptr (.own 0 0 0 0)]).full ⟨hp 0 [x.blk], 1, [], []⟩ leafV).take 1 (.c (.n (.n (.c (.x (.leaf [0] 1) (.n (.n (.leaf [0, 1] 1)))))))) =
  (.need (decide (0 ≤ Fr.n x) && decide (Fr.n x ≤ 16)) (.need (decide (0 ≤ Fr.n x) && decide (Fr.n x ≤ (↑(Int.toNat (Fr.n x)) : Int))) (.br (Nat.beq (Int.toNat (Fr.n x)) 0)
  (.leaf (.ret, mkT 1 [(0, .nils)], [(0, some (.segs [⟨16, 1, [.int .i64 (Fr.c x)]⟩, ⟨1, 1, [.int .i64 [Fr.n x]]⟩, ⟨1, 1, [.int .i64 [Fr.t x]]⟩]))]))
  (.need (decide (Int.toNat (Fr.n x) * 8 ≤ 35184372088832)) (.need (decide (0 + Int.toNat (Fr.n x) ≤ 16)) (.leaf (.ret, mkT 1 [(0, .slice (.own 1 0 0 1) (Int.toNat (Fr.n x)) none)], [(0, some (.segs [⟨16, 1, [.int .i64 (Fr.c x)]⟩, ⟨1, 1, [.int .i64 [Fr.n x]]⟩, ⟨1, 1, [.int .i64 [Fr.t x]]⟩])), (1, some (.segs [⟨Int.toNat (Fr.n x), 1, [.int .i64 (List.take (Int.toNat (Fr.n x)) (List.drop 0 (Fr.c x)))]⟩]))]))))))) := by kernel_rfl
theorem with_call (E : Nat → Nat → Seg) : ((callB Try.prog E noS (W E noS noL) 40 [.int .i64 0]).full ⟨hp 0 [], 0, [], []⟩ leafV).take 0 (cs 5 (.leaf [] 1)) =
  (.leaf (.ret, mkT 1 [(0, .int .i64 0)], [])) := by kernel_rfl
end Go.Proofs.Ytgkejpfahpbnkaa

namespace Go.Proofs.Ytgkejpfahpbnkaa
open Ab
section
variable {E : Nat → Nat → Seg} {ra : Nat → Nat → Nat × Nat} {base : Nat} {S : Sums}
def lenA (y : AllX) : Nat := match y.s with
  | true => y.x.n.toNat
  | false => y.x.m.toNat
def cellsY (y : AllX) : List Bool := match y.s with
  | true => y.x.c
  | false => y.x.d
def allAt (y : AllX) (i : Int) : List (Nat × AVal) := [(1, match y.g with
    | true => .fn 50 []
    | false => .fn 49 []), (7, match y.s with
    | true => .slice (.own 0 1 0 1) y.x.n.toNat (some 16)
    | false => .slice (.own 0 18 0 1) y.x.m.toNat (some 16)), (8, .int .i64 (match y.s with
    | true => (y.x.n.toNat : Int)
    | false => (y.x.m.toNat : Int))), (9, .int .i64 i)]
theorem okAl_facts {x : Al} (h : okAl x = true) : x.c.length = 16 ∧ x.d.length = 16 ∧ 0 ≤ x.n ∧ x.n ≤ 16 ∧ 0 ≤ x.m ∧ x.m ≤ 16 := by
  simp only [okAl, Bool.and_eq_true, decide_eq_true_eq] at h
  exact ⟨h.1, h.2.1, h.2.2.1, h.2.2.2.1, h.2.2.2.2.1, h.2.2.2.2.2⟩
theorem all_round (hE : Plain E) (y : AllX) (h : okAl y.x = true) {i : Nat} (hi : i ≤ lenA y) :
    Takes Try.prog E ra base 1 (codeOf 48 [false, false, true, false, true]) (mkT 18 (allAt y i)) (hp 0 [y.x.blk]) fun z =>
      (i < lenA y ∧ (cellsY y).getD i false = y.g ∧ z = (.normal, mkT 18 (allAt y ((i + 1 : Nat) : Int)), hp 0 [y.x.blk])) ∨
      (i < lenA y ∧ (cellsY y).getD i false = !y.g ∧ z = (.ret, mkT 18 [(4, .bool false)], hp 0 [y.x.blk])) ∨ (i = lenA y ∧ z = (.exit 0, mkT 18 [], hp 0 [y.x.blk])) := by
  obtain ⟨h1, h2, h3, h4, h5, h6⟩ := okAl_facts h
  have hw : i < 17 → wr .i64 ((i : Int) + 1) = ((i + 1 : Nat) : Int) := fun hh => by rw [wr_in ⟨by omega, by omega⟩]; omega
  obtain ⟨x, s, g⟩ := y
  cases s <;> cases g
  · refine takes_of_tree hE (W_ok sumNone_ok noL_ok) (f := 48) (.inr (by kernel_rfl)) (hp_below _) (all_round_bf E x.m.toNat (x.m.toNat : Int) i x) ?_
    simp only [lenA] at hi
    simp only at h5 h6
    simp only [Tree.holds, decide_eq_true_eq, decide_eq_false_iff_not, Bool.and_eq_true, toNat_nat, Bool.not_not, Bool.not_eq_true', Bool.not_eq_false', lenA, cellsY]
    refine ⟨fun k1 => ⟨by omega, by omega, fun k2 => .inr (.inl ⟨by omega, k2, rfl⟩), fun k2 => .inl ⟨by omega, k2, ?_⟩⟩, fun k1 => .inr (.inr ⟨by omega, rfl⟩)⟩
    rw [hw (by omega)]; rfl
  · refine takes_of_tree hE (W_ok sumNone_ok noL_ok) (f := 48) (.inr (by kernel_rfl)) (hp_below _) (all_round_bt E x.m.toNat (x.m.toNat : Int) i x) ?_
    simp only [lenA] at hi
    simp only at h5 h6
    simp only [Tree.holds, decide_eq_true_eq, decide_eq_false_iff_not, Bool.and_eq_true, toNat_nat, Bool.not_not, Bool.not_eq_true', Bool.not_eq_false', lenA, cellsY]
    refine ⟨fun k1 => ⟨by omega, by omega, fun k2 => .inr (.inl ⟨by omega, k2, rfl⟩), fun k2 => .inl ⟨by omega, k2, ?_⟩⟩, fun k1 => .inr (.inr ⟨by omega, rfl⟩)⟩
    rw [hw (by omega)]; rfl
  · refine takes_of_tree hE (W_ok sumNone_ok noL_ok) (f := 48) (.inr (by kernel_rfl)) (hp_below _) (all_round_if E x.n.toNat (x.n.toNat : Int) i x) ?_
    simp only [lenA] at hi
    simp only at h3 h4
    simp only [Tree.holds, decide_eq_true_eq, decide_eq_false_iff_not, Bool.and_eq_true, toNat_nat, Bool.not_not, Bool.not_eq_true', Bool.not_eq_false', lenA, cellsY]
    refine ⟨fun k1 => ⟨by omega, by omega, fun k2 => .inr (.inl ⟨by omega, k2, rfl⟩), fun k2 => .inl ⟨by omega, k2, ?_⟩⟩, fun k1 => .inr (.inr ⟨by omega, rfl⟩)⟩
    rw [hw (by omega)]; rfl
  · refine takes_of_tree hE (W_ok sumNone_ok noL_ok) (f := 48) (.inr (by kernel_rfl)) (hp_below _) (all_round_it E x.n.toNat (x.n.toNat : Int) i x) ?_
    simp only [lenA] at hi
    simp only at h3 h4
    simp only [Tree.holds, decide_eq_true_eq, decide_eq_false_iff_not, Bool.and_eq_true, toNat_nat, Bool.not_not, Bool.not_eq_true', Bool.not_eq_false', lenA, cellsY]
    refine ⟨fun k1 => ⟨by omega, by omega, fun k2 => .inr (.inl ⟨by omega, k2, rfl⟩), fun k2 => .inl ⟨by omega, k2, ?_⟩⟩, fun k1 => .inr (.inr ⟨by omega, rfl⟩)⟩
    rw [hw (by omega)]; rfl
theorem allV_eq (y : AllX) : allV y = allB ((cellsY y).take (lenA y)) y.g := by
  obtain ⟨x, s, g⟩ := y
  cases s <;> rfl
theorem allB_snoc (c : List Bool) (g : Bool) {i : Nat} (h : i < c.length) : allB (c.take (i + 1)) g = (allB (c.take i) g && (c.getD i false == g)) := by
  rw [List.take_add_one, List.getElem?_eq_getElem h, allB, List.all_append, allB]
  simp [List.getD_eq_getElem?_getD, h]
theorem allB_low (c : List Bool) (g : Bool) {i n : Nat} (h : i < c.length) (hin : i < n) (hx : c.getD i false = !g) : allB (c.take n) g = false := by
  cases hh : allB (c.take n) g with
  | false => rfl
  | true =>
    have hm : c[i] ∈ c.take n := List.mem_take_iff_getElem.2 ⟨i, by omega, rfl⟩
    have := List.all_eq_true.1 hh _ hm
    rw [getD_at h] at hx
    rw [hx] at this
    cases g <;> simp at this
theorem all_loop (hE : Plain E) (y : AllX) (h : okAl y.x = true) :
    Takes Try.prog E ra base 1 (.loop (codeOf 48 [false, false, true, false, true])) (mkT 18 (allIns y)) (hp 0 [y.x.blk]) fun z =>
      (allV y = true ∧ z = (.exit 0, mkT 18 [], hp 0 [y.x.blk])) ∨ (allV y = false ∧ z = (.ret, mkT 18 [(4, .bool false)], hp 0 [y.x.blk])) := by
  have hlen : lenA y ≤ (cellsY y).length := by
    obtain ⟨h1, h2, h3, h4, h5, h6⟩ := okAl_facts h
    obtain ⟨x, s, g⟩ := y
    simp only at h1 h2 h3 h4 h5 h6
    cases s <;> simp only [lenA, cellsY] <;> omega
  refine takes_loop (fun j ts h => ∃ i : Nat, i ≤ lenA y ∧ j = lenA y - i + 1 ∧ allB ((cellsY y).take i) y.g = true ∧ ts = mkT 18 (allAt y i) ∧ h = hp 0 [y.x.blk]) (fun ts h => by rintro ⟨i, _, h, _⟩; omega) (fun j ts h' => ?_) (j := lenA y + 1) ⟨0, Nat.zero_le _, rfl, rfl, rfl, rfl⟩
  rintro ⟨i, h1, h2, h3, rfl, rfl⟩
  refine (all_round hE y h h1).mono ?_
  rintro z (⟨k1, k2, rfl⟩ | ⟨k1, k2, rfl⟩ | ⟨k1, rfl⟩)
  · refine ⟨i + 1, k1, by omega, ?_, rfl, rfl⟩
    rw [allB_snoc _ _ (by omega), h3, k2]; simp
  · exact .inr ⟨by rw [allV_eq]; exact allB_low _ _ (by omega) k1 k2, rfl⟩
  · exact .inl ⟨by rw [allV_eq, ← k1]; exact h3, rfl⟩
theorem L48_ok (hE : Plain E) : LoopsOK Try.prog E ra base L48 := by
  refine sum2L_deal hE noL_ok rfl (c := codeOf 48 [false, false, true, false, true]) (by kernel_rfl) (fun _ => rfl) (fun _ => rfl) (fun y hy => ?_) (fun y hy => ?_)
  · simp only [allL1, Bool.and_eq_true] at hy
    refine (all_loop hE y hy.1).mono ?_
    rintro z (⟨_, rfl⟩ | ⟨k, _⟩)
    · rfl
    · rw [k] at hy; exact absurd hy.2 (by decide)
  · simp only [allL2, Bool.and_eq_true, Bool.not_eq_true'] at hy
    refine (all_loop hE y hy.1).mono ?_
    rintro z (⟨k, _⟩ | ⟨_, rfl⟩)
    · rw [k] at hy; exact absurd hy.2 (by decide)
    · rfl
theorem all_gives (hE : Plain E) (y : AllX) (h : okAl y.x = true) : Gives Try.prog E ra base 1 48 (allD.args y) (hp 0 [y.x.blk]) fun v h' => v = allD.out y ∧ h' = hp 0 [y.x.blk] := by
  obtain ⟨x, s, g⟩ := y
  have hL := L48_ok (ra := ra) (base := base) hE
  simp only at h
  cases s <;> cases g
  · refine (gives_of_tree hE (W_ok sumNone_ok hL) sumNone_ok (hp_below _) (all_bf E x) ?_).2
    simp only [Tree.holds, decide_true, Bool.and_self, Bool.and_true, Bool.true_and, h, Bool.not_eq_true', true_and]
    exact ⟨fun k => ⟨k, _, rfl, by rw [show allD.out ⟨x, false, false⟩ = .bool (allV ⟨x, false, false⟩) from rfl, k], rfl⟩, fun k => ⟨k, _, rfl, by rw [show allD.out ⟨x, false, false⟩ = .bool (allV ⟨x, false, false⟩) from rfl, k], rfl⟩⟩
  · refine (gives_of_tree hE (W_ok sumNone_ok hL) sumNone_ok (hp_below _) (all_bt E x) ?_).2
    simp only [Tree.holds, decide_true, Bool.and_self, Bool.and_true, Bool.true_and, h, Bool.not_eq_true', true_and]
    exact ⟨fun k => ⟨k, _, rfl, by rw [show allD.out ⟨x, false, true⟩ = .bool (allV ⟨x, false, true⟩) from rfl, k], rfl⟩, fun k => ⟨k, _, rfl, by rw [show allD.out ⟨x, false, true⟩ = .bool (allV ⟨x, false, true⟩) from rfl, k], rfl⟩⟩
  · refine (gives_of_tree hE (W_ok sumNone_ok hL) sumNone_ok (hp_below _) (all_if E x) ?_).2
    simp only [Tree.holds, decide_true, Bool.and_self, Bool.and_true, Bool.true_and, h, Bool.not_eq_true', true_and]
    exact ⟨fun k => ⟨k, _, rfl, by rw [show allD.out ⟨x, true, false⟩ = .bool (allV ⟨x, true, false⟩) from rfl, k], rfl⟩, fun k => ⟨k, _, rfl, by rw [show allD.out ⟨x, true, false⟩ = .bool (allV ⟨x, true, false⟩) from rfl, k], rfl⟩⟩
  · refine (gives_of_tree hE (W_ok sumNone_ok hL) sumNone_ok (hp_below _) (all_it E x) ?_).2
    simp only [Tree.holds, decide_true, Bool.and_self, Bool.and_true, Bool.true_and, h, Bool.not_eq_true', true_and]
    exact ⟨fun k => ⟨k, _, rfl, by rw [show allD.out ⟨x, true, true⟩ = .bool (allV ⟨x, true, true⟩) from rfl, k], rfl⟩, fun k => ⟨k, _, rfl, by rw [show allD.out ⟨x, true, true⟩ = .bool (allV ⟨x, true, true⟩) from rfl, k], rfl⟩⟩
theorem S48_ok (hE : Plain E) : SumsOK Try.prog E ra base S48 := sumG_deal hE sumNone_ok ⟨_, Try.func48, by kernel_rfl⟩ fun y hy => all_gives hE y hy
theorem wE (hE : Plain E) {S : Sums} (hS : SumsOK Try.prog E ra base S) : ExecOK Try.prog E ra base (W E S noL) := W_ok hS noL_ok
theorem phase_gives (hE : Plain E) (x : Al) (h : okAl x = true) : Gives Try.prog E ra base 1 34 [.ptr (.own 0 0 0 0)] (hp 0 [x.blk]) fun v h' => v = .int .i64 (phaseL x.p x.q) ∧ h' = hp 0 [x.blk] := by
  obtain ⟨_, _, h3, h4, h5, h6⟩ := okAl_facts h
  have hS := S48_ok (ra := ra) (base := base) hE
  refine (gives_of_tree hE (wE hE hS) hS (hp_below _) (phase_call E x) ?_).2
  simp only [Tree.holds, decide_true, Bool.and_self, Bool.and_true, Bool.true_and, true_and, h, h3, h4, h5, h6]
  refine ⟨fun a => ⟨fun b => ⟨_, rfl, ?_, rfl⟩, fun b => ⟨fun c => ⟨_, rfl, ?_, rfl⟩, fun c => ⟨fun d => ⟨_, rfl, ?_, rfl⟩, fun d => ⟨_, rfl, ?_, rfl⟩⟩⟩⟩, fun a => ⟨fun c => ⟨_, rfl, ?_, rfl⟩, fun c => ⟨fun d => ⟨_, rfl, ?_, rfl⟩, fun d => ⟨_, rfl, ?_, rfl⟩⟩⟩⟩
  · simp [phaseL, a, b]
  · simp only [Bool.not_eq_true'] at c; simp [phaseL, a, b, c]
  · simp only [Bool.not_eq_true', Bool.not_eq_false'] at c d; simp [phaseL, a, b, c, d]
  · simp only [Bool.not_eq_true', Bool.not_eq_false'] at c d; simp [phaseL, a, b, c, d]
  · simp only [Bool.not_eq_true'] at c; simp [phaseL, a, c]
  · simp only [Bool.not_eq_true', Bool.not_eq_false'] at c d; simp [phaseL, a, c, d]
  · simp only [Bool.not_eq_true', Bool.not_eq_false'] at c d; simp [phaseL, a, c, d]
theorem p_len {x : Al} (h : okAl x = true) : (x.p.length : Int) = x.n ∧ (x.q.length : Int) = x.m := by
  obtain ⟨h1, h2, h3, h4, h5, h6⟩ := okAl_facts h
  constructor
  · rw [Al.p, List.length_take]; omega
  · rw [Al.q, List.length_take]; omega
theorem getD_take {c : List Bool} {n i : Nat} (h : i < n) : (c.take n).getD i false = c.getD i false := by
  simp [List.getD_eq_getElem?_getD, List.getElem?_take, h]
theorem isB_p {x : Al} (h : okAl x = true) (i : Int) : isB x.p i = (decide (0 ≤ i) && (decide (i < x.n) && x.c.getD i.toNat false)) := by
  obtain ⟨h1, h2, h3, h4, h5, h6⟩ := okAl_facts h
  rw [isB, (p_len h).1]
  by_cases a : 0 ≤ i
  · by_cases b : i < x.n
    · rw [Al.p, getD_take (by omega)]
    · simp [b]
  · simp [a]
theorem blocked_gives (hE : Plain E) (x : Al) (i : Int) (h : okAl x = true) : Gives Try.prog E ra base 1 27 [.ptr (.own 0 0 0 0), .int .i64 i] (hp 0 [x.blk]) fun v h' => v = .bool (isB x.p i) ∧ h' = hp 0 [x.blk] := by
  obtain ⟨h1, h2, h3, h4, h5, h6⟩ := okAl_facts h
  refine (gives_of_tree hE (W_ok sumNone_ok noL_ok) sumNone_ok (hp_below _) (blocked_call E x i) ?_).2
  rw [isB_p h]
  simp only [Tree.holds, decide_eq_true_eq, decide_eq_false_iff_not, Bool.and_eq_true]
  exact ⟨fun a => ⟨fun b => ⟨⟨a, by omega⟩, by omega, _, rfl, by simp [a, b], rfl⟩, fun b => ⟨_, rfl, by simp [b], rfl⟩⟩, fun a => ⟨_, rfl, by simp [a], rfl⟩⟩
theorem come_gives (hE : Plain E) (x : Al) (i k : Int) (h : okAl x = true) : Gives Try.prog E ra base 1 44 [.ptr (.own 0 0 0 0), .int .i64 i, .int .i64 k] (hp 0 [x.blk]) fun v h' => v = .int .i64 (comeE x.p x.l i k) ∧ h' = hp 0 [(x.come i k).blk] := by
  obtain ⟨h1, h2, h3, h4, h5, h6⟩ := okAl_facts h
  refine (gives_of_tree hE (W_ok sumNone_ok noL_ok) sumNone_ok (hp_below _) (come_call E x i k) ?_).2
  have hl := (p_len h).1
  have key : ∀ e : Int, comeE x.p x.l i k = e → e ≠ 0 → (x.come i k).blk = x.blk := fun e he hn => by
    have : x.come i k = x := by rw [Al.come, he, putB, if_neg hn]
    rw [this]
  simp only [Tree.holds, decide_eq_true_eq, decide_eq_false_iff_not, Bool.and_eq_true, Bool.not_eq_true', Bool.not_eq_false']
  refine ⟨fun a => ⟨fun b => ?_, fun b => ⟨⟨a, by omega⟩, by omega, fun c => ?_, fun c => ⟨fun d => ?_, fun d => ⟨⟨a, by omega⟩, by omega, ?_⟩⟩⟩⟩, fun a => ?_⟩
  · have he : comeE x.p x.l i k = 2 := by rw [comeE, if_pos (by omega)]
    exact ⟨_, rfl, by rw [he], by rw [key 2 he (by decide)]; rfl⟩
  · have he : comeE x.p x.l i k = 19 := by rw [comeE, if_neg (by omega), Al.p, getD_take (by omega), if_pos c]
    exact ⟨_, rfl, by rw [he], by rw [key 19 he (by decide)]; rfl⟩
  · have he : comeE x.p x.l i k = 7 := by rw [comeE, if_neg (by omega), Al.p, getD_take (by omega), c, if_neg (by decide), if_pos d]
    exact ⟨_, rfl, by rw [he], by rw [key 7 he (by decide)]; rfl⟩
  · have he : comeE x.p x.l i k = 0 := by rw [comeE, if_neg (by omega), Al.p, getD_take (by omega), c, if_neg (by decide), if_neg (fun hh => hh d)]
    refine ⟨_, rfl, by rw [he], ?_⟩
    have : x.come i k = { x with c := x.c.set i.toNat true } := by rw [Al.come, he, putB, if_pos rfl]
    rw [this]; rfl
  · have he : comeE x.p x.l i k = 2 := by rw [comeE, if_pos (by omega)]
    exact ⟨_, rfl, by rw [he], by rw [key 2 he (by decide)]; rfl⟩
theorem set16 {c : List Bool} (h : c.length = 16) : (((((((((((((((c.set 0 false).set 1 false).set 2 false).set 3 false).set 4 false).set 5 false).set 6 false).set 7 false).set 8 false).set 9 false).set 10 false).set 11 false).set 12 false).set 13 false).set 14 false).set 15 false = List.replicate 16 false := by
  match c, h with
  | [_, _, _, _, _, _, _, _, _, _, _, _, _, _, _, _], _ => rfl
theorem SA2_ok (hE : Plain E) (hS : SumsOK Try.prog E ra base S) : SumsOK Try.prog E ra base (SA2 S) := by
  refine sumG_deal hE (sumG_deal hE (sumG_deal hE hS ⟨_, Try.func34, by kernel_rfl⟩ fun x hx => phase_gives hE x hx) ⟨_, Try.func31, by kernel_rfl⟩ fun x hx => ?_) ⟨_, Try.func27, by kernel_rfl⟩ fun y hy => blocked_gives hE y.x y.i hy
  exact (gives_of_tree hE (W_ok sumNone_ok noL_ok) sumNone_ok (hp_below _) (last_call E x) ⟨_, rfl, rfl, rfl⟩).2
theorem done_gives (hE : Plain E) (x : Al) (h : okAl x = true) : Gives Try.prog E ra base 1 38 [.ptr (.own 0 0 0 0)] (hp 0 [x.blk]) fun v h' => v = .int .i64 (if phaseL x.p x.q = 3 then 0 else 7) ∧ h' = hp 0 [x.done.blk] := by
  obtain ⟨h1, h2, h3, h4, h5, h6⟩ := okAl_facts h
  have hS := SA2_ok (ra := ra) (base := base) hE (S48_ok hE)
  refine (gives_of_tree hE (wE hE hS) hS (hp_below _) (done_call E x) ?_).2
  simp only [Tree.holds, decide_true, Bool.and_self, Bool.and_true, Bool.true_and, true_and, h1, h2, h3, h4, h5, h6, Bool.not_eq_true', Bool.not_eq_false', decide_eq_true_eq, decide_eq_false_iff_not, set16 h1, set16 h2]
  refine ⟨fun a => ⟨_, rfl, by rw [if_neg a], ?_⟩, fun a => ⟨_, rfl, by rw [if_pos a], ?_⟩⟩
  · rw [Al.done, if_neg a]; rfl
  · rw [Al.done, if_pos a]; rfl
theorem getD_takeI {c : List Int} {n i : Nat} (h : i < n) : (c.take n).getD i 0 = c.getD i 0 := by
  simp [List.getD_eq_getElem?_getD, List.getElem?_take, h]
theorem okFr_facts {x : Fr} (h : okFr x = true) : x.c.length = 16 ∧ 1 ≤ x.n ∧ x.n ≤ 16 := by
  simp only [okFr, Bool.and_eq_true, decide_eq_true_eq] at h
  exact ⟨h.1, h.2.1, h.2.2⟩
theorem l_len {x : Fr} (h : okFr x = true) : (x.l.length : Int) = x.n := by
  obtain ⟨h1, h2, h3⟩ := okFr_facts h
  rw [Fr.l, List.length_take]; omega
def leAt (x : Fr) (v i : Int) : List (Nat × AVal) := [(0, .int .i64 v), (7, leSl x), (8, .int .i64 x.n.toNat), (9, .int .i64 i)]
theorem least_step (hE : Plain E) {x : Fr} (h : okFr x = true) (v : Int) {i : Nat} (hi : i ≤ x.n.toNat) : Takes Try.prog E ra base 1 (codeOf 47 [false, false, true, false, true]) (mkT 19 (leAt x v i)) (hp 0 [x.blk]) fun z =>
    (i < x.n.toNat ∧ z = (.normal, mkT 19 (leAt x (if x.c.getD i 0 < v then x.c.getD i 0 else v) ((i + 1 : Nat) : Int)), hp 0 [x.blk])) ∨ (i = x.n.toNat ∧ z = (.exit 0, mkT 19 [(0, .int .i64 v)], hp 0 [x.blk])) := by
  obtain ⟨h1, h2, h3⟩ := okFr_facts h
  have hw : wr .i64 ((i : Int) + 1) = ((i + 1 : Nat) : Int) := by rw [wr_in ⟨by omega, by omega⟩]; omega
  refine takes_of_tree hE (W_ok sumNone_ok noL_ok) (f := 47) (.inr (by kernel_rfl)) (hp_below _) (least_round E v (x.n.toNat : Int) i x) ?_
  simp only [Tree.holds, decide_eq_true_eq, decide_eq_false_iff_not, Bool.and_eq_true, toNat_nat, hw]
  refine ⟨fun k1 => ⟨by omega, by omega, fun k2 => .inl ⟨by omega, ?_⟩, fun k2 => .inl ⟨by omega, ?_⟩⟩, fun k1 => .inr ⟨by omega, rfl⟩⟩
  · rw [if_pos k2]; rfl
  · rw [if_neg k2]; rfl
theorem leastL_snoc (v : Int) (c : List Int) {i : Nat} (h : i < c.length) : leastL v (c.take (i + 1)) = if c.getD i 0 < leastL v (c.take i) then c.getD i 0 else leastL v (c.take i) := by
  rw [leastL, List.take_add_one, List.getElem?_eq_getElem h, List.foldl_append, getD_at h]; rfl
theorem L47_ok (hE : Plain E) : LoopsOK Try.prog E ra base L47 := by
  refine sumLG_deal hE noL_ok rfl (c := codeOf 47 [false, false, true, false, true]) (by kernel_rfl) (fun _ => rfl) fun y hy => ?_
  have hP : okFr y.x = true := hy
  obtain ⟨g1, g2, g3⟩ := okFr_facts hP
  refine takes_loop (fun j ts h => ∃ i : Nat, i ≤ y.x.n.toNat ∧ j = y.x.n.toNat - i + 1 ∧ ts = mkT 19 (leAt y.x (leastL y.v (y.x.c.take i)) i) ∧ h = hp 0 [y.x.blk]) (fun ts h => by rintro ⟨i, _, h, _⟩; omega) (fun j ts h' => ?_) (j := y.x.n.toNat + 1) ⟨0, Nat.zero_le _, rfl, rfl, rfl⟩
  rintro ⟨i, h1, h2, rfl, rfl⟩
  refine (least_step hE hP _ h1).mono ?_
  rintro z (⟨k1, rfl⟩ | ⟨k1, rfl⟩)
  · exact ⟨i + 1, k1, by omega, by rw [leastL_snoc _ _ (by omega)], rfl⟩
  · show _ = _
    rw [k1]; rfl
theorem S47_ok (hE : Plain E) : SumsOK Try.prog E ra base S47 := by
  refine sumG_deal hE sumNone_ok ⟨_, Try.func47, by kernel_rfl⟩ fun y hy => ?_
  have hP : okFr y.x = true := hy
  refine (gives_of_tree hE (W_ok sumNone_ok (L47_ok hE)) sumNone_ok (hp_below _) (least_call E y.v y.x) ?_).2
  simp only [Tree.holds, decide_true, Bool.and_self, Bool.and_true, Bool.true_and, true_and, hP, sameCap_self]
  exact ⟨_, rfl, rfl, rfl⟩
theorem min_gives (hE : Plain E) (x : Fr) (h : okFr x = true) : Gives Try.prog E ra base 1 33 [.ptr (.own 0 0 0 0)] (hp 0 [x.blk]) fun v h' => v = .int .i64 (minF x) ∧ h' = hp 0 [x.blk] := by
  obtain ⟨h1, h2, h3⟩ := okFr_facts h
  refine (gives_of_tree hE (wE hE (S47_ok hE)) (S47_ok hE) (hp_below _) (min_call E x) ?_).2
  simp only [Tree.holds, decide_true, Bool.and_self, Bool.and_true, Bool.true_and, true_and, h, Bool.and_eq_true, decide_eq_true_eq, sameCap_self]
  exact ⟨by omega, by omega, _, rfl, rfl, rfl⟩
theorem marks_gives (hE : Plain E) (x : Fr) (h : okFr x = true) : Gives Try.prog E ra base 1 26 [.ptr (.own 0 0 0 0)] (hp 0 [x.blk]) fun v h' => v = marksD.out x ∧ h' = hp 0 (marksD.blks' x) := by
  obtain ⟨h1, h2, h3⟩ := okFr_facts h
  refine (gives_of_tree hE (W_ok sumNone_ok noL_ok) sumNone_ok (hp_below _) (marks_call E x) ?_).2
  have e : Nat.beq x.n.toNat 0 = false := by
    cases hb : Nat.beq x.n.toNat 0
    · rfl
    · have := Nat.eq_of_beq_eq_true hb; omega
  refine ⟨by rw [Bool.and_eq_true]; exact ⟨decide_eq_true (by omega), decide_eq_true h3⟩, by rw [Bool.and_eq_true]; exact ⟨decide_eq_true (by omega), decide_eq_true (by omega)⟩, brT_no e ⟨decide_eq_true (by omega), decide_eq_true (by omega), ⟨_, rfl, rfl, rfl⟩⟩⟩
theorem mark_gives (hE : Plain E) (x : Fr) (i a : Int) (h : okFr x = true) : Gives Try.prog (E) ra base 1 41 [.ptr (.own 0 0 0 0), .int .i64 i, .int .i64 a] (hp 0 [x.blk]) fun v h' => v = .int .i64 (markE x.l i a) ∧ h' = hp 0 [(x.mark i a).blk] := by
  obtain ⟨h1, h2, h3⟩ := okFr_facts h
  have hl := l_len h
  refine (gives_of_tree hE (W_ok sumNone_ok noL_ok) sumNone_ok (hp_below _) (mark_call E x i a) ?_).2
  have key : ∀ e : Int, markE x.l i a = e → e ≠ 0 → x.mark i a = x := fun e he hn => by rw [Fr.mark, he, putI, if_neg hn]
  have hg : 0 ≤ i → i < x.n → x.l.getD i.toNat 0 = x.c.getD i.toNat 0 := fun p q => by rw [Fr.l, getD_takeI (by omega)]
  simp only [Tree.holds, decide_eq_true_eq, decide_eq_false_iff_not, Bool.and_eq_true]
  refine ⟨fun k1 => ?_, fun k1 => ⟨fun k2 => ?_, fun k2 => ⟨⟨by omega, by omega⟩, by omega, fun k3 => ?_, fun k3 => ⟨fun k4 => ?_, fun k4 => ⟨⟨by omega, by omega⟩, by omega, ?_⟩⟩⟩⟩⟩
  · have he : markE x.l i a = 2 := by rw [markE, if_pos (.inl k1)]
    exact ⟨_, rfl, by rw [he], by rw [key 2 he (by decide)]; rfl⟩
  · have he : markE x.l i a = 2 := by rw [markE, if_pos (.inr (by omega))]
    exact ⟨_, rfl, by rw [he], by rw [key 2 he (by decide)]; rfl⟩
  · have he : markE x.l i a = 12 := by rw [markE, if_neg (by omega), hg (by omega) (by omega), if_pos (.inl k3)]
    exact ⟨_, rfl, by rw [he], by rw [key 12 he (by decide)]; rfl⟩
  · have he : markE x.l i a = 12 := by rw [markE, if_neg (by omega), if_pos (.inr k4)]
    exact ⟨_, rfl, by rw [he], by rw [key 12 he (by decide)]; rfl⟩
  · have he : markE x.l i a = 0 := by rw [markE, if_neg (by omega), hg (by omega) (by omega), if_neg (by omega)]
    refine ⟨_, rfl, by rw [he], ?_⟩
    have : x.mark i a = { x with c := x.c.set i.toNat a } := by rw [Fr.mark, he, putI, if_pos rfl]
    rw [this]; rfl
theorem newOkF_iff {n : Int} : newOkF n = true ↔ 1 ≤ n ∧ n ≤ 16 := by
  simp only [newOkF, Bool.and_eq_true, decide_eq_true_eq]
theorem SF_ok (hE : Plain E) (hS : SumsOK Try.prog E ra base S) : SumsOK Try.prog E ra base (SF S) := by
  refine sumG_deal hE (sum2_deal hE (sumG_deal hE (sumG_deal hE (sumG_deal hE hS ⟨_, Try.func40, by kernel_rfl⟩ fun _ _ => ?_) ⟨_, Try.func33, by kernel_rfl⟩ fun x hx => min_gives hE x hx) ⟨_, Try.func41, by kernel_rfl⟩ fun y hy => mark_gives hE y.x y.i y.a hy) ⟨_, Try.func39, by kernel_rfl⟩ (fun n hn => ?_) (fun n hn => ?_)) ⟨_, Try.func26, by kernel_rfl⟩ fun x hx => marks_gives hE x hx
  · exact (gives_of_tree hE (W_ok sumNone_ok noL_ok) sumNone_ok (hp_below []) (with_call E) ⟨_, rfl, rfl, rfl⟩).2
  · obtain ⟨h1, h2⟩ := newOkF_iff.1 hn
    refine (gives_of_tree hE (W_ok sumNone_ok noL_ok) sumNone_ok (hp_below _) (newfr_call E n) ?_).2
    simp only [Tree.holds, decide_eq_true_eq, decide_eq_false_iff_not]
    exact ⟨fun k => absurd k (by omega), fun _ => ⟨fun k => absurd k (by omega), fun _ => ⟨_, rfl, rfl, rfl⟩⟩⟩
  · have h' : ¬ (1 ≤ n ∧ n ≤ 16) := fun hh => by
      have := newOkF_iff.2 hh
      simp only [newF2, this] at hn; cases hn
    refine (gives_of_tree hE (W_ok sumNone_ok noL_ok) sumNone_ok (hp_below _) (newfr_call E n) ?_).2
    simp only [Tree.holds, decide_eq_true_eq, decide_eq_false_iff_not]
    exact ⟨fun _ => ⟨_, rfl, rfl, rfl⟩, fun a => ⟨fun _ => ⟨_, rfl, rfl, rfl⟩, fun b => absurd (by omega) h'⟩⟩
theorem newOkA_iff {t : Tri} : newOkA t = true ↔ (1 ≤ t.n ∧ t.n ≤ 16) ∧ (0 ≤ t.m ∧ t.m ≤ 16) ∧ 0 ≤ t.l := by
  simp only [newOkA, Bool.and_eq_true, decide_eq_true_eq]; omega
theorem SA_ok (hE : Plain E) (hS : SumsOK Try.prog E ra base S) : SumsOK Try.prog E ra base (SA S) := by
  refine sum2_deal hE (sumG_deal hE (sumG_deal hE (SA2_ok hE hS) ⟨_, Try.func44, by kernel_rfl⟩ fun y hy => come_gives hE y.x y.i y.k hy) ⟨_, Try.func38, by kernel_rfl⟩ fun x hx => done_gives hE x hx) ⟨_, Try.func24, by kernel_rfl⟩ (fun t ht => ?_) (fun t ht => ?_)
  · obtain ⟨h1, h2, h3⟩ := newOkA_iff.1 ht
    refine (gives_of_tree hE (W_ok sumNone_ok noL_ok) sumNone_ok (hp_below _) (newal_call E t.n t.m t.l) ?_).2
    simp only [Tree.holds, decide_eq_true_eq, decide_eq_false_iff_not]
    exact ⟨fun k => absurd k (by omega), fun _ => ⟨fun k => absurd k (by omega), fun _ => ⟨fun k => absurd k (by omega), fun _ => ⟨fun k => absurd k (by omega), fun _ => ⟨fun k => absurd k (by omega), fun _ => ⟨_, rfl, rfl, rfl⟩⟩⟩⟩⟩⟩
  · have h' : ¬ ((1 ≤ t.n ∧ t.n ≤ 16) ∧ (0 ≤ t.m ∧ t.m ≤ 16) ∧ 0 ≤ t.l) := fun hh => by
      have := newOkA_iff.2 hh
      simp only [newA2, this] at ht; cases ht
    refine (gives_of_tree hE (W_ok sumNone_ok noL_ok) sumNone_ok (hp_below _) (newal_call E t.n t.m t.l) ?_).2
    simp only [Tree.holds, decide_eq_true_eq, decide_eq_false_iff_not]
    exact ⟨fun _ => ⟨_, rfl, rfl, rfl⟩, fun a => ⟨fun _ => ⟨_, rfl, rfl, rfl⟩, fun b => ⟨fun _ => ⟨_, rfl, rfl, rfl⟩, fun c => ⟨fun _ => ⟨_, rfl, rfl, rfl⟩, fun d => ⟨fun _ => ⟨_, rfl, rfl, rfl⟩, fun e => absurd (by omega) h'⟩⟩⟩⟩⟩
end
end Go.Proofs.Ytgkejpfahpbnkaa

namespace Go.Proofs.Ytgkejpfahpbnkaa
open Ab
structure Sk where
  f : Fr
  a : Al
  q : Ql
  len : Int
  done : Int
  und : Bool
def Sk.b0 (i j k : Nat) (x : Sk) : Blk := .segs [⟨1, 1, [.val [.ptr (.own i 0 0 0)]]⟩, ⟨1, 1, [.val [.ptr (.own j 0 0 0)]]⟩, ⟨1, 1, [.int .i64 [x.len]]⟩, ⟨1, 1, [.val [x.q.v k]]⟩, ⟨1, 1, [.int .i64 [x.done]]⟩, ⟨1, 1, [.bool [x.und]]⟩]
def Sk.blks (x : Sk) : List Blk := x.b0 1 2 3 :: x.f.blk :: x.a.blk :: x.q.blk
def SB : Sums := SF (SA (S32 noS))
def skO (b f a : Blk) (R : List Blk) : Option Sk := match b, frOf f, alOf a with
  | .segs [_, _, ⟨_, _, [.int _ [l]]⟩, ⟨_, _, [.val [v]]⟩, ⟨_, _, [.int _ [d]]⟩, ⟨_, _, [.bool [u]]⟩], some f, some a => match qlOf v R with
    | some (q, _) => some ⟨f, a, q, l, d, u⟩
    | none => none
  | _, _, _ => none
def sk1 (_ : List AVal) (Bs : List Blk) : Option Sk := match Bs with
  | b :: f :: a :: R => skO b f a R
  | _ => none
def pS : AVal := .ptr (.own 0 0 0 0)
def Sk.ids (x : Sk) : List Nat := rg 0 x.blks.length
def Sk.nb (x : Sk) : Nat := x.blks.length
def nilQ : Ql := ⟨true, false, 0, 0, ⟨[], [], [], [], [], []⟩⟩
def litQ : Ql := ⟨false, true, 0, 0, ⟨[], [], [], [], [], []⟩⟩
def Ql.gr (l : List Rc) : Ql := ⟨false, false, l.length, l.length, cols l⟩
def Ql.srt (q : Ql) : Ql := match q.nil with
  | true => nilQ
  | false => ⟨false, false, q.n, q.n, cols (isort q.l)⟩
def Ql.full (q : Ql) : Bool := q.nil || (!q.lit && decide (1 ≤ q.n))
def okSk (x : Sk) : Bool := okFr x.f && (okAl x.a && x.q.ok)
structure SkI where
  x : Sk
  i : Int
  t : Int
  k : Int
def skI (us : List AVal) (Bs : List Blk) : Option SkI := match us, sk1 us Bs with
  | [_, .int _ i], some x => some ⟨x, i, 0, 0⟩
  | [_, .int _ i, .agg [.int _ k, _, _, _, _, _, _, _, .int _ t, .int _ n, _, _, _, _, _, _, _, _, _, _, _, _, _, _]], some x => some ⟨x, i, cond (decide (k = 1)) t n, k⟩
  | _, _ => none
def beginD : CDeal SkI := ⟨fun y => [pS, .int .i64 y.i], fun y => y.x.blks, fun y => okSk y.x && (!y.x.und && decide (wr .i64 (y.i - 1) = y.x.a.l)), fun _ => .int .i64 0, fun y => Sk.blks { y.x with und := true }⟩
def Sk.rdy (x : Sk) : Bool := x.und && decide (phaseL x.a.p x.a.q = 3)
def readyD : CDeal Sk := ⟨fun _ => [pS], Sk.blks, okSk, fun x => .tup [.int .i64 (cond x.rdy (wr .i64 (x.a.l + 1)) 0), .bool x.rdy], Sk.blks⟩
def msgV (k n t : Int) (r : Rc) : AVal := .agg [.int .i64 k, .int .i64 0, .int .u32 r.k, .int .i64 r.t, .int .i64 r.v, .int .u8 r.s, .bool r.e, .bool r.f, .int .i64 t, .int .i64 n, .int .i64 0, .int .i64 0, .nils, .int .i64 0, .int .i64 0, .int .i64 0, .int .i64 0, .int .i64 0, .int .i64 0, .int .i64 0, .int .i64 0, .int .i64 0, .bool false, .nils]
def Sk.free (x : Sk) (i : Int) : Bool := decide (0 ≤ i) && (decide (i < x.f.n) && !isB x.a.p i)
def tmD : CDeal SkI := ⟨fun y => [pS, .int .i64 y.i, msgV 1 0 y.t z6], fun y => y.x.blks, fun y => okSk y.x && (y.x.free y.i && decide (markE y.x.f.l y.i y.t = 0)), fun _ => .int .i64 0, fun y => Sk.blks { y.x with f := y.x.f.mark y.i y.t }⟩
def tbD : CDeal SkI := ⟨fun y => [pS, .int .i64 y.i, msgV 2 y.t 0 z6], fun y => y.x.blks, fun y => okSk y.x && (y.x.free y.i && (y.x.und && decide (comeE y.x.a.p y.x.a.l y.i y.t = 0))), fun _ => .int .i64 0, fun y => Sk.blks { y.x with a := y.x.a.come y.i y.t }⟩
def isM (y : SkI) : Bool := decide (y.k = 1)
def staD (s : Sk → Ql) (p : Sk → Bool) : CDeal Sk := ⟨fun _ => [pS], Sk.blks, fun x => okSk x && p x, fun x => .agg [(s x).v x.nb, ilV (x.nb + (s x).blk.length) x.f.n.toNat, .int .i64 x.done, .int .i64 x.a.l], fun x => x.blks ++ ((s x).blk ++ [ilN x.f.n.toNat x.f.l])⟩
def staE : CDeal Sk := staD (fun _ => litQ) fun x => x.q.e1
def staG : CDeal Sk := staD (fun x => x.q.srt) fun x => x.q.full
def SK : Sums := sumF 7 (callNG [(isM, tmD)] tbD skI) (sumF 10 (callG beginD skI) (sumF 15 (callG readyD sk1) (sumF 11 (callNG [(fun x => x.q.e1, staE)] staG sk1) SB)))
end Go.Proofs.Ytgkejpfahpbnkaa
