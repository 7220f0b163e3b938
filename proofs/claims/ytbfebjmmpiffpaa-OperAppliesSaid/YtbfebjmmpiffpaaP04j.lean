/- oper: the document's Apply, kept. -/
import Derived.Test.YtbfebjmmpiffpaaP04i
set_option linter.unusedSimpArgs false
set_option linter.unusedVariables false
namespace Go.Proofs.Ytbfebjmmpiffpaa
open Ab

theorem one_step (x : Op4) (l : List Rc) : l.flatMap (oneF x) = step x l := by
  unfold step
  cases hd : doesB x with
  | true =>
    have : oneF x = makes x := by funext r; rw [oneF, if_pos hd]
    rw [this, if_pos rfl]
  | false =>
    have : oneF x = fun r => [r] := by funext r; rw [oneF, if_neg (by rw [hd]; decide)]
    rw [this, if_neg (by decide)]
    induction l with
    | nil => rfl
    | cons r l ih => rw [List.flatMap_cons, ih]; rfl

/-- what is made of records that may be, may be -/
theorem rc_wr {k t v s : Int} {e l : Bool} (hk : 0 ≤ k ∧ k ≤ 4294967295) : rcB ⟨k, t, wr .i64 v, s, e, l⟩ = true := rc_iff.2 ⟨hk, by
  show -9223372036854775808 ≤ wr .i64 v ∧ wr .i64 v < 9223372036854775808
  rw [wr_eq]; omega⟩
theorem copies_rc (x : Op4) : ∀ (m : Nat) (r : Rc), rcB r = true → (copies x m r).all rcB = true
  | 0, _, _ => rfl
  | m + 1, r, h => by
    rw [copies, List.all_cons, h, Bool.true_and]
    exact copies_rc x m _ (rc_wr (rc_iff.1 h).1)
theorem makes_rc (x : Op4) {r : Rc} (h : rcB r = true) : (makes x r).all rcB = true := by
  unfold makes
  split
  · simp [h]
  · split
    · have := rc_wr (t := r.time) (v := wr .i64 (r.val * x.a) + x.b) (s := r.side) (e := r.err) (l := r.late) (rc_iff.1 h).1
      simp [this]
    · split
      · have : rcB ⟨keyOf x r, r.time, r.val, r.side, r.err, r.late⟩ = true := rc_iff.2 ⟨by
          have : 0 ≤ keyOf x r ∧ keyOf x r < 4294967296 := by
            unfold keyOf
            generalize wr .u32 (Int.tmod (wr .u64 r.key) (wr .u64 x.a)) + wr .u32 x.b = z
            show 0 ≤ z % 4294967296 ∧ z % 4294967296 < 4294967296
            omega
          simp only; omega, (rc_iff.1 h).2⟩
        simp [this]
      · split
        · split <;> simp [h]
        · exact copies_rc x _ r h
theorem step_rc (x : Op4) {l : List Rc} (h : l.all rcB = true) : (step x l).all rcB = true := by
  unfold step
  split
  · rw [List.all_eq_true] at h ⊢
    intro r hr
    obtain ⟨r', h1, h2⟩ := List.mem_flatMap.1 hr
    exact List.all_eq_true.1 (makes_rc x (h r' h1)) r h2
  · exact h
theorem fold_rc : ∀ (ops : List Op4) {l : List Rc}, l.all rcB = true → (ops.foldl (fun l x => step x l) l).all rcB = true
  | [], _, h => h
  | x :: ops, _, h => fold_rc ops (step_rc x h)

theorem one_len (x : Op4) (r : Rc) : (oneF x r).length ≤ 3 := by
  unfold oneF
  split
  · exact makes_len (by assumption) r
  · simp

section
variable {E : Nat → Nat → Seg} {ra : Nat → Nat → Nat × Nat} {base : Nat}

theorem SR_ok (hE : Plain E) : SumsOK Try.prog E ra base SR := by
  refine sumNG_deal hE sumNone_ok ⟨_, Try.func22, by kernel_rfl⟩ ?_ ?_
  · intro q hq
    simp only [List.mem_cons, List.not_mem_nil, or_false] at hq
    subst hq
    intro y hy
    simp only [orNone, Bool.and_eq_true] at hy
    exact Gives.mono (fun v h' hv => hv.1 hy.2) (one_g hE y hy.1)
  · intro y hy
    simp only [orSome, Bool.and_eq_true, Bool.not_eq_true'] at hy
    exact Gives.mono (fun v h' hv => hv.2 hy.2) (one_g hE y hy.1)

/-- what stands in the inner loop -/
def riT (o : Os) (c : Option Nat) (i : Int) (d : Option Nat) (l q : List Rc) (j : Nat) : Tmps := mkT 36 (Ri.at ⟨o, c, i, true, Rs.of l, d⟩ (oV (fullB q) 2 (Rs.of q).ks.length) (j : Nat))
def riH (o : Os) (l q : List Rc) : Log := hp 0 ([o.blk, (Rs.of l).blk] ++ oB (fullB q) (Rs.of q))

theorem riT_S {o : Os} {c : Option Nat} {i : Int} {d : Option Nat} {l q : List Rc} {j : Nat} (h : fullB q = true) : riT o c i d l q j = mkT 36 [(0, .slice (.own 0 0 0 4) o.kk.length c), (5, .slice (.own 1 0 0 6) l.length d), (6, .int .i64 i), (7, .slice (.own 2 0 0 6) q.length none), (8, .int .i64 (j : Nat))] := by
  simp only [riT, Ri.at, Ri.V, Ri.lV, h, oV, ks_len]
theorem riT_N {o : Os} {c : Option Nat} {i : Int} {d : Option Nat} {l : List Rc} {j : Nat} : riT o c i d l [] j = mkT 36 [(0, .slice (.own 0 0 0 4) o.kk.length c), (5, .slice (.own 1 0 0 6) l.length d), (6, .int .i64 i), (7, .nils), (8, .int .i64 (j : Nat))] := by
  simp only [riT, Ri.at, Ri.V, Ri.lV, ks_len]; rfl
theorem riH_S {o : Os} {l q : List Rc} (h : fullB q = true) : riH o l q = hp 0 [o.blk, .segs [⟨l.length, 6, [.int .u32 (Rs.of l).ks, .int .i64 (Rs.of l).ts, .int .i64 (Rs.of l).vs, .int .u8 (Rs.of l).ss, .bool (Rs.of l).es, .bool (Rs.of l).ls]⟩], .segs [⟨q.length, 6, [.int .u32 (q.map Rc.key), .int .i64 (q.map Rc.time), .int .i64 (q.map Rc.val), .int .u8 (q.map Rc.side), .bool (q.map Rc.err), .bool (q.map Rc.late)]⟩]] := by
  simp only [riH, h, oB, ← of_len, ← of_blk]; rfl
theorem riH_N {o : Os} {l : List Rc} : riH o l [] = hp 0 [o.blk, .segs [⟨l.length, 6, [.int .u32 (Rs.of l).ks, .int .i64 (Rs.of l).ts, .int .i64 (Rs.of l).vs, .int .u8 (Rs.of l).ss, .bool (Rs.of l).es, .bool (Rs.of l).ls]⟩]] := by
  simp only [riH, ← of_len]; rfl

theorem tkA {α : Type} (F : Rc → α) (p : List Rc) : List.take p.length (List.drop 0 (p.map F)) = p.map F := by
  rw [List.drop_zero]; exact List.take_of_length_le (by simp)

theorem ri_step (hE : Plain E) {o : Os} {i : Nat} (hi : i < o.kk.length) (c d : Option Nat) {l q : List Rc} (hl : l.length ≤ 1000000) (hq : q.length ≤ 3000000) {j : Nat} {r : Rc} (hr : l[j]? = some r) (hrc : rcB r = true) :
    Takes Try.prog E ra base 1 (codeOf 16 (false :: r2)) (riT o c i d l q j) (riH o l q) fun y => y = (.normal, riT o c i d l (q ++ oneF (opAt o i) r) (j + 1), riH o l (q ++ oneF (opAt o i) r)) := by
  have hS := SR_ok (ra := ra) (base := base) hE
  obtain ⟨e1, e2, e3, e4, e5, e6, e7⟩ := cols_of hr
  have ex : (⟨List.getD o.kk (0 + Int.toNat (i : Int)) 0, List.getD o.aa (0 + Int.toNat (i : Int)) 0, List.getD o.bb (0 + Int.toNat (i : Int)) 0, List.getD o.gg (0 + Int.toNat (i : Int)) 0⟩ : Op4) = opAt o i := by simp [opAt]
  have er : (⟨r.key, r.time, r.val, r.side, r.err, r.late⟩ : Rc) = r := rfl
  have c1 : decide ((j : Int) < (l.length : Int)) = true := decide_eq_true (by omega)
  have c2 : decide (0 ≤ (i : Int)) = true := decide_eq_true (by omega)
  have c3 : decide ((i : Int) < (o.kk.length : Int)) = true := decide_eq_true (by omega)
  have c4 : decide (0 + Int.toNat (i : Int) < o.kk.length) = true := decide_eq_true (by omega)
  have c5 : decide (0 ≤ (j : Int)) = true := decide_eq_true (by omega)
  have c6 : decide (0 + Int.toNat (j : Int) < l.length) = true := decide_eq_true (by omega)
  have hres : (⟨opAt o i, r⟩ : Or).res = oneF (opAt o i) r := rfl
  have hlen := one_len (opAt o i) r
  generalize hpp : oneF (opAt o i) r = p at hres hlen ⊢
  have hno : (⟨opAt o i, r⟩ : Or).none = p.isEmpty := by rw [Or.none, hres]
  have ht : wr .i64 ((j : Int) + 1) = ((j + 1 : Nat) : Int) := till (by omega)
  have c7 : decide (0 + p.length ≤ p.length) = true := decide_eq_true (by omega)
  cases hf : fullB q with
  | true =>
    obtain ⟨t1, t2, t3, t4, t5, t6⟩ := tk_of q
    have hT : riT o c i d l q j = mkT 36 (Ri.at ⟨o, c, i, true, Rs.of l, d⟩ (.slice (.own 2 0 0 6) (Rs.of q).ks.length none) (j : Nat)) := by rw [riT, hf]; rfl
    have hH : riH o l q = hp 0 [o.blk, (Rs.of l).blk, (Rs.of q).blk] := by rw [riH, hf]; rfl
    rw [hT, hH]
    refine takes_of_tree hE (wE hE hS) (f := 16) (.inr (by kernel_rfl)) (hp_below _) (ri_S E o c i (Rs.of l) d (Rs.of q) (j : Nat)) ?_
    have c8 : decide (0 + q.length ≤ q.length) = true := decide_eq_true (by omega)
    have c9 : decide (q.length * 32 ≤ 35184372088832) = true := room (by omega)
    have c10 : decide ((q.length + p.length) * 32 ≤ 35184372088832) = true := room (by omega)
    simp only [e1, e2, e3, e4, e5, e6, ex]
    simp only [er, hno, hres, hrc, ks_len, List.length_map, t1, t2, t3, t4, t5, t6, tkA, c1, c2, c3, c4, c5, c6, c7, c8, c9, c10, ht, Tree.holds, decide_true, Bool.and_self, Bool.and_true, Bool.true_and, true_and, and_true]
    refine ⟨fun _ => ⟨fun he => ⟨he, ?_⟩, fun he => ⟨by rw [he]; rfl, ?_⟩⟩, fun h => by cases h⟩
    · obtain rfl := List.isEmpty_iff.1 he
      simp only [List.append_nil]
      rw [riT_S hf, riH_S hf]; rfl
    · rw [riT_S (fullB_app hf), riH_S (fullB_app hf)]
      simp only [List.map_append, List.length_append]; rfl
  | false =>
    obtain rfl := full_nil hf
    refine takes_of_tree hE (wE hE hS) (f := 16) (.inr (by kernel_rfl)) (hp_below _) (ri_N E o c i (Rs.of l) d (j : Nat)) ?_
    have c10 : decide (p.length * 32 ≤ 35184372088832) = true := room (by omega)
    simp only [e1, e2, e3, e4, e5, e6, ex]
    simp only [er, hno, hres, hrc, ks_len, List.length_map, tkA, c1, c2, c3, c4, c5, c6, c7, c10, ht, Tree.holds, decide_true, Bool.and_self, Bool.and_true, Bool.true_and, true_and, and_true, List.nil_append]
    refine ⟨fun _ => ⟨fun he => ⟨he, ?_⟩, fun he => ⟨by rw [he]; rfl, fun hb => ?_, fun hb => ?_⟩⟩, fun h => by cases h⟩
    · obtain rfl := List.isEmpty_iff.1 he
      rw [riT_N, riH_N]; rfl
    · have := Nat.eq_of_beq_eq_true hb
      obtain rfl := List.length_eq_zero_iff.1 this
      cases he
    · have hf' : fullB p = true := by rw [fullB, he]; rfl
      rw [riT_S hf', riH_S hf']
      rfl

theorem ri_end (hE : Plain E) (o : Os) (c : Option Nat) (i : Int) (d : Option Nat) (l q : List Rc) : Takes Try.prog E ra base 1 (codeOf 16 (false :: r2)) (riT o c i d l q l.length) (riH o l q) fun y =>
    y = (.exit 2, mkT 36 [(0, .slice (.own 0 0 0 4) o.kk.length c), (6, .int .i64 i), (7, oV (fullB q) 1 (Rs.of q).ks.length)], hp 0 (o.blk :: oB (fullB q) (Rs.of q))) := by
  have hS := SR_ok (ra := ra) (base := base) hE
  have c1 : decide ((l.length : Int) < ((Rs.of l).ks.length : Int)) = false := decide_eq_false (by rw [ks_len]; omega)
  cases hf : fullB q with
  | true =>
    have hT : riT o c i d l q l.length = mkT 36 (Ri.at ⟨o, c, i, true, Rs.of l, d⟩ (.slice (.own 2 0 0 6) (Rs.of q).ks.length none) (l.length : Nat)) := by rw [riT, hf]; rfl
    have hH : riH o l q = hp 0 [o.blk, (Rs.of l).blk, (Rs.of q).blk] := by rw [riH, hf]; rfl
    rw [hT, hH]
    refine takes_of_tree hE (wE hE hS) (f := 16) (.inr (by kernel_rfl)) (hp_below _) (ri_S E o c i (Rs.of l) d (Rs.of q) (l.length : Nat)) ?_
    simp only [Tree.holds, c1, Bool.false_eq_true, false_implies, true_and, forall_const]
    rfl
  | false =>
    obtain rfl := full_nil hf
    refine takes_of_tree hE (wE hE hS) (f := 16) (.inr (by kernel_rfl)) (hp_below _) (ri_N E o c i (Rs.of l) d (l.length : Nat)) ?_
    simp only [Tree.holds, c1, Bool.false_eq_true, false_implies, true_and, forall_const]
    rfl

theorem ri_takes (hE : Plain E) (x : Ri) (hx : riD.pre x = true) : Takes Try.prog E ra base 1 (.loop (codeOf 16 (false :: r2))) (mkT 36 (riD.ins x)) (hp 0 (riD.blks x)) fun w => PostL 36 x w riD.alts := by
  obtain ⟨o, c, i, full, L, d⟩ := x
  simp only [riD, Bool.and_eq_true, decide_eq_true_eq] at hx
  obtain ⟨hL, hall, _, hi0, hi1⟩ := hx
  obtain ⟨h1, h2, h3⟩ := okL_iff.1 hL
  obtain ⟨n, rfl⟩ : ∃ n : Nat, i = n := ⟨i.toNat, by omega⟩
  have hin : n < o.kk.length := by omega
  rcases h3 with ⟨rfl, h3⟩ | ⟨rfl, h3⟩
  · have e := of_toL h1
    have hm : madeR (opAt o n) L = (toL L).flatMap (oneF (opAt o n)) := rfl
    rw [allB] at hall
    generalize hl' : toL L = l at *
    subst e
    rw [ks_len] at h2 h3
    refine takes_loop (fun j ts h => ∃ i : Nat, i ≤ l.length ∧ j = l.length - i + 1 ∧ ts = riT o c n d l ((l.take i).flatMap (oneF (opAt o n))) i ∧ h = riH o l ((l.take i).flatMap (oneF (opAt o n)))) (fun ts h => by rintro ⟨_, _, h, _⟩; omega) (fun j ts h' => ?_) (j := l.length + 1) ⟨0, Nat.zero_le _, rfl, rfl, rfl⟩
    rintro ⟨i, k1, k2, rfl, rfl⟩
    rcases Nat.lt_or_ge i l.length with hi | hi
    · have hr : l[i]? = some l[i] := List.getElem?_eq_getElem hi
      have hlo : ((l.take i).flatMap (oneF (opAt o n))).length ≤ 3000000 := by
        have := step_len (opAt o n) (l.take i)
        rw [← one_step, List.length_take] at this
        omega
      refine (ri_step hE hin c d h2 hlo hr (List.all_eq_true.1 hall _ (List.getElem_mem hi))).mono ?_
      rintro w rfl
      exact ⟨i + 1, by omega, by omega, by rw [flat_take hr], by rw [flat_take hr]⟩
    · have : i = l.length := by omega
      subst this
      rw [List.take_length, ← hm]
      refine (ri_end hE o c n d l (madeR (opAt o n) (Rs.of l))).mono ?_
      rintro w rfl
      cases hf : fullB (madeR (opAt o n) (Rs.of l)) with
      | true => exact .inr ⟨Rs.of (madeR (opAt o n) (Rs.of l)), ⟨rfl, fun h => by rw [h] at hf; cases hf⟩, rfl⟩
      | false => exact .inl ⟨(), full_nil hf, rfl⟩
  · obtain rfl := nil_len h1 h3
    refine takes_loop (fun j ts h => j = 1 ∧ ts = mkT 36 (riD.ins ⟨o, c, n, false, Rs.none, d⟩) ∧ h = hp 0 (riD.blks ⟨o, c, n, false, Rs.none, d⟩)) (fun ts h => by rintro ⟨h, _⟩; omega) (fun j ts h' => ?_) (j := 1) ⟨rfl, rfl, rfl⟩
    rintro ⟨_, rfl, rfl⟩
    refine takes_of_tree hE (wE hE (SR_ok hE)) (f := 16) (.inr (by kernel_rfl)) (hp_below _) (ri_no E o c n) ?_
    exact .inl ⟨(), rfl, rfl⟩

theorem TRi_ok (hE : Plain E) : ToldsOK Try.prog E ra base 1 TRi := sumT_ok noT_ok rfl (toldR_ok (c := .loop (codeOf 16 (false :: r2))) (by kernel_rfl) (ri_takes hE))

/-- what stands in the outer loop -/
def roI (o : Os) (c d : Option Nat) (l : List Rc) (i : Nat) : Ri := ⟨o, c, (i : Nat), fullB l, Rs.of l, d⟩
theorem madeR_of (x : Op4) (l : List Rc) : madeR x (Rs.of l) = step x l := by rw [madeR, toL_of, one_step]

theorem ro_step (hE : Plain E) {o : Os} (ho : lensO o = true) (ho' : o.kk.length ≤ 12) (c d : Option Nat) {l : List Rc} (hl : l.length ≤ 1000000) (hall : l.all rcB = true) {i : Nat} (hi : i < o.kk.length) :
    Takes Try.prog E ra base 1 (codeOf 16 (false :: pO)) (mkT 36 (Ri.ot (roI o c d l i))) (hp 0 (o.blk :: (roI o c d l i).lB)) fun y =>
      y = (.normal, mkT 36 (Ri.ot (roI o c none (step (opAt o i) l) (i + 1))), hp 0 (o.blk :: (roI o c none (step (opAt o i) l) (i + 1)).lB)) := by
  have hS := SR_ok (ra := ra) (base := base) hE
  have hT := TRi_ok (ra := ra) (base := base) hE
  have c1 : decide ((i : Int) < (o.kk.length : Int)) = true := decide_eq_true (by omega)
  have c2 : decide (0 ≤ (i : Int)) = true := decide_eq_true (by omega)
  have s1 := cap_self c
  have s2 := cap_self d
  have hok := okL_of hl
  have ha : allB (Rs.of l) = true := by rw [allB, toL_of]; exact hall
  have ht : wr .i64 ((i : Int) + 1) = ((i + 1 : Nat) : Int) := till (by omega)
  have hm := madeR_of (opAt o i) l
  cases hf : fullB l with
  | true =>
    rw [hf] at hok
    have hI : roI o c d l i = ⟨o, c, (i : Nat), true, Rs.of l, d⟩ := by rw [roI, hf]
    rw [hI]
    refine takes_of_treeQ hE (wE hE hS) hT (.inr (by kernel_rfl)) (hp_below _) (ro_S E o c (i : Nat) (Rs.of l) d) ?_
    simp only [TreeQ.holds, decide_true, Bool.and_self, Bool.and_true, Bool.true_and, true_and, c1, c2, s1, s2, hok, ha, ho, ht, Bool.not_false, Bool.not_true, Bool.false_eq_true, Bool.true_eq_false, false_implies, forall_const, and_true]
    refine ⟨fun h => ?_, fun y h => ?_⟩
    · have h : madeR (opAt o i) (Rs.of l) = [] := h
      rw [hm] at h
      rw [h]; rfl
    · obtain ⟨rfl, h3⟩ := h
      have h3 : madeR (opAt o i) (Rs.of l) ≠ [] := h3
      rw [hm] at h3
      have h4 : fullB (step (opAt o i) l) = true := by
        cases hh : fullB (step (opAt o i) l) with
        | true => rfl
        | false => exact absurd (full_nil hh) h3
      rw [roI, h4, ← hm]; rfl
  | false =>
    obtain rfl := full_nil hf
    have hs : step (opAt o i) [] = [] := by rw [← hm]; rfl
    refine takes_of_treeQ hE (wE hE hS) hT (.inr (by kernel_rfl)) (hp_below _) (ro_N E o c (i : Nat)) ?_
    simp only [TreeQ.holds, decide_true, Bool.and_self, Bool.and_true, Bool.true_and, true_and, c1, c2, s1, s2, ho, ht, Bool.not_false, Bool.not_true, Bool.false_eq_true, Bool.true_eq_false, false_implies, forall_const, and_true]
    refine ⟨fun h => ?_, fun y h => absurd rfl h.2⟩
    rw [hs]; rfl

theorem ro_end (hE : Plain E) (o : Os) (c d : Option Nat) (l : List Rc) : Takes Try.prog E ra base 1 (codeOf 16 (false :: pO)) (mkT 36 (Ri.ot (roI o c d l o.kk.length))) (hp 0 (o.blk :: (roI o c d l o.kk.length).lB)) fun y =>
    y = (.exit 0, mkT 36 [(5, (roI o c d l o.kk.length).lV)], hp 0 (o.blk :: (roI o c d l o.kk.length).lB)) := by
  have hS := SR_ok (ra := ra) (base := base) hE
  have hT := TRi_ok (ra := ra) (base := base) hE
  have c1 : decide ((o.kk.length : Int) < (o.kk.length : Int)) = false := decide_eq_false (by omega)
  cases hf : fullB l with
  | true =>
    have hI : roI o c d l o.kk.length = ⟨o, c, (o.kk.length : Nat), true, Rs.of l, d⟩ := by rw [roI, hf]
    rw [hI]
    refine takes_of_treeQ hE (wE hE hS) hT (.inr (by kernel_rfl)) (hp_below _) (ro_S E o c (o.kk.length : Nat) (Rs.of l) d) ?_
    simp only [TreeQ.holds, c1, Bool.false_eq_true, false_implies, true_and, forall_const]
    rfl
  | false =>
    obtain rfl := full_nil hf
    refine takes_of_treeQ hE (wE hE hS) hT (.inr (by kernel_rfl)) (hp_below _) (ro_N E o c (o.kk.length : Nat)) ?_
    simp only [TreeQ.holds, c1, Bool.false_eq_true, false_implies, true_and, forall_const]
    rfl

theorem opAt_at {o : Os} {i : Nat} (h : i < o.kk.length) : (toO o)[i]? = some (opAt o i) := by rw [toO_at h]; simp [opAt]

theorem ro_takes (hE : Plain E) (x : Ri) (hx : (roB x && roD.pre x) = true) : Takes Try.prog E ra base 1 (.loop (codeOf 16 (false :: pO))) (mkT 36 (roD.ins x)) (hp 0 (roD.blks x)) fun w => PostL 36 x w roD.alts := by
  obtain ⟨o, c, i, full, L, d⟩ := x
  simp only [roB, roD, Bool.and_eq_true, decide_eq_true_eq] at hx
  obtain ⟨hd, h1, h2, rfl, hall, h3, h4, rfl⟩ := hx
  obtain rfl := sameCap_eq hd
  have e := of_toL h2
  have hl := toL_len L
  rw [allB] at hall
  generalize hl' : toL L = l0 at *
  subst e
  rw [h1] at hl
  obtain ⟨r, rfl⟩ : ∃ r, l0 = [r] := List.length_eq_one_iff.1 hl
  have happ : appL o (Rs.of [r]) = (toO o).foldl (fun l x => step x l) [r] := by rw [appL, toL_of]
  have hlen := toO_len o
  have hcap : ∀ i : Nat, (if i = 0 then some 1 else (none : Option Nat)) = if i = 0 then some 1 else none := fun _ => rfl
  refine takes_loop (fun j ts h => ∃ i : Nat, i ≤ o.kk.length ∧ j = o.kk.length - i + 1 ∧ ts = mkT 36 (Ri.ot (roI o c (if i = 0 then some 1 else none) (((toO o).take i).foldl (fun l x => step x l) [r]) i)) ∧ h = hp 0 (o.blk :: (roI o c (if i = 0 then some 1 else none) (((toO o).take i).foldl (fun l x => step x l) [r]) i).lB)) (fun ts h => by rintro ⟨_, _, h, _⟩; omega) (fun j ts h' => ?_) (j := o.kk.length + 1) ⟨0, Nat.zero_le _, rfl, rfl, rfl⟩
  rintro ⟨i, k1, k2, rfl, rfl⟩
  have hroom : (((toO o).take i).foldl (fun l x => step x l) [r]).length ≤ 1000000 := fold_room (by rw [List.length_take]; omega)
  rcases Nat.lt_or_ge i o.kk.length with hi | hi
  · refine (ro_step hE h3 h4 c _ hroom (fold_rc _ hall) hi).mono ?_
    rintro w rfl
    refine ⟨i + 1, by omega, by omega, ?_, ?_⟩
    · rw [step_take (opAt_at hi), if_neg (Nat.succ_ne_zero i)]
    · rw [step_take (opAt_at hi), if_neg (Nat.succ_ne_zero i)]
  · have : i = o.kk.length := by omega
    subst this
    have et : (toO o).take o.kk.length = toO o := List.take_of_length_le (by omega)
    rw [et]
    refine (ro_end hE o c _ _).mono ?_
    rintro w rfl
    cases hf : fullB ((toO o).foldl (fun l x => step x l) [r]) with
    | true =>
      have hne : (toO o).foldl (fun l x => step x l) [r] ≠ [] := fun h => by rw [h] at hf; cases hf
      refine .inr ⟨⟨Rs.of ((toO o).foldl (fun l x => step x l) [r]), rcapF o⟩, ⟨by rw [happ], by rw [happ]; exact hne, rfl⟩, ?_⟩
      simp only [roI, hf]; rfl
    | false =>
      have hne := full_nil hf
      refine .inl ⟨(), by show appL o (Rs.of [r]) = []; rw [happ]; exact hne, ?_⟩
      rw [hne]; rfl

theorem TRo_ok (hE : Plain E) : ToldsOK Try.prog E ra base 1 TRo := sumT_ok noT_ok rfl (toldR_ok (c := .loop (codeOf 16 (false :: pO))) (by kernel_rfl) (ro_takes hE))

theorem rap_g (hE : Plain E) (x : Ap) (hx : okAp x = true) (hrc : rcB x.r = true) : Gives Try.prog E ra base x.blks.length 16 [x.V, x.r.v] (hp 0 x.blks) fun v h' =>
    (x.none = true → v = rapNone.out x ∧ h' = hp 0 (rapNone.blks' x)) ∧ (x.none = false → v = rapSome.out x ∧ h' = hp 0 (rapSome.blks' x)) := by
  have hS := SR_ok (ra := ra) (base := base) hE
  obtain ⟨h1, h2, h3⟩ := okAp_iff.1 hx
  obtain ⟨full, o, c, ⟨k, t, v, s, e, l⟩⟩ := x
  cases full with
  | true =>
    have hT := TRo_ok (ra := ra) (base := base) hE
    refine gives_of_treeQ hE (wE hE hS) hT (hp_below _) (rap_S E o c k t v s e l) ?_
    simp only at h1 h2
    have s2 := cap_self c
    have d1 := decide_eq_true h2
    have ha : allB ⟨[k], [t], [v], [s], [e], [l]⟩ = true := by
      show allB (Rs.of [⟨k, t, v, s, e, l⟩]) = true
      rw [allB, toL_of]; simp only [List.all_cons, List.all_nil, Bool.and_true]; exact hrc
    simp only [TreeQ.holds, decide_true, Bool.and_self, Bool.and_true, Bool.true_and, true_and, s2, h1, d1, ha]
    have happ : appL o (Rs.of [⟨k, t, v, s, e, l⟩]) = Ap.res ⟨true, o, c, ⟨k, t, v, s, e, l⟩⟩ := by rw [appL, toL_of]; rfl
    refine ⟨fun _ h => ⟨_, rfl, fun _ => ⟨rfl, rfl⟩, fun hn => ?_⟩, fun y h => ⟨_, rfl, fun hn => ?_, fun hn => ?_⟩⟩
    · have h : appL o (Rs.of [⟨k, t, v, s, e, l⟩]) = [] := h
      rw [happ] at h
      rw [Ap.none, h] at hn; cases hn
    · obtain ⟨g1, g2, g3⟩ := h
      have g2 : appL o (Rs.of [⟨k, t, v, s, e, l⟩]) ≠ [] := g2
      rw [happ] at g2
      rw [Ap.none] at hn
      exact absurd (List.isEmpty_iff.1 hn) g2
    · obtain ⟨y, cy⟩ := y
      obtain ⟨g1, g2, g3⟩ := h
      have g1 : y = Rs.of (appL o (Rs.of [⟨k, t, v, s, e, l⟩])) := g1
      have g3 : cy = rcapF o := g3
      rw [happ] at g1
      subst g1; subst g3
      refine ⟨?_, rfl⟩
      simp only [rapSome, ks_len]; rfl
  | false =>
    have h0 : o.kk.length = 0 := h3 rfl
    have hn : toO o = [] := List.length_eq_zero_iff.1 (by rw [toO_len, h0])
    have hr : Ap.res ⟨false, o, c, ⟨k, t, v, s, e, l⟩⟩ = [⟨k, t, v, s, e, l⟩] := by rw [Ap.res, hn]; rfl
    have hc : Ap.rcap ⟨false, o, c, ⟨k, t, v, s, e, l⟩⟩ = some 1 := by rw [Ap.rcap, rcapF, if_pos h0]
    refine gives_of_treeQ hE (wE hE hS) noT_ok (hp_below _) (rap_N E k t v s e l) ?_
    refine ⟨_, rfl, fun hh => ?_, fun _ => ⟨?_, ?_⟩⟩
    · rw [Ap.none, hr] at hh; cases hh
    · simp only [rapSome, hr, hc]; rfl
    · simp only [rapSome, hr]; rfl
end
end Go.Proofs.Ytbfebjmmpiffpaa
