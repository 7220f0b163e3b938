/- oper: Apply as a whole. -/
import Derived.Test.YtbfebjmmpiffpaaP04g
import Derived.Test.YtbfebjmmpiffpaaD04s
set_option linter.unusedSimpArgs false
set_option linter.unusedVariables false
namespace Go.Proofs.Ytbfebjmmpiffpaa
open Ab

section
variable {E : Nat → Nat → Seg} {ra : Nat → Nat → Nat × Nat} {base : Nat}

/-- what stands in the outer loop -/
def loI (o : Os) (fc : Option Nat) (c : Option Nat) (l : List Rc) (i : Nat) : In := ⟨⟨0, 0, 0, 0⟩, ⟨o, fc, (o.kk.length : Nat), (i : Nat)⟩, fullB l, Rs.of l, c⟩

theorem okL_of {l : List Rc} (h : l.length ≤ 1000000) : okL (fullB l) (Rs.of l) = true := by
  refine okL_iff.2 ⟨lens_of l, by rw [ks_len]; exact h, ?_⟩
  rw [ks_len]
  cases l with
  | nil => exact .inr ⟨rfl, rfl⟩
  | cons => exact .inl ⟨rfl, Nat.succ_pos _⟩

theorem made_of (x : Op4) (l : List Rc) : made x (Rs.of l) = l.flatMap (makes x) := by rw [made, toL_of]

theorem lo_step (hE : Plain E) {o : Os} (ho : o.kk.length ≤ 12) (fc c : Option Nat) {l : List Rc} (hl : l.length ≤ 1000000) {i : Nat} {x : Op4} (hx : (toO o)[i]? = some x) :
    Takes Try.prog E ra base 1 (codeOf 15 (false :: pO)) (mkT 63 (In.ots (loI o fc c l i))) (hp 0 (In.oB (loI o fc c l i))) fun y =>
      ∃ c', (doesB x = false → c' = c) ∧ (doesB x = true → c' = none) ∧ y = (.normal, mkT 63 (In.ots (loI o fc c' (step x l) (i + 1))), hp 0 (In.oB (loI o fc c' (step x l) (i + 1)))) := by
  have hS := S1_ok (ra := ra) (base := base) hE
  have hT := TB_ok (ra := ra) (base := base) hE
  have hi : i < o.kk.length := by rw [← toO_len]; exact (List.getElem?_eq_some_iff.1 hx).1
  have hx' := hx
  rw [toO_at hi] at hx'
  have c1 : decide ((i : Int) < (o.kk.length : Int)) = true := decide_eq_true (by omega)
  have c2 : decide (0 ≤ (i : Int)) = true := decide_eq_true (by omega)
  have c3 : decide (0 + Int.toNat (i : Int) < o.kk.length) = true := decide_eq_true (by omega)
  have e : 0 + Int.toNat (i : Int) = i := by omega
  have hop : (⟨List.getD o.kk i 0, List.getD o.aa i 0, List.getD o.bb i 0, List.getD o.gg i 0⟩ : Op4) = x := Option.some.inj hx'
  have s1 := cap_self fc
  have s2 := cap_self c
  have hok := okL_of hl
  have ht : wr .i64 ((i : Int) + 1) = ((i + 1 : Nat) : Int) := till (by omega)
  have hskip : doesB x = false → step x l = l := fun h => by rw [step, if_neg (by rw [h]; decide)]
  have hdoes : doesB x = true → step x l = made x (Rs.of l) := fun h => by rw [step, if_pos h, made_of]
  have eR : ∀ L : Rs, (⟨L.ks, L.ts, L.vs, L.ss, L.es, L.ls⟩ : Rs) = L := fun L => rfl
  cases hf : fullB l with
  | true =>
    rw [hf] at hok
    have hI : loI o fc c l i = ⟨⟨0, 0, 0, 0⟩, ⟨o, fc, (o.kk.length : Nat), (i : Nat)⟩, true, Rs.of l, c⟩ := by rw [loI, hf]
    rw [hI]
    refine takes_of_treeQ hE (wE hE hS) hT (.inr (by kernel_rfl)) (hp_below _) (lo_S E ⟨o, fc, (o.kk.length : Nat), (i : Nat)⟩ c (Rs.of l)) ?_
    simp only [e, hop, ht]
    rw [e] at c3
    simp only [TreeQ.holds, decide_true, Bool.and_self, Bool.and_true, Bool.true_and, true_and, c1, c2, c3, s1, s2, hok, hop, ht, Bool.not_false, Bool.not_true, Bool.false_eq_true, Bool.true_eq_false, false_implies, forall_const, and_true]
    refine ⟨fun h => ⟨c, fun _ => rfl, fun h' => (by rw [h] at h'; cases h'), ?_⟩, fun h => ⟨none, fun h' => (by rw [h.1] at h'; cases h'), fun _ => rfl, ?_⟩, fun y h => ⟨none, fun h' => (by rw [h.1] at h'; cases h'), fun _ => rfl, ?_⟩⟩
    · rw [hskip h, loI, hf]; rfl
    · rw [hdoes h.1, show made x (Rs.of l) = [] from h.2]; rfl
    · obtain ⟨h1, rfl, h3⟩ := h
      have h4 : fullB (made x (Rs.of l)) = true := by
        cases hh : fullB (made x (Rs.of l)) with
        | true => rfl
        | false => exact absurd (full_nil hh) h3
      rw [hdoes h1, loI, h4]; rfl
  | false =>
    obtain rfl := full_nil hf
    have hok : okL false Rs.none = true := hok
    have hI : loI o fc c [] i = ⟨⟨0, 0, 0, 0⟩, ⟨o, fc, (o.kk.length : Nat), (i : Nat)⟩, false, Rs.none, c⟩ := rfl
    refine takes_of_treeQ hE (wE hE hS) hT (.inr (by kernel_rfl)) (hp_below _) (lo_N E ⟨o, fc, (o.kk.length : Nat), (i : Nat)⟩) ?_
    simp only [e, hop, ht]
    rw [e] at c3
    simp only [TreeQ.holds, decide_true, Bool.and_self, Bool.and_true, Bool.true_and, true_and, c1, c2, c3, s1, s2, hok, hop, ht, Bool.not_false, Bool.not_true, Bool.false_eq_true, Bool.true_eq_false, false_implies, forall_const, and_true]
    have hn : made x Rs.none = [] := rfl
    refine ⟨fun h => ⟨c, fun _ => rfl, fun h' => (by rw [h] at h'; cases h'), ?_⟩, fun h => ⟨none, fun h' => (by rw [h.1] at h'; cases h'), fun _ => rfl, ?_⟩, fun y h => absurd hn h.2.2⟩
    · rw [hskip h]; rfl
    · rw [hdoes h.1]; rfl

theorem lo_end (hE : Plain E) (o : Os) (fc c : Option Nat) (l : List Rc) : Takes Try.prog E ra base 1 (codeOf 15 (false :: pO)) (mkT 63 (In.ots (loI o fc c l o.kk.length))) (hp 0 (In.oB (loI o fc c l o.kk.length))) fun y =>
    y = (.exit 0, mkT 63 [(5, (loI o fc c l o.kk.length).lV)], hp 0 (In.oB (loI o fc c l o.kk.length))) := by
  have hS := S1_ok (ra := ra) (base := base) hE
  have hT := TB_ok (ra := ra) (base := base) hE
  have c1 : decide ((o.kk.length : Int) < (o.kk.length : Int)) = false := decide_eq_false (by omega)
  cases hf : fullB l with
  | true =>
    have hI : loI o fc c l o.kk.length = ⟨⟨0, 0, 0, 0⟩, ⟨o, fc, (o.kk.length : Nat), (o.kk.length : Nat)⟩, true, Rs.of l, c⟩ := by rw [loI, hf]
    rw [hI]
    refine takes_of_treeQ hE (wE hE hS) hT (.inr (by kernel_rfl)) (hp_below _) (lo_S E ⟨o, fc, (o.kk.length : Nat), (o.kk.length : Nat)⟩ c (Rs.of l)) ?_
    simp only [TreeQ.holds, c1, Bool.false_eq_true, false_implies, true_and, forall_const]
    rfl
  | false =>
    obtain rfl := full_nil hf
    refine takes_of_treeQ hE (wE hE hS) hT (.inr (by kernel_rfl)) (hp_below _) (lo_N E ⟨o, fc, (o.kk.length : Nat), (o.kk.length : Nat)⟩) ?_
    simp only [TreeQ.holds, c1, Bool.false_eq_true, false_implies, true_and, forall_const]
    rfl

/-- which capacity the list has -/
def capN (ops : List Op4) : Option Nat := if ops.any doesB = true then none else some 1
theorem capN_succ {ops : List Op4} {i : Nat} {x : Op4} (h : ops[i]? = some x) : (doesB x = false → capN (ops.take (i + 1)) = capN (ops.take i)) ∧ (doesB x = true → capN (ops.take (i + 1)) = none) := by
  have e : (ops.take (i + 1)).any doesB = ((ops.take i).any doesB || doesB x) := by rw [List.take_add_one, h]; simp
  refine ⟨fun hx => ?_, fun hx => ?_⟩
  · rw [capN, e, hx, Bool.or_false]; rfl
  · rw [capN, e, hx, Bool.or_true]; rfl

theorem lo_takes (hE : Plain E) (x : Lo) (hx : loD.pre x = true) : Takes Try.prog E ra base 1 (.loop (codeOf 15 (false :: pO))) (mkT 63 (loD.ins x)) (hp 0 (loD.blks x)) fun w => PostL 63 x w loD.alts := by
  obtain ⟨R, ⟨o, fc, n, i⟩⟩ := x
  simp only [loD, Bool.and_eq_true, decide_eq_true_eq] at hx
  obtain ⟨h1, h2, h3, h4, rfl, rfl⟩ := hx
  have e := of_toL h2
  have hl := toL_len R
  generalize hl' : toL R = l0 at *
  subst e
  rw [h1] at hl
  obtain ⟨r, rfl⟩ : ∃ r, l0 = [r] := List.length_eq_one_iff.1 hl
  have happ : appL o (Rs.of [r]) = (toO o).foldl (fun l x => step x l) [r] := by rw [appL, toL_of]
  have hlen := toO_len o
  refine takes_loop (fun j ts h => ∃ i : Nat, i ≤ o.kk.length ∧ j = o.kk.length - i + 1 ∧ ts = mkT 63 (In.ots (loI o fc (capN ((toO o).take i)) (((toO o).take i).foldl (fun l x => step x l) [r]) i)) ∧ h = hp 0 (In.oB (loI o fc (capN ((toO o).take i)) (((toO o).take i).foldl (fun l x => step x l) [r]) i))) (fun ts h => by rintro ⟨_, _, h, _⟩; omega) (fun j ts h' => ?_) (j := o.kk.length + 1) ⟨0, Nat.zero_le _, rfl, rfl, rfl⟩
  rintro ⟨i, k1, k2, rfl, rfl⟩
  have hroom : (((toO o).take i).foldl (fun l x => step x l) [r]).length ≤ 1000000 := fold_room (by rw [List.length_take]; omega)
  rcases Nat.lt_or_ge i o.kk.length with hi | hi
  · obtain ⟨x, hxi⟩ : ∃ x, (toO o)[i]? = some x := ⟨_, toO_at hi⟩
    obtain ⟨q1, q2⟩ := capN_succ hxi
    refine (lo_step hE h4 fc _ hroom hxi).mono ?_
    rintro w ⟨c', g1, g2, rfl⟩
    have ec : c' = capN ((toO o).take (i + 1)) := by
      cases hd : doesB x with
      | true => rw [g2 hd, q2 hd]
      | false => rw [g1 hd, q1 hd]
    refine ⟨i + 1, by omega, by omega, ?_, ?_⟩
    · rw [step_take hxi, ec]
    · rw [step_take hxi, ec]
  · have : i = o.kk.length := by omega
    subst this
    have et : (toO o).take o.kk.length = toO o := List.take_of_length_le (by omega)
    rw [et]
    refine (lo_end hE o fc _ _).mono ?_
    rintro w rfl
    cases hf : fullB ((toO o).foldl (fun l x => step x l) [r]) with
    | true =>
      have hne : (toO o).foldl (fun l x => step x l) [r] ≠ [] := fun h => by rw [h] at hf; cases hf
      refine .inr ⟨⟨Rs.of ((toO o).foldl (fun l x => step x l) [r]), capN (toO o)⟩, ⟨by rw [happ], by rw [happ]; exact hne, rfl⟩, ?_⟩
      simp only [loI, hf]; rfl
    | false =>
      have hne := full_nil hf
      refine .inl ⟨(), by show appL o (Rs.of [r]) = []; rw [happ]; exact hne, ?_⟩
      rw [hne]; rfl

theorem TO_ok (hE : Plain E) : ToldsOK Try.prog E ra base 1 TO := sumT_ok noT_ok rfl (toldR_ok (c := .loop (codeOf 15 (false :: pO))) (by kernel_rfl) (lo_takes hE))

theorem okAp_iff {x : Ap} : okAp x = true ↔ lensO x.o = true ∧ x.o.kk.length ≤ 12 ∧ (x.full = false → x.o.kk.length = 0) := by
  obtain ⟨full, o, c, r⟩ := x
  cases full <;> simp [okAp]

theorem ap_g (hE : Plain E) (x : Ap) (hx : okAp x = true) : Gives Try.prog E ra base x.blks.length 15 [x.V, x.r.v] (hp 0 x.blks) fun v h' =>
    (x.none = true → v = apNone.out x ∧ h' = hp 0 (apNone.blks' x)) ∧ (x.none = false → v = apSome.out x ∧ h' = hp 0 (apSome.blks' x)) := by
  have hS := S1_ok (ra := ra) (base := base) hE
  obtain ⟨h1, h2, h3⟩ := okAp_iff.1 hx
  obtain ⟨full, o, c, ⟨k, t, v, s, e, l⟩⟩ := x
  cases full with
  | true =>
    have hT := TO_ok (ra := ra) (base := base) hE
    refine gives_of_treeQ hE (wE hE hS) hT (hp_below _) (ap_S E o c k t v s e l) ?_
    simp only at h1 h2
    have s2 := cap_self c
    have d1 := decide_eq_true h2
    simp only [TreeQ.holds, decide_true, Bool.and_self, Bool.and_true, Bool.true_and, true_and, s2, h1, d1]
    have happ : appL o (Rs.of [⟨k, t, v, s, e, l⟩]) = Ap.res ⟨true, o, c, ⟨k, t, v, s, e, l⟩⟩ := by rw [appL, toL_of]; rfl
    refine ⟨fun _ h => ⟨_, rfl, fun _ => ⟨rfl, rfl⟩, fun hn => ?_⟩, fun y h => ⟨_, rfl, fun hn => ?_, fun hn => ?_⟩⟩
    · have h : appL o (Rs.of [⟨k, t, v, s, e, l⟩]) = [] := h
      rw [happ] at h
      rw [Ap.none, h] at hn; cases hn
    · obtain ⟨g1, g2, g3⟩ := h
      have g2 : appL o (Rs.of [⟨k, t, v, s, e, l⟩]) ≠ [] := g2
      rw [happ] at g2
      rw [Ap.none] at hn
      exact absurd (List.isEmpty_iff.1 hn) g2
    · obtain ⟨y, cy⟩ := y
      obtain ⟨g1, g2, g3⟩ := h
      have g1 : y = Rs.of (appL o (Rs.of [⟨k, t, v, s, e, l⟩])) := g1
      have g3 : cy = capF o := g3
      rw [happ] at g1
      subst g1; subst g3
      refine ⟨?_, rfl⟩
      simp only [apSome, ks_len]; rfl
  | false =>
    have h0 : o.kk.length = 0 := h3 rfl
    have hn : toO o = [] := List.length_eq_zero_iff.1 (by rw [toO_len, h0])
    have hr : Ap.res ⟨false, o, c, ⟨k, t, v, s, e, l⟩⟩ = [⟨k, t, v, s, e, l⟩] := by rw [Ap.res, hn]; rfl
    have hc : Ap.cap ⟨false, o, c, ⟨k, t, v, s, e, l⟩⟩ = some 1 := by rw [Ap.cap, capF, hn]; rfl
    cases c with
    | none =>
      refine gives_of_treeQ hE (wE hE hS) noT_ok (hp_below _) (ap_N E k t v s e l) ?_
      refine ⟨_, rfl, fun hh => ?_, fun _ => ⟨?_, ?_⟩⟩
      · rw [Ap.none, hr] at hh; cases hh
      · simp only [apSome, hr, hc]; rfl
      · simp only [apSome, hr]; rfl
    | some n =>
      refine gives_of_treeQ hE (wE hE hS) noT_ok (hp_below _) (ap_Z E k t v s e l) ?_
      refine ⟨_, rfl, fun hh => ?_, fun _ => ⟨?_, ?_⟩⟩
      · rw [Ap.none, hr] at hh; cases hh
      · simp only [apSome, hr, hc]; rfl
      · simp only [apSome, hr]; rfl
end

theorem S3_ok {E : Nat → Nat → Seg} {ra : Nat → Nat → Nat × Nat} {base : Nat} (hE : Plain E) : SumsOK Try.prog E ra base S3 := by
  refine sumNG_deal hE (S2_ok hE) ⟨_, Try.func15, by kernel_rfl⟩ ?_ ?_
  · intro q hq
    simp only [List.mem_cons, List.not_mem_nil, or_false] at hq
    subst hq
    intro x hx
    simp only [apNone, Bool.and_eq_true] at hx
    refine Gives.mono (fun v h' hv => ?_) (ap_g hE x hx.1)
    exact hv.1 hx.2
  · intro x hx
    simp only [apSome, Bool.and_eq_true, Bool.not_eq_true'] at hx
    refine Gives.mono (fun v h' hv => ?_) (ap_g hE x hx.1)
    exact hv.2 hx.2

end Go.Proofs.Ytbfebjmmpiffpaa
