/- front: FrontRises: the loop of acts; the whole. -/
import Derived.Test.YtnnbbjfbhigcfaaP23b
set_option linter.unusedSimpArgs false
namespace Go.Proofs.Ytnnbbjfbhigcfaa
open Ab

section
variable {T : Tb} {ra : Nat → Nat → Nat × Nat} {base : Nat}

def r1At (V : AVal) (n lo t i : Int) : List (Nat × AVal) := [(1, V), (5, .int .i64 n), (6, .ptr (.own 0 0 0 0)), (7, .int .i64 lo), (8, .int .i64 t), (9, .int .i64 i)]

theorem okM_tell {x : Fr} (h : okM x = true) (s : Sl) : okM (x.tell T s) = true := by
  obtain ⟨h1, h2, _, _⟩ := okM_facts h
  obtain ⟨_, _, _, t4, t5, _⟩ := tell_facts (T := T) h s
  exact okM_of h1 h2 t4 t5

theorem rises_step (hT : T.Ok) {V : AVal} (hV : okV T V = true) {x : Fr} (hx : okM x = true) {lo : Int} (hlo : lo ≤ minF x) {i : Nat} (hi : i ≤ 80) :
    Takes Try.prog (tabF T) ra base 0 (codeOf 3 (false :: p1)) (mkT 128 (r1At V x.n lo x.t i)) (hp 0 [x.blk]) fun y =>
      (i < 80 ∧ ∃ (x' : Fr) (lo' : Int), okM x' = true ∧ x'.n = x.n ∧ lo' ≤ minF x' ∧ y = (.normal, mkT 128 (r1At V x'.n lo' x'.t ((i + 1 : Nat) : Int)), hp 0 [x'.blk])) ∨ y = (.exit 0, mkT 128 [(5, .int .i64 x.n), (6, .ptr (.own 0 0 0 0))], hp 0 [x.blk]) := by
  have hE := tabF_plain T
  have hw : wr .i64 ((i : Int) + 1) = ((i + 1 : Nat) : Int) := by rw [wr_in ⟨by omega, by omega⟩]; omega
  rcases okV_cases hV with rfl | rfl
  · refine takes_of_treeQ hE wT TI_ok (f := 3) (.inr (by kernel_rfl)) (hp_below _) (rises_round0 T x lo i) ?_
    simp only [TreeQ.holds, decide_eq_true_eq, decide_eq_false_iff_not]
    exact ⟨by omega, .inr rfl⟩
  · refine takes_of_treeQ hE wT TI_ok (f := 3) (.inr (by kernel_rfl)) (hp_below _) (rises_round T T.w.length x lo i) ?_
    rw [toNat_nat]
    obtain ⟨I, hI⟩ : ∃ I, I = wr .i64 (T.i.getD i 0) := ⟨_, rfl⟩
    obtain ⟨A, hA⟩ : ∃ A, A = T.a.getD i 0 := ⟨_, rfl⟩
    rw [← hI, ← hA]
    obtain ⟨m1, m2⟩ := mark_ok hx I A
    obtain ⟨c', hc'⟩ : ∃ c', c' = putI x.c (markE x.l I A) I A := ⟨_, rfl⟩
    have hX : x.mark I A = ⟨c', x.n, x.t⟩ := by rw [Fr.mark, ← hc']
    rw [hX] at m1 m2
    rw [← hc']
    obtain ⟨M, hM⟩ : ∃ M, M = (if 9 < ((T.ns.getD i 0 : Nat) : Int) then (9 : Int) else ((T.ns.getD i 0 : Nat) : Int)) := ⟨_, rfl⟩
    have hMb : 0 ≤ M ∧ M ≤ ((T.ns.getD i 0 : Nat) : Int) ∧ M ≤ 9 := by rw [hM]; split <;> omega
    have okx := (okM_facts hx).1
    obtain ⟨o1, _, _, _⟩ := okM_facts m1
    obtain ⟨o2, o3, o4⟩ := okFr_facts o1
    simp only at o2 o3 o4
    obtain ⟨n1, n2, n3, _, _, _⟩ := tell_facts (T := T) m1 .nil
    obtain ⟨q1, q2, q3, _, _, _⟩ := tell_facts (T := T) m1 (.ro i M.toNat)
    have l1 := okM_tell (T := T) m1 .nil
    have l2 := okM_tell (T := T) m1 (.ro i M.toNat)
    have l3 := (okM_facts l1).1
    have l4 := (okM_facts l2).1
    have hms : ∀ s, minF ⟨c', x.n, x.t⟩ ≤ minF ((⟨c', x.n, x.t⟩ : Fr).tell T s) := fun s => Int.le_refl _
    simp only [Fr.tell] at l1 l2 l3 l4 hms
    have w1 : (!decide (tellB T ⟨c', x.n, x.t⟩ .nil = decide (x.t < tellV T ⟨c', x.n, x.t⟩ .nil))) = false := by
      rw [n1]; simp
    have w2 : (!decide (tellB T ⟨c', x.n, x.t⟩ (.ro i M.toNat) = decide (x.t < tellV T ⟨c', x.n, x.t⟩ (.ro i M.toNat)))) = false := by
      rw [q1]; simp
    have n2' : decide (tellV T ⟨c', x.n, x.t⟩ .nil < x.t) = false := decide_eq_false n2
    have q2' : decide (tellV T ⟨c', x.n, x.t⟩ (.ro i M.toNat) < x.t) = false := decide_eq_false q2
    have hmin : decide (minF ⟨c', x.n, x.t⟩ < lo) = false := decide_eq_false (by omega)
    refine ⟨fun k1 => ⟨fun k2 => ?_, fun _ => .inr rfl⟩, fun _ => .inr rfl⟩
    have k1 := of_decide_eq_true k1
    have k2 := of_decide_eq_true k2
    have hlt : i < T.w.length := by omega
    have hS : okS T (.ro i M.toNat) = true := by
      simp only [okS, Bool.and_eq_true, decide_eq_true_eq]
      rw [hT.h i hlt]; omega
    have hb1 : (decide (0 ≤ (i : Int)) && decide ((i : Int) < (T.w.length : Int))) = true := by rw [Bool.and_eq_true, decide_eq_true_eq, decide_eq_true_eq]; omega
    have hb2 : (decide (0 ≤ M) && decide (M ≤ ((T.ns.getD i 0 : Nat) : Int))) = true := by rw [Bool.and_eq_true, decide_eq_true_eq, decide_eq_true_eq]; omega
    have hM' : (if 9 < ((List.getD T.4 i 0 : Nat) : Int) then (9 : Int) else ((List.getD T.4 i 0 : Nat) : Int)) = M := hM.symm
    have hb2' : (decide (0 ≤ M) && decide (M ≤ ((List.getD T.4 i 0 : Nat) : Int))) = true := hb2
    have d0 : decide (i < T.w.length) = true := decide_eq_true hlt
    have e1 : decide (c'.length = 16) = true := decide_eq_true o2
    have e2 : decide (1 ≤ x.n) = true := decide_eq_true o3
    have e3 : decide (x.n ≤ 16) = true := decide_eq_true o4
    simp only [TreeQ.holds, hM', decide_true, Bool.and_self, Bool.and_true, Bool.true_and, true_and, hb1, hb2', d0, okx, e1, e2, e3, hmin, o1, hS, w1, w2, n2', q2', Bool.not_true, hw, Nat.zero_add, l3, l4, okS, false_implies, reduceCtorEq]
    have fin1 : ∀ s, okM (⟨c', x.n, tellV T ⟨c', x.n, x.t⟩ s⟩ : Fr) = true := fun s => okM_tell (T := T) m1 s
    have hS' : (decide (M.toNat ≤ (T.hs i).length) && decide (M.toNat ≤ 9)) = true := hS
    intro _
    refine ⟨fun b => ⟨b, fun _ _ => ⟨fun t => ⟨(n3 t).1, fun _ _ _ _ => .inl ⟨by omega, _, _, fin1 .nil, rfl, hms .nil, rfl⟩⟩, fun t => .inl ⟨by omega, _, _, fin1 .nil, rfl, hms .nil, rfl⟩⟩⟩,
      fun b => ⟨b, hS', fun _ _ => ⟨fun t => ⟨(q3 t).1, fun _ _ => ⟨by rw [hS', (q3 t).2]; rfl, fun _ _ => .inl ⟨by omega, _, _, fin1 (.ro i M.toNat), rfl, hms (.ro i M.toNat), rfl⟩⟩⟩, fun t => .inl ⟨by omega, _, _, fin1 (.ro i M.toNat), rfl, hms (.ro i M.toNat), rfl⟩⟩⟩⟩

theorem TO_ok (hT : T.Ok) : ToldsOK Try.prog (tabF T) ra base 0 (TO T) := by
  refine sumT_ok (sumT_ok noT_ok rfl (toldR_ok (c := .loop (codeOf 3 (false :: p4))) (by kernel_rfl) fun x hx => last_takes x hx)) rfl (toldR_ok (c := .loop (codeOf 3 (false :: p1))) (by kernel_rfl) fun y hy => ?_)
  obtain ⟨V, x, lo⟩ := y
  simp only [r1D, Bool.and_eq_true, decide_eq_true_eq] at hy
  refine takes_loop (fun j ts h => ∃ (i : Nat) (x' : Fr) (lo' : Int), i ≤ 80 ∧ j = 80 - i + 1 ∧ okM x' = true ∧ x'.n = x.n ∧ lo' ≤ minF x' ∧ ts = mkT 128 (r1At V x'.n lo' x'.t i) ∧ h = hp 0 [x'.blk]) (fun ts h => by rintro ⟨i, x', lo', _, h, _⟩; omega) (fun j ts h' => ?_) (j := 81) ⟨0, x, lo, by omega, rfl, hy.2.1, rfl, hy.2.2, rfl, rfl⟩
  rintro ⟨i, x', lo', g1, g2, g3, g4, g5, rfl, rfl⟩
  refine (rises_step hT hy.1 g3 g5 g1).mono ?_
  rintro z (⟨k1, x'', lo'', k2, k3, k4, rfl⟩ | rfl)
  · exact ⟨i + 1, x'', lo'', by omega, by omega, k2, by omega, k4, rfl, rfl⟩
  · exact ⟨x', ⟨g3, g4⟩, by rw [g4]⟩

theorem new_ok {n : Int} (h : newOk n = true) : okM ⟨[0, 0, 0, 0, 0, 0, 0, 0, 0, 0, 0, 0, 0, 0, 0, 0], n, 0⟩ = true := by
  obtain ⟨h1, h2⟩ := newOk_iff.1 h
  refine okM_of ?_ (fun v hv => ?_) (Int.le_refl _) (show (0 : Int) ≤ 1152921504606846976 by decide)
  · simp only [okFr, Bool.and_eq_true, decide_eq_true_eq]; exact ⟨rfl, h1, h2⟩
  · have : v = 0 := by
      simp only [List.mem_cons, List.not_mem_nil, or_false] at hv; omega
    subst this; exact ⟨by decide, by decide⟩

theorem end_told {x : Fr} (h : okM x = true) (hi : allIs x = true) : tellV T x .nil = 1152921504606846976 := by
  obtain ⟨h1, h2, h3, h4⟩ := okM_facts h
  have e : tellA T x .nil = minF x := rfl
  have a1 : 1152921504606846976 ≤ minF x := le_minF h1 fun y hy => by
    have := of_decide_eq_true (List.all_eq_true.1 hi y hy); omega
  have a2 := (minF_in h).2
  rw [tellV, e]
  split <;> omega

theorem rises_gives (hT : T.Ok) {V : AVal} (hV : okV T V = true) {b : Int} (hb : 0 ≤ b ∧ b < 256) :
    Gives Try.prog (tabF T) ra base 0 3 [.int .u8 b, V] (hp 0 []) fun v _ => v = .bool true := by
  have hE := tabF_plain T
  have hbm : wr .i64 (Int.tmod b 16) = b % 16 := by rw [Int.tmod_eq_emod_of_nonneg hb.1, wr_in ⟨by omega, by omega⟩]
  have hn : newOk (wr .i64 (1 + wr .i64 (Int.tmod b 16))) = true := by
    rw [hbm, wr_in ⟨by omega, by omega⟩]; exact newOk_iff.2 ⟨by omega, by omega⟩
  have n1 := new_ok hn
  have n2 := (minF_in n1).1
  rcases okV_cases hV with rfl | rfl
  · refine gives_of_treeQ hE wT (TO_ok hT) (hp_below _) (rises_call0 T b) ?_
    generalize wr .i64 (1 + wr .i64 (Int.tmod b 16)) = N at *
    have n2' : decide (0 ≤ minF ⟨[0, 0, 0, 0, 0, 0, 0, 0, 0, 0, 0, 0, 0, 0, 0, 0], N, 0⟩) = true := decide_eq_true n2
    simp only [TreeQ.holds, decide_true, Bool.and_self, Bool.and_true, Bool.true_and, true_and, hn, hV, n1, n2', Bool.not_true, reduceCtorEq, false_implies, and_true, true_implies, forall_const]
    rintro y1 ⟨a1, a2⟩
    refine ⟨by simp [a2], a1, ?_⟩
    rintro y2 ⟨b1, b2, b3, b4⟩
    obtain ⟨c1, _, _, _⟩ := okM_facts b1
    obtain ⟨d1, d2, d3⟩ := okFr_facts c1
    simp only [c1, d1, d2, d3, end_told b1 b2, decide_true, Bool.and_self, true_and]
    exact ⟨_, rfl, rfl⟩
  · refine gives_of_treeQ hE wT (TO_ok hT) (hp_below _) (rises_call T T.w.length b) ?_
    generalize wr .i64 (1 + wr .i64 (Int.tmod b 16)) = N at *
    have n2' : decide (0 ≤ minF ⟨[0, 0, 0, 0, 0, 0, 0, 0, 0, 0, 0, 0, 0, 0, 0, 0], N, 0⟩) = true := decide_eq_true n2
    simp only [TreeQ.holds, decide_true, Bool.and_self, Bool.and_true, Bool.true_and, true_and, hn, hV, n1, n2', Bool.not_true, reduceCtorEq, false_implies, and_true, true_implies, forall_const]
    rintro y1 ⟨a1, a2⟩
    refine ⟨by simp [a2], a1, ?_⟩
    rintro y2 ⟨b1, b2, b3, b4⟩
    obtain ⟨c1, _, _, _⟩ := okM_facts b1
    obtain ⟨d1, d2, d3⟩ := okFr_facts c1
    simp only [c1, d1, d2, d3, end_told b1 b2, decide_true, Bool.and_self, true_and]
    exact ⟨_, rfl, rfl⟩
end

end Go.Proofs.Ytnnbbjfbhigcfaa
