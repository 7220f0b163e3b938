/- frame: FrameBack: the loops. -/
import Derived.Test.YtbpcljkapkjheaaB02
import Derived.Test.YtbpcljkapkjheaaT02b
set_option linter.unusedSimpArgs false
set_option linter.unusedVariables false
namespace Go.Proofs.Ytbpcljkapkjheaa
open Ab

def Mi (L : List ByteArray) (i : Nat) : List ByteArray := (L.take i).map cut5
theorem Mi_snoc {L : List ByteArray} {i : Nat} (h : i < L.length) : Mi L (i + 1) = Mi L i ++ [cut5 (L.getD i noTx)] := by
  rw [Mi, take_snoc h, List.map_append]; rfl
theorem plc_snoc : ∀ (M : List ByteArray) (b : Int) (t : ByteArray), plc b (M ++ [t]) = plc b M ++ [b + (((catB M).length + (t.size + 5) : Nat) : Int)]
  | [], b, t => by simp only [List.nil_append, plc, catB, List.length_nil, List.cons.injEq, and_true]; omega
  | u :: M, b, t => by
    rw [List.cons_append, plc, plc_snoc M, plc, catB, List.length_append, bs_len, frame_size]
    simp only [List.cons_append, List.cons.injEq, true_and, List.append_cancel_left_eq, and_true]
    omega
theorem plc_0 (M : List ByteArray) (t : ByteArray) : plc 0 (M ++ [t]) = plc 0 M ++ [(((catT M ++ frameT t).size : Nat) : Int)] := by
  rw [plc_snoc, ByteArray.size_append, catT_size, frame_size]
  simp only [List.append_cancel_left_eq, List.cons.injEq, and_true]; omega
theorem plc_len : ∀ (M : List ByteArray) (b : Int), (plc b M).length = M.length
  | [], _ => rfl
  | t :: M, b => by rw [plc, List.length_cons, List.length_cons, plc_len M]
theorem Mi_cat (L : List ByteArray) (i : Nat) : catT (Mi L i) = rowF (L.take i) := by rw [catT, Mi, List.foldl_map]; rfl
theorem Mi_len {L : List ByteArray} {i : Nat} (h : i ≤ L.length) : (Mi L i).length = i := by rw [Mi, List.length_map, List.length_take]; omega
theorem Mi_size (L : List ByteArray) (i : Nat) : (catT (Mi L i)).size ≤ i * 505 := by
  have := row_size (L.take i)
  rw [List.length_take] at this
  rw [Mi_cat]; exact Nat.le_trans this (Nat.mul_le_mul_right _ (Nat.min_le_left _ _))
theorem Mi_end {L : List ByteArray} {i : Nat} (h1 : i ≤ 20) (h2 : i ≤ L.length) (h : ¬ (i < L.length ∧ i < 20)) : Mi L i = ownL L := by
  rw [Mi, ownL]
  by_cases hi : i < L.length
  · obtain rfl : i = 20 := by omega
    rfl
  · rw [List.take_of_length_le (by omega), List.take_of_length_le (by omega)]

theorem wr_succ {i : Nat} (h : i ≤ 2000) : wr .i64 ((i : Int) + 1) = ((i + 1 : Nat) : Int) := by rw [wr_in ⟨by omega, by omega⟩]; rfl
def roV (L : List ByteArray) : AVal := .slice (.ro 0 0 0 0) L.length none
def At1 (L : List ByteArray) (q : Int) (s : ByteArray) (j : Nat) (ts : Tmps) (h : Log) : Prop := ∃ i : Nat, i ≤ 20 ∧ i ≤ L.length ∧ j = 20 - i + 1 ∧
  ((i = 0 ∧ ts = mkT 193 (B1.at ⟨roV L, q, s, noTx⟩ .nils .nils 0) ∧ h = hp 0 []) ∨
   (0 < i ∧ ts = mkT 193 (B1.at ⟨roV L, q, s, catT (Mi L i)⟩ (liV (Mi L i) 0) (plV (plc 0 (Mi L i)) 1) (i : Nat)) ∧ h = hp 0 [txB (Mi L i), plB (plc 0 (Mi L i))]))
theorem at_1 {L : List ByteArray} {q : Int} {s : ByteArray} {i j : Nat} (h1 : i ≤ 20) (h2 : i ≤ L.length) (h3 : j = 20 - i + 1) (h4 : 0 < i) {M : List ByteArray} {p : List Int} {r : ByteArray} (hM : M = Mi L i) (hp' : p = plc 0 (Mi L i)) (hr : r = catT (Mi L i)) :
    At1 L q s j (mkT 193 (B1.at ⟨roV L, q, s, r⟩ (liV M 0) (plV p 1) (i : Nat))) (hp 0 [txB M, plB p]) := by
  subst hM; subst hp'; subst hr
  exact ⟨i, h1, h2, h3, .inr ⟨h4, rfl, rfl⟩⟩
theorem post_g {L : List ByteArray} {x : B1} {i : Nat} (hM : Mi L i = ownL L) (hl : 0 < (Mi L i).length) :
    PostL 193 x (.exit 0, mkT 193 [(1, .int .u16 x.q), (2, .str x.s), (7, .str (catT (Mi L i))), (8, liV (Mi L i) 0), (9, plV (plc 0 (Mi L i)) 1)], hp 0 [txB (Mi L i), plB (plc 0 (Mi L i))]) (b1D L).alts := by
  refine .inr ⟨bkOf (ownL L), ⟨rfl, by rw [← hM]; exact hl⟩, ?_⟩
  rw [hM]; rfl
theorem post_n {L : List ByteArray} {x : B1} (hM : ownL L = []) :
    PostL 193 x (.exit 0, mkT 193 [(1, .int .u16 x.q), (2, .str x.s), (7, .str noTx), (8, .nils), (9, .nils)], hp 0 []) (b1D L).alts := by
  refine .inl ⟨bkOf (ownL L), ⟨rfl, hM⟩, ?_⟩
  rw [hM]; rfl
theorem nums_u {u : Int} {t : ByteArray} (hu : u = if 500 < (t.size : Int) then 500 else (t.size : Int)) : 0 ≤ u ∧ u ≤ (t.size : Int) := by
  subst hu; split <;> omega
theorem frame_short (t : ByteArray) : (if longB (cut5 t) = true then noTx else frameT (cut5 t)) = frameT (cut5 t) := if_neg (by rw [short_cut]; decide)
theorem err_short (t : ByteArray) : (if longB (cut5 t) = true then (4 : Int) else 0) = 0 := if_neg (by rw [short_cut]; decide)
theorem int_snoc (pl : List Int) (v : Int) : List.take pl.length (List.drop 0 pl) ++ List.take 1 (List.drop 0 [v]) = pl ++ [v] := by simp
theorem size_cut {r t : ByteArray} (h : r.size ≤ 20000) : (r ++ frameT (cut5 t)).size ≤ 9223372036854775807 := by
  have := cut5_le t
  rw [ByteArray.size_append, frame_size]; omega

section
variable {ra : Nat → Nat → Nat × Nat} {base : Nat}

theorem b1_takes (L : List ByteArray) (x : B1) (hx : (b1D L).pre x = true) : Takes Try.prog (tabS L) ra base 0 (.loop (codeOf 5 (false :: pB1))) (mkT 193 ((b1D L).ins x)) (hp 0 ((b1D L).blks x)) fun y => PostL 193 x y (b1D L).alts := by
  have hE := tabS_plain L
  have hS := S5_ok (ra := ra) (base := base) hE
  obtain ⟨V, q, s, r⟩ := x
  simp only [b1D, Bool.and_eq_true, decide_eq_true_eq] at hx
  obtain ⟨h1, h2⟩ := hx
  obtain rfl : r = noTx := by
    have : r.data = #[] := Array.eq_empty_of_size_eq_zero h2
    cases r; simp only at this; subst this; rfl
  rcases okS_cases h1 with ⟨rfl, rfl⟩ | rfl
  · refine takes_loop (fun j ts h => j = 1 ∧ ts = mkT 193 (B1.at ⟨.nils, q, s, noTx⟩ .nils .nils 0) ∧ h = hp 0 []) (fun ts h => by rintro ⟨h, _⟩; omega) (fun j ts h' => ?_) (j := 1) ⟨rfl, rfl, rfl⟩
    rintro ⟨_, rfl, rfl⟩
    refine takes_of_tree hE (W_ok hS noL_ok) (f := 5) (.inr (by kernel_rfl)) (hp_below _) (b1_0 [] q s noTx) ?_
    exact post_n (L := []) (x := ⟨.nils, q, s, noTx⟩) rfl
  · refine takes_loop (At1 L q s) (fun ts h => by rintro ⟨i, _, _, h, _⟩; omega) (fun j ts h' => ?_) (j := 21) ⟨0, by omega, Nat.zero_le _, rfl, .inl ⟨rfl, rfl, rfl⟩⟩
    rintro ⟨i, k1, k2, k3, ⟨rfl, rfl, rfl⟩ | ⟨k4, rfl, rfl⟩⟩
    · refine takes_of_tree hE (W_ok hS noL_ok) (f := 5) (.inr (by kernel_rfl)) (hp_below _) (b1_n L L.length q s noTx) ?_
      simp only [Tree.holds]
      refine ⟨fun hl => ?_, fun hl => ?_⟩
      · have g1 := of_decide_eq_true hl
        have hi : 0 < L.length := by omega
        have hM : Mi L (0 + 1) = [cut5 (L.getD 0 noTx)] := by rw [Mi_snoc hi]; rfl
        have hp' := plc_0 [] (cut5 (L.getD 0 noTx))
        have hr := catT_snoc [] (cut5 (L.getD 0 noTx))
        obtain ⟨t, ht⟩ : ∃ t, L.getD 0 noTx = t := ⟨_, rfl⟩
        rw [ht] at hM hp' hr
        rw [ht, frame_short, err_short]
        have hc := cut5_le t
        have c1 : decide (0 < L.length) = true := decide_eq_true hi
        have c5 : decide (0 ≤ if 500 < (t.size : Int) then 500 else (t.size : Int)) = true := decide_eq_true (nums_u rfl).1
        have c6 : decide ((if 500 < (t.size : Int) then 500 else (t.size : Int)) ≤ (t.size : Int)) = true := decide_eq_true (nums_u rfl).2
        have c7 : smallT (cut5 t) = true := decide_eq_true (by omega)
        have c8 : decide (noTx.size + (frameT (cut5 t)).size ≤ 9223372036854775807) = true := decide_eq_true (by rw [frame_size]; have : noTx.size = 0 := rfl; omega)
        simp only [hl, c1, c5, c6, c7, c8, decide_true, Bool.and_self, Bool.and_true, true_and, Bool.not_true, Bool.false_eq_true, false_implies, forall_const]
        exact at_1 (i := 1) (M := [cut5 t]) (p := [(((noTx ++ frameT (cut5 t)).size : Nat) : Int)]) (r := noTx ++ frameT (cut5 t)) (by omega) hi (by omega) (by omega) hM.symm (by rw [hM]; exact hp'.symm) (by rw [hM]; exact hr.symm)
      · have g1 := of_decide_eq_false hl
        obtain rfl : L = [] := List.length_eq_zero_iff.1 (by omega)
        exact post_n (L := []) (x := ⟨roV [], q, s, noTx⟩) rfl
    · refine takes_of_tree hE (W_ok hS noL_ok) (f := 5) (.inr (by kernel_rfl)) (hp_below _) (b1_g L L.length q i s (catT (Mi L i)) (Mi L i) (plc 0 (Mi L i))) ?_
      have hlen : (Mi L i).length = i := Mi_len k2
      have hi2 : i ≤ 2000 := by omega
      have hpl : (plc 0 (Mi L i)).length = i := by rw [plc_len, hlen]
      have hsz : (catT (Mi L i)).size ≤ 20000 := by have := Mi_size L i; omega
      have fin : ¬ (i < L.length ∧ i < 20) → PostL 193 (⟨roV L, q, s, noTx⟩ : B1) (.exit 0, mkT 193 [(1, .int .u16 q), (2, .str s), (7, .str (catT (Mi L i))), (8, liV (Mi L i) 0), (9, plV (plc 0 (Mi L i)) 1)], hp 0 [txB (Mi L i), plB (plc 0 (Mi L i))]) (b1D L).alts :=
        fun hn => post_g (x := ⟨roV L, q, s, noTx⟩) (Mi_end k1 k2 hn) (by omega)
      simp only [Tree.holds]
      refine ⟨fun hl => ⟨fun hl2 => ?_, fun hl2 => fin (by have := of_decide_eq_false hl2; omega)⟩, fun hl => fin (by have := of_decide_eq_false hl; omega)⟩
      have g1 := of_decide_eq_true hl
      have g2 := of_decide_eq_true hl2
      have hi : i < L.length := by omega
      have e4 : 0 + Int.toNat (i : Int) = i := by omega
      rw [e4]
      have hM := Mi_snoc hi
      have hp' := plc_0 (Mi L i) (cut5 (L.getD i noTx))
      have hr := catT_snoc (Mi L i) (cut5 (L.getD i noTx))
      obtain ⟨t, ht⟩ : ∃ t, L.getD i noTx = t := ⟨_, rfl⟩
      rw [ht] at hM hp' hr
      rw [ht, frame_short, err_short, row_g, int_snoc]
      have hc := cut5_le t
      have c1 : decide (0 ≤ (i : Int)) = true := decide_eq_true (by omega)
      have c3 : decide (i < L.length) = true := decide_eq_true hi
      have c5 : decide (0 ≤ if 500 < (t.size : Int) then 500 else (t.size : Int)) = true := decide_eq_true (nums_u rfl).1
      have c6 : decide ((if 500 < (t.size : Int) then 500 else (t.size : Int)) ≤ (t.size : Int)) = true := decide_eq_true (nums_u rfl).2
      have c7 : smallT (cut5 t) = true := decide_eq_true (by omega)
      have c8 : decide ((catT (Mi L i)).size + (frameT (cut5 t)).size ≤ 9223372036854775807) = true := decide_eq_true (by rw [frame_size]; omega)
      have c9 : decide (((Mi L i).length + 1) * 16 ≤ 35184372088832) = true := decide_eq_true (by omega)
      have c10 : decide (0 + (Mi L i).length ≤ (Mi L i).length) = true := decide_eq_true (by omega)
      have c11 : decide (((plc 0 (Mi L i)).length + 1) * 8 ≤ 35184372088832) = true := decide_eq_true (by omega)
      have c12 : decide (0 + (plc 0 (Mi L i)).length ≤ (plc 0 (Mi L i)).length) = true := decide_eq_true (by omega)
      simp only [hl, hl2, c1, c3, c5, c6, c7, c8, c9, c10, c11, c12, wr_succ hi2, decide_true, Bool.and_self, Bool.and_true, true_and, Bool.not_true, Bool.false_eq_true, false_implies, forall_const]
      rw [len_g (Mi L i) (cut5 t), show (plc 0 (Mi L i)).length + 1 = (plc 0 (Mi L i) ++ [(((catT (Mi L i) ++ frameT (cut5 t)).size : Nat) : Int)]).length from by simp]
      exact at_1 (L := L) (q := q) (s := s) (j := j) (i := i + 1) (M := Mi L i ++ [cut5 t]) (p := plc 0 (Mi L i) ++ [(((catT (Mi L i) ++ frameT (cut5 t)).size : Nat) : Int)]) (r := catT (Mi L i) ++ frameT (cut5 t)) (by omega) hi (by omega) (by omega) hM.symm (by rw [hM]; exact hp'.symm) (by rw [hM]; exact hr.symm)
end

section
variable {E : Nat → Nat → Seg} {ra : Nat → Nat → Nat × Nat} {base : Nat}

theorem cnt_drop {pl : List Int} {n : Int} {k : Nat} (hk : k < pl.length) : cntP (pl.drop k) n = (if pl.getD k 0 ≤ n then cntP (pl.drop (k + 1)) n + 1 else 0) ∧ ∀ e, endP (pl.drop k) n e = if pl.getD k 0 ≤ n then endP (pl.drop (k + 1)) n (pl.getD k 0) else e := by
  have e : pl.getD k 0 = pl[k] := by rw [List.getD_eq_getElem?_getD, List.getElem?_eq_getElem hk]; rfl
  rw [List.drop_eq_getElem_cons hk, e]
  exact ⟨rfl, fun _ => rfl⟩
def At2 (x : B2) (j : Nat) (ts : Tmps) (h : Log) : Prop := ∃ (k : Nat) (e : Int), k ≤ x.pl.length ∧ j = x.pl.length - k + 1 ∧ cntP x.pl x.n = k + cntP (x.pl.drop k) x.n ∧ endP x.pl x.n 0 = endP (x.pl.drop k) x.n e ∧ ts = mkT 193 (x.at (k : Nat) e) ∧ h = hp 0 x.bs
theorem at_2 {x : B2} {j k : Nat} {e : Int} (h1 : k ≤ x.pl.length) (h2 : j = x.pl.length - k + 1) (h3 : cntP x.pl x.n = k + cntP (x.pl.drop k) x.n) (h4 : endP x.pl x.n 0 = endP (x.pl.drop k) x.n e) : At2 x j (mkT 193 (x.at (k : Nat) e)) (hp 0 x.bs) := ⟨k, e, h1, h2, h3, h4, rfl, rfl⟩
theorem post_2 {x : B2} {k : Nat} {e : Int} (h3 : cntP x.pl x.n = k) (h4 : endP x.pl x.n 0 = e) : PostL 193 x (.exit 2, mkT 193 [(2, .str x.s), (7, .str x.r), (8, x.O), (17, .int .i64 x.n), (18, .int .i64 (k : Nat)), (19, .int .i64 e)], hp 0 x.os) b2D.alts :=
  ⟨⟨(k : Nat), e⟩, ⟨by rw [h3], h4.symm⟩, rfl⟩
theorem b2_takes (hE : Plain E) (x : B2) (hx : b2D.pre x = true) : Takes Try.prog E ra base 0 (.loop (codeOf 5 (false :: pB2))) (mkT 193 (b2D.ins x)) (hp 0 (b2D.blks x)) fun y => PostL 193 x y b2D.alts := by
  have hS := S5_ok (ra := ra) (base := base) hE
  obtain ⟨s, r, f, own, pl, n⟩ := x
  simp only [b2D, Bool.and_eq_true, decide_eq_true_eq] at hx
  obtain ⟨hx, hf⟩ := hx
  cases f with
  | false =>
    obtain rfl : pl = [] := List.isEmpty_iff.1 (by simpa using hf)
    refine takes_loop (fun j ts h => j = 1 ∧ ts = mkT 193 (B2.at ⟨s, r, false, own, [], n⟩ 0 0) ∧ h = hp 0 []) (fun ts h => by rintro ⟨h, _⟩; omega) (fun j ts h' => ?_) (j := 1) ⟨rfl, rfl, rfl⟩
    rintro ⟨_, rfl, rfl⟩
    refine takes_of_tree hE (W_ok hS noL_ok) (f := 5) (.inr (by kernel_rfl)) (hp_below _) (b2_n E n s r) ?_
    exact post_2 (x := ⟨s, r, false, own, [], n⟩) (k := 0) (e := 0) rfl rfl
  | true =>
    refine takes_loop (At2 ⟨s, r, true, own, pl, n⟩) (fun ts h => by rintro ⟨i, _, _, h, _⟩; omega) (fun j ts h' => ?_) (j := pl.length + 1) (at_2 (x := ⟨s, r, true, own, pl, n⟩) (k := 0) (e := 0) (Nat.zero_le _) (by simp) (by simp) rfl)
    rintro ⟨k, e, k1, k2, k3, k4, rfl, rfl⟩
    simp only at k1 k2 k3 k4
    refine takes_of_tree hE (W_ok hS noL_ok) (f := 5) (.inr (by kernel_rfl)) (hp_below _) (b2_g E n k e s r own pl) ?_
    simp only [Tree.holds]
    refine ⟨fun hl => ?_, fun hl => ?_⟩
    · have g1 := of_decide_eq_true hl
      have hk : k < pl.length := by omega
      obtain ⟨d1, d2⟩ := cnt_drop (n := n) hk
      have c1 : decide (0 ≤ (k : Int)) = true := decide_eq_true (by omega)
      have e4 : 0 + Int.toNat (k : Int) = k := by omega
      have c2 : decide (k < pl.length) = true := decide_eq_true hk
      have hk2 : k ≤ 2000 := by omega
      rw [e4]
      simp only [hl, c1, c2, wr_succ hk2, Bool.and_self, true_and]
      refine ⟨fun hh => ?_, fun hh => ?_⟩
      · have hh := of_decide_eq_true hh
        rw [if_pos hh] at d1
        have d2 := d2 e
        rw [if_pos hh] at d2
        exact at_2 (x := ⟨s, r, true, own, pl, n⟩) (k := k + 1) (e := pl.getD k 0) (j := j) hk (by simp only; omega) (by simp only; omega) (k4.trans d2)
      · have hh := of_decide_eq_false hh
        rw [if_neg hh] at d1
        have d2 := d2 e
        rw [if_neg hh] at d2
        exact post_2 (x := ⟨s, r, true, own, pl, n⟩) (by simp only; omega) (k4.trans d2)
    · have g1 := of_decide_eq_false hl
      rw [List.drop_of_length_le (by omega)] at k3 k4
      exact post_2 (x := ⟨s, r, true, own, pl, n⟩) k3 k4
end
end Go.Proofs.Ytbpcljkapkjheaa
