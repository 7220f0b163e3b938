/- frame: row and alike keep their contracts. -/
import Derived.Test.YtbpcljkapkjheaaP02q
import Derived.Test.YtbpcljkapkjheaaT02p
set_option linter.unusedSimpArgs false
set_option linter.unusedVariables false
namespace Go.Proofs.Ytbpcljkapkjheaa
open Ab

theorem cut5_le (t : ByteArray) : (cut5 t).size ≤ 500 := by
  rw [cut5, ByteArray.size_extract]
  show min (Int.toNat (if 500 < (t.size : Int) then 500 else (t.size : Int))) t.size - 0 ≤ 500
  have : (if 500 < (t.size : Int) then 500 else (t.size : Int)) ≤ 500 := by split <;> omega
  omega
theorem frame_size (t : ByteArray) : (frameT t).size = t.size + 5 := by
  rw [frameT, ByteArray.size_append, ByteArray.size_append, size_nums, size_nums]
  simp only [List.length_cons, List.length_nil]; omega
theorem short_cut (t : ByteArray) : longB (cut5 t) = false := decide_eq_false (by have := cut5_le t; omega)
def rowF (L : List ByteArray) : ByteArray := L.foldl (fun s t => s ++ frameT (cut5 t)) noTx
theorem row_eq (L : List ByteArray) : rowS L = rowF (L.take 20) := rfl
theorem row_snoc (L : List ByteArray) (t : ByteArray) : rowF (L ++ [t]) = rowF L ++ frameT (cut5 t) := by rw [rowF, List.foldl_append]; rfl
theorem take_snoc {L : List ByteArray} {i : Nat} (h : i < L.length) : L.take (i + 1) = L.take i ++ [L.getD i noTx] := by
  rw [List.take_add_one, List.getElem?_eq_getElem h, List.getD_eq_getElem?_getD, List.getElem?_eq_getElem h]; rfl
theorem fold_size (f : ByteArray → ByteArray) (hf : ∀ t, (f t).size ≤ 505) : ∀ (L : List ByteArray) (s : ByteArray), (L.foldl (fun s t => s ++ f t) s).size ≤ s.size + L.length * 505
  | [], s => by simp
  | t :: l, s => by
    have h1 := fold_size f hf l (s ++ f t)
    have h2 := hf t
    rw [ByteArray.size_append] at h1
    rw [List.foldl_cons, List.length_cons]
    omega
theorem row_size (L : List ByteArray) : (rowF L).size ≤ L.length * 505 := by
  have h := fold_size (fun t => frameT (cut5 t)) (fun t => by have := cut5_le t; rw [frame_size]; omega) L noTx
  have h0 : noTx.size = 0 := rfl
  rw [h0] at h
  have e : rowF L = L.foldl (fun s t => s ++ frameT (cut5 t)) noTx := rfl
  rw [e]; omega
theorem okS_cases {L : List ByteArray} {V : AVal} (h : okS L V = true) : (V = .nils ∧ L = []) ∨ V = .slice (.ro 0 0 0 0) L.length none := by
  unfold okS at h
  split at h
  · exact .inl ⟨rfl, List.length_eq_zero_iff.1 (Nat.eq_of_beq_eq_true h)⟩
  · exact .inr (by rw [of_decide_eq_true h])
  · cases h
theorem tabS_plain (L : List ByteArray) : Plain (tabS L) := by
  intro tid par j v hv
  obtain ⟨_, s, hs, rfl⟩ := cellOf_seg hv
  simp only [tabS] at hs
  have : j % 1 = 0 := Nat.mod_one j
  rw [this] at hs
  simp at hs
  subst hs; rfl

def AtW (L : List ByteArray) (j : Nat) (ts : Tmps) (h : Log) : Prop := ∃ i : Nat, i ≤ 20 ∧ i ≤ L.length ∧ j = 20 - i + 1 ∧ ts = mkT 36 (Rw.at ⟨.slice (.ro 0 0 0 0) L.length none, rowF (L.take i)⟩ (i : Nat)) ∧ h = hp 0 []
theorem at_w {L : List ByteArray} {i j : Nat} (h1 : i ≤ 20) (h2 : i ≤ L.length) (h3 : j = 20 - i + 1) : AtW L j (mkT 36 (Rw.at ⟨.slice (.ro 0 0 0 0) L.length none, rowF (L.take i)⟩ (i : Nat))) (hp 0 []) := ⟨i, h1, h2, h3, rfl, rfl⟩

section
variable {ra : Nat → Nat → Nat × Nat} {base : Nat}

theorem rw_takes (L : List ByteArray) (x : Rw) (hx : (rwD L).pre x = true) : Takes Try.prog (tabS L) ra base 0 (.loop (codeOf 10 (false :: pW))) (mkT 36 ((rwD L).ins x)) (hp 0 ((rwD L).blks x)) fun y => PostL 36 x y (rwD L).alts := by
  have hE := tabS_plain L
  have hS := S1_ok (ra := ra) (base := base) hE
  obtain ⟨V, s⟩ := x
  simp only [rwD, Bool.and_eq_true, decide_eq_true_eq] at hx
  obtain ⟨h1, h2⟩ := hx
  obtain rfl : s = noTx := by
    have : s.data = #[] := Array.eq_empty_of_size_eq_zero h2
    cases s; simp only at this; subst this; rfl
  rcases okS_cases h1 with ⟨rfl, rfl⟩ | rfl
  · refine takes_loop (fun j ts h => j = 1 ∧ ts = mkT 36 (Rw.at ⟨.nils, noTx⟩ 0) ∧ h = hp 0 []) (fun ts h => by rintro ⟨h, _⟩; omega) (fun j ts h' => ?_) (j := 1) ⟨rfl, rfl, rfl⟩
    rintro ⟨_, rfl, rfl⟩
    refine takes_of_tree hE (W_ok hS noL_ok) (f := 10) (.inr (by kernel_rfl)) (hp_below _) (row_round0 [] noTx) ?_
    exact ⟨(), trivial, rfl⟩
  · refine takes_loop (AtW L) (fun ts h => by rintro ⟨i, _, _, h, _⟩; omega) (fun j ts h' => ?_) (j := 21) (at_w (i := 0) (by omega) (Nat.zero_le _) rfl)
    rintro ⟨i, k1, k2, k3, rfl, rfl⟩
    refine takes_of_tree hE (W_ok hS noL_ok) (f := 10) (.inr (by kernel_rfl)) (hp_below _) (row_round L L.length (rowF (L.take i)) i) ?_
    have done : ¬ (i < L.length ∧ i < 20) → L.take i = L.take 20 := fun hn => by
      by_cases hi : i < L.length
      · have : i = 20 := by omega
        rw [this]
      · rw [List.take_of_length_le (by omega), List.take_of_length_le (by omega)]
    have fin : ¬ (i < L.length ∧ i < 20) → PostL 36 (⟨.slice (.ro 0 0 0 0) L.length none, noTx⟩ : Rw) (.exit 0, mkT 36 [(3, .str (rowF (L.take i)))], hp 0 []) (rwD L).alts := fun hn => by
      rw [done hn]; exact ⟨(), trivial, rfl⟩
    simp only [Tree.holds]
    refine ⟨fun hl => ⟨fun hl2 => ?_, fun hl2 => fin (by have := of_decide_eq_false hl2; omega)⟩, fun hl => fin (by have := of_decide_eq_false hl; omega)⟩
    have g1 := of_decide_eq_true hl
    have g2 := of_decide_eq_true hl2
    have hi : i < L.length := by omega
    have e4 : 0 + Int.toNat (i : Int) = i := by omega
    rw [e4]
    have hr := row_size (L.take i)
    rw [List.length_take] at hr
    have e6 : rowF (L.take i) ++ frameT (cut5 (L.getD i noTx)) = rowF (L.take (i + 1)) := by rw [take_snoc hi, row_snoc]
    generalize L.getD i noTx = t at e6 ⊢
    have hc := cut5_le t
    have c1 : decide (0 ≤ (i : Int)) = true := decide_eq_true (by omega)
    have c3 : decide (i < L.length) = true := decide_eq_true hi
    have c5 : decide (0 ≤ if 500 < (t.size : Int) then 500 else (t.size : Int)) = true := decide_eq_true (by split <;> omega)
    have c6 : decide ((if 500 < (t.size : Int) then 500 else (t.size : Int)) ≤ (t.size : Int)) = true := decide_eq_true (by split <;> omega)
    have c7 : smallT (cut5 t) = true := decide_eq_true (by omega)
    have c8 : decide ((rowF (L.take i)).size + (frameT (cut5 t)).size ≤ 9223372036854775807) = true := decide_eq_true (by rw [frame_size]; omega)
    have e5 : (if longB (cut5 t) = true then noTx else frameT (cut5 t)) = frameT (cut5 t) := if_neg (by rw [short_cut]; decide)
    have e3 : wr .i64 ((i : Int) + 1) = ((i + 1 : Nat) : Int) := by rw [wr_in ⟨by omega, by omega⟩]; rfl
    rw [e5, e6]
    simp only [hl, hl2, c1, c3, c5, c6, c7, c8, e3, decide_true, Bool.and_self, true_and]
    exact at_w (by omega) hi (by omega)
theorem TRw_ok (L : List ByteArray) : ToldsOK Try.prog (tabS L) ra base 0 (TRw L) := sumT_ok noT_ok rfl (toldR_ok (c := .loop (codeOf 10 (false :: pW))) (by kernel_rfl) (rw_takes L))

theorem row_gives (L : List ByteArray) (V : AVal) (h : (rowD L).pre V = true) : Gives Try.prog (tabS L) ra base ((rowD L).blks V).length 10 ((rowD L).args V) (hp 0 ((rowD L).blks V)) fun v h' => v = (rowD L).out V ∧ h' = hp 0 ((rowD L).blks' V) := by
  have hE := tabS_plain L
  have hS := S1_ok (ra := ra) (base := base) hE
  have h : okS L V = true := h
  rcases okS_cases h with ⟨rfl, rfl⟩ | rfl
  · refine gives_of_treeQ hE (W_ok hS noL_ok) (TRw_ok []) (hp_below _) (row_call0 []) ?_
    simp only [TreeQ.holds, h, decide_true, Bool.and_self, true_and]
    intro _ _
    exact ⟨_, rfl, rfl, rfl⟩
  · refine gives_of_treeQ hE (W_ok hS noL_ok) (TRw_ok L) (hp_below _) (row_call L L.length) ?_
    simp only [TreeQ.holds, h, decide_true, Bool.and_self, true_and]
    intro _ _
    exact ⟨_, rfl, rfl, rfl⟩
end
section
variable {E : Nat → Nat → Seg} {ra : Nat → Nat → Nat × Nat} {base : Nat}
theorem all_le (s : ByteArray) : (allT s).L.length ≤ s.size := by
  have key : ∀ (n : Nat) (a : Int) (L : List ByteArray), 0 ≤ a → a ≤ (s.size : Nat) → (L.length : Int) ≤ a → ((allF n s a L).L.length : Int) ≤ (s.size : Nat) := by
    intro n
    induction n with
    | zero => intro a L h0 h1 h2; exact Int.le_trans h2 h1
    | succ n ih =>
      intro a L h0 h1 h2
      show ((if nxE s a = 0 then allF n s (a + szN s a + 5) (L ++ [bodyS s a]) else ⟨L, a, if nxE s a = 9 then 0 else nxE s a⟩ : Al).L.length : Int) ≤ _
      by_cases he : nxE s a = 0
      · obtain ⟨z0, z1, _⟩ := nx_zero he
        have hz := (szN_in s a).1
        rw [if_pos he]
        exact ih _ _ (by omega) z1 (by rw [List.length_append]; simp only [List.length_cons, List.length_nil]; omega)
      · rw [if_neg he]
        exact Int.le_trans h2 h1
  have := key (s.size + 1) 0 [] (by omega) (by omega) (by simp)
  exact Int.ofNat_le.1 this
theorem alike_gives (hE : Plain E) (x : Nx) (h : alkD.pre x = true) : Gives Try.prog E ra base (alkD.blks x).length 11 (alkD.args x) (hp 0 (alkD.blks x)) fun v h' => v = alkD.out x ∧ h' = hp 0 (alkD.blks' x) := by
  have hS := S5_ok (ra := ra) (base := base) hE
  obtain ⟨s, a⟩ := x
  simp only [alkD, Bool.and_eq_true, decide_eq_true_eq] at h
  obtain ⟨p1, p2, p3⟩ := h
  refine (gives_of_tree hE (W_ok hS noL_ok) hS (hp_below _) (alike_call E s a) ?_).2
  have c0 : decide (s.size ≤ 1000000000000) = true := decide_eq_true p1
  have c1 : decide (-1000000000000 ≤ a) = true := decide_eq_true p2
  have c2 : decide (a ≤ 1000000000000) = true := decide_eq_true p3
  have c3 : lowT s = true := c0
  have hl := all_le s
  generalize (if nxE s a = 0 then cutB s (a + 4) (a + 4 + szN s a) else noTx) = b
  generalize (if nxE s a = 0 then a + szN s a + 5 else a) = k
  generalize nxE s a = e
  simp only [Tree.holds, c0, c1, c2, c3, beq_tx, decide_true, Bool.and_self, Bool.and_true, Bool.true_and, true_and, Bool.true_eq_false, Bool.false_eq_true, false_implies, true_implies, and_true, forall_const, reduceCtorEq]
  refine ⟨fun hn => ⟨hn, hn, hn, _, rfl, rfl, rfl⟩, fun hn => ?_⟩
  have hp := none_pos hn
  have c4 : Tq.ok (Tq.gg (allT s).L (allT s).L (allT s).L.length none) = true := by
    simp only [Tq.ok, Bool.and_eq_true, decide_eq_true_eq]
    exact ⟨hp, by omega, by omega, by omega⟩
  have c5 : Tq.says (Tq.gg (allT s).L (allT s).L (allT s).L.length none) = true := by
    show alikeL (allT s).L ((allT s).L.take (allT s).L.length) = true
    rw [List.take_length]; exact alike_self _
  simp only [hn, c4, c5, sameCap, decide_true, Bool.not_false, Bool.and_self, Bool.and_true, Bool.true_and, true_and, Bool.true_eq_false, Bool.false_eq_true, false_implies, true_implies, and_true, forall_const, reduceCtorEq]
  exact ⟨_, rfl, rfl, rfl⟩
end
section
variable {ra : Nat → Nat → Nat × Nat} {base : Nat}
theorem S6_ok (L : List ByteArray) : SumsOK Try.prog (tabS L) ra base (S6 L) :=
  sumG_deal (tabS_plain L) (sumG_deal (tabS_plain L) (S5_ok (tabS_plain L)) ⟨_, Try.func10, by kernel_rfl⟩ (row_gives L)) ⟨_, Try.func11, by kernel_rfl⟩ fun x hx => alike_gives (tabS_plain L) x hx
end
end Go.Proofs.Ytbpcljkapkjheaa
