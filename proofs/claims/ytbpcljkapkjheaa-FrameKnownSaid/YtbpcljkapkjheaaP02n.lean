/- frame: Next's question of the size keeps its contract. -/
import Derived.Test.YtbpcljkapkjheaaT02n
set_option linter.unusedSimpArgs false
set_option linter.unusedVariables false
namespace Go.Proofs.Ytbpcljkapkjheaa
open Ab

section
variable {E : Nat → Nat → Seg} {ra : Nat → Nat → Nat × Nat} {base : Nat}

theorem size_step (n : Int) {xs : List Int} {i : Nat} (h : i < xs.length) : sizeOf n (xs.drop i) = sizeOf (wr .i64 (wr .i64 (n * 256) + wr .i64 (xs.getD i 0))) (xs.drop (i + 1)) := by
  have e : xs.getD i 0 = xs[i] := by rw [List.getD_eq_getElem?_getD, List.getElem?_eq_getElem h]; rfl
  rw [List.drop_eq_getElem_cons h, e]; rfl

def AtZ (s : ByteArray) (a : Int) (xs : List Int) (c : Option Nat) (m : Int) (i : Nat) (ts : Tmps) (h : Log) : Prop := ∃ n : Int, i ≤ xs.length ∧ sizeOf n (xs.drop i) = m ∧ ts = mkT 26 (Sz.at ⟨s, a, n, xs, c⟩ (i : Nat)) ∧ h = hp 0 [bxS s, bxI a, bxI n, bytesB xs]
theorem at_z {s : ByteArray} {a : Int} {xs : List Int} {c : Option Nat} {m n : Int} {i : Nat} (h : i ≤ xs.length) (e : sizeOf n (xs.drop i) = m) : AtZ s a xs c m i (mkT 26 (Sz.at ⟨s, a, n, xs, c⟩ (i : Nat))) (hp 0 [bxS s, bxI a, bxI n, bytesB xs]) := ⟨n, h, e, rfl, rfl⟩

theorem sz_step (hE : Plain E) {s : ByteArray} {a n m : Int} {xs : List Int} {c : Option Nat} {i : Nat} (hx : xs.length ≤ 1000) (h : i ≤ xs.length) (e : sizeOf n (xs.drop i) = m) :
    Takes Try.prog E ra base 3 (codeOf 18 (false :: pZ)) (mkT 26 (Sz.at ⟨s, a, n, xs, c⟩ (i : Nat))) (hp 0 [bxS s, bxI a, bxI n, bytesB xs])
      fun w => (w.1 = .normal ∧ i < xs.length ∧ AtZ s a xs c m (i + 1) w.2.1 w.2.2) ∨ w = (.exit 0, mkT 26 [(2, .ptr (.own 2 0 0 0))], hp 0 [bxS s, bxI a, bxI m]) := by
  refine takes_of_tree hE (W_ok sumNone_ok noL_ok) (f := 18) (.inr (by kernel_rfl)) (hp_below _) (sz_round E s a n i xs c) ?_
  simp only [Tree.holds]
  refine ⟨fun hl => ?_, fun hl => ?_⟩
  · have k1 := of_decide_eq_true hl
    have hi : i < xs.length := by omega
    have c1 : decide (0 ≤ (i : Int)) = true := decide_eq_true (by omega)
    have c2 : decide (0 + Int.toNat (i : Int) < xs.length) = true := decide_eq_true (by omega)
    have e3 : wr .i64 ((i : Int) + 1) = ((i + 1 : Nat) : Int) := by rw [wr_in ⟨by omega, by omega⟩]; rfl
    have e4 : 0 + Int.toNat (i : Int) = i := by omega
    rw [size_step n hi] at e
    simp only [hl, c1, c2, e3, Bool.and_self, true_and]
    rw [e4]
    exact .inl ⟨hi, at_z hi e⟩
  · have k1 := of_decide_eq_false hl
    have hi : xs.length ≤ i := by omega
    rw [List.drop_of_length_le hi] at e
    have e : n = m := e
    subst e
    exact .inr rfl

theorem sz_takes (hE : Plain E) (x : Sz) (hx : szD.pre x = true) : Takes Try.prog E ra base 3 (.loop (codeOf 18 (false :: pZ))) (mkT 26 (szD.ins x)) (hp 0 (szD.blks x)) fun w => PostL 26 x w szD.alts := by
  obtain ⟨s, a, n, xs, c⟩ := x
  have hx : xs.length ≤ 1000 := of_decide_eq_true hx
  refine takes_loop (fun j ts h => ∃ i, j = xs.length - i + 1 ∧ AtZ s a xs c (sizeOf n xs) i ts h) (fun ts h => by rintro ⟨i, h, _⟩; omega) (fun j ts h' => ?_) (j := xs.length + 1) ⟨0, by omega, at_z (Nat.zero_le _) rfl⟩
  rintro ⟨i, k1, n', k2, k3, rfl, rfl⟩
  refine (sz_step hE hx k2 k3).mono ?_
  rintro ⟨q, ts', h''⟩ (⟨rfl, g1, g2⟩ | g)
  · exact ⟨i + 1, by omega, g2⟩
  · rw [g]
    exact ⟨(), trivial, rfl⟩
theorem TZ_ok (hE : Plain E) : ToldsOK Try.prog E ra base 3 TZ := sumT_ok noT_ok rfl (toldR_ok (c := .loop (codeOf 18 (false :: pZ))) (by kernel_rfl) (sz_takes hE))

theorem size_gives (hE : Plain E) (x : Qz) (h : sizeD.pre x = true) : Gives Try.prog E ra base (sizeD.blks x).length 18 (sizeD.args x) (hp 0 (sizeD.blks x)) fun v h' => v = sizeD.out x ∧ h' = hp 0 (sizeD.blks' x) := by
  obtain ⟨s, a, n⟩ := x
  simp only [sizeD, Bool.and_eq_true, decide_eq_true_eq] at h
  obtain ⟨h1, h2, h3⟩ := h
  refine gives_of_treeQ hE (W_ok sumNone_ok noL_ok) (TZ_ok hE) (hp_below _) (sz_call E s a n) ?_
  have e1 : wr .i64 (a + 4) = a + 4 := wr_in ⟨by omega, by omega⟩
  have e2 : wr .i64 (a + 1) = a + 1 := wr_in ⟨by omega, by omega⟩
  have hl : (List.map (fun b => ((UInt8.toNat b : Nat) : Int)) (Array.toList (ByteArray.data (cut3 s a)))).length = (cut3 s a).size := by rw [List.length_map]; rfl
  have h3' : (cut3 s a).size = 3 := by
    rw [cut3, ByteArray.size_extract, e1, e2]
    show min (Int.toNat (a + 4)) s.size - Int.toNat (a + 1) = 3
    omega
  have c1 : decide (0 ≤ a + 4) = true := decide_eq_true (by omega)
  have c2 : decide (a + 4 ≤ (s.size : Nat)) = true := decide_eq_true (by omega)
  have c3 : decide (0 ≤ a + 1) = true := decide_eq_true (by omega)
  have c4 : decide (a + 1 ≤ ((Int.toNat (a + 4) : Nat) : Int)) = true := decide_eq_true (by omega)
  have c5 : decide (3 ≤ 4294967296) = true := rfl
  have c6 : decide (3 ≤ 1000) = true := rfl
  rw [e1, e2]
  simp only [TreeQ.holds, hl, h3', c1, c2, c3, c4, c5, c6, decide_true, Bool.and_self, Bool.and_true, Bool.true_and, true_and, forall_const]
  exact ⟨_, rfl, rfl, rfl⟩
theorem SN_ok (hE : Plain E) : SumsOK Try.prog E ra base SN := sumG_deal hE sumNone_ok ⟨_, Try.func18, by kernel_rfl⟩ fun x hx => size_gives hE x hx
end
end Go.Proofs.Ytbpcljkapkjheaa
