/- frame: Put keeps its contract; FrameLays as a whole. -/
import Derived.Test.YtbpcljkapkjheaaP02b
set_option linter.unusedSimpArgs false
set_option linter.unusedVariables false
namespace Go.Proofs.Ytbpcljkapkjheaa
open Ab

section
variable {E : Nat → Nat → Seg} {ra : Nat → Nat → Nat × Nat} {base : Nat}

theorem out_long {t : ByteArray} (h : longB t = true) : putOut t = .tup [.str noTx, .int .i64 4] := by rw [putOut, if_pos h, if_pos h]
theorem out_frame {t : ByteArray} (h : longB t = false) : putOut t = .tup [.str (frameT t), .int .i64 0] := by rw [putOut, if_neg (by rw [h]; decide), if_neg (by rw [h]; decide)]

theorem div_in {n : Nat} (h : n ≤ 2000000) : wr .i64 (Int.tdiv (n : Int) 256) = (n : Int) / 256 := by
  rw [Int.tdiv_eq_ediv_of_nonneg (by omega), wr_in ⟨by omega, by omega⟩]
theorem put_gives (hE : Plain E) (t : ByteArray) (h : smallT t = true) : Gives Try.prog E ra base 0 7 (putD.args t) (hp 0 (putD.blks t)) fun v h' => v = putD.out t ∧ h' = hp 0 (putD.blks' t) := by
  have hn : t.size ≤ 2000000 := of_decide_eq_true h
  refine (gives_of_tree hE (W_ok sumNone_ok noL_ok) sumNone_ok (hp_below _) (put_call E t) ?_).2
  have eA : wr .i64 (Int.tdiv ((t.size : Int) / 256) 256) = (t.size : Int) / 65536 := by
    rw [Int.tdiv_eq_ediv_of_nonneg (by omega), wr_in ⟨by omega, by omega⟩]; omega
  rw [div_in hn, eA]
  cases hl : longB t with
  | true =>
    have c : decide (1048576 < (t.size : Int)) = true := hl
    exact ⟨fun _ => ⟨_, rfl, (out_long hl).symm, rfl⟩, fun hh => by rw [c] at hh; cases hh⟩
  | false =>
    have c : decide (1048576 < (t.size : Int)) = false := hl
    have out : putD.out t = .tup [.str (frameT t), .int .i64 0] := out_frame hl
    have hf : frameT t = strOfNums [165, wr .u8 ((t.size : Int) / 65536), wr .u8 ((t.size : Int) / 256), wr .u8 (t.size : Int)] ++ t ++ endT := rfl
    rw [out, hf]
    generalize wr .u8 ((t.size : Int) / 65536) = a
    generalize wr .u8 ((t.size : Int) / 256) = b
    generalize wr .u8 (t.size : Int) = d
    have hs : ByteArray.size (strOfNums (List.take 4 (List.drop 0 [165, a, b, d]))) = 4 := rfl
    have he : ByteArray.size endT = 1 := rfl
    have ez : ∀ z : ByteArray, z = strOfNums [165, a, b, d] ++ t ++ endT → AVal.tup [.str z, .int .i64 0] = .tup [.str (strOfNums [165, a, b, d] ++ t ++ endT), .int .i64 0] := fun z hz => by rw [hz]
    simp only [Tree.holds, hs, he, c, decide_eq_true_eq, Bool.false_eq_true, false_implies, true_and, forall_const]
    refine ⟨by omega, by omega, by omega, by omega, by omega, by omega, by omega, by omega, by omega, by omega, by omega, by omega, by omega, _, rfl, ez _ (frame_lay a b d t), rfl⟩

theorem putR_gives (hE : Plain E) (t : ByteArray) (h : smallT t = true) : Gives Try.prog E ra base 0 8 (putD.args t) (hp 0 (putD.blks t)) fun v h' => v = putD.out t ∧ h' = hp 0 (putD.blks' t) := by
  have hn : t.size ≤ 2000000 := of_decide_eq_true h
  refine (gives_of_tree hE (W_ok sumNone_ok noL_ok) sumNone_ok (hp_below _) (putR_call E t) ?_).2
  have eA : wr .i64 (Int.tdiv (t.size : Int) 65536) = (t.size : Int) / 65536 := by
    rw [Int.tdiv_eq_ediv_of_nonneg (by omega), wr_in ⟨by omega, by omega⟩]
  have eB : wr .u8 (Int.tmod ((t.size : Int) / 256) 256) = wr .u8 ((t.size : Int) / 256) := by
    rw [Int.tmod_eq_emod_of_nonneg (by omega)]
    show ((t.size : Int) / 256 % 256) % 256 = (t.size : Int) / 256 % 256
    omega
  have eC : wr .u8 (Int.tmod (t.size : Int) 256) = wr .u8 (t.size : Int) := by
    rw [Int.tmod_eq_emod_of_nonneg (by omega)]
    show ((t.size : Int) % 256) % 256 = (t.size : Int) % 256
    omega
  rw [div_in hn, eA, eB, eC]
  cases hl : longB t with
  | true =>
    have c : decide (1048576 < (t.size : Int)) = true := hl
    exact ⟨fun _ => ⟨_, rfl, (out_long hl).symm, rfl⟩, fun hh => by rw [c] at hh; cases hh⟩
  | false =>
    have c : decide (1048576 < (t.size : Int)) = false := hl
    have out : putD.out t = .tup [.str (frameT t), .int .i64 0] := out_frame hl
    have hf : frameT t = strOfNums [165, wr .u8 ((t.size : Int) / 65536), wr .u8 ((t.size : Int) / 256), wr .u8 (t.size : Int)] ++ t ++ endT := rfl
    rw [out, hf]
    generalize wr .u8 ((t.size : Int) / 65536) = a
    generalize wr .u8 ((t.size : Int) / 256) = b
    generalize wr .u8 (t.size : Int) = d
    have hs : ByteArray.size (strOfNums (List.take 4 (List.drop 0 [165, a, b, d]))) = 4 := rfl
    simp only [Tree.holds, hs, c, ByteArray.size_append, decide_eq_true_eq, Bool.false_eq_true, false_implies, true_and, forall_const]
    exact ⟨by omega, by omega, by omega, _, rfl, rfl, rfl⟩

theorem S1_ok (hE : Plain E) : SumsOK Try.prog E ra base S1 :=
  sumG_deal hE (sumG_deal hE (sumG_deal hE sumNone_ok ⟨_, Try.func7, by kernel_rfl⟩ fun x hx => put_gives hE x hx) ⟨_, Try.func8, by kernel_rfl⟩ fun x hx => putR_gives hE x hx)
    ⟨_, Try.func9, by kernel_rfl⟩ fun _ _ => (gives_of_eval hE (W_ok sumNone_ok noL_ok) sumNone_ok works_true).2

theorem beq_tx (t : ByteArray) : (ByteArray.toList t == ByteArray.toList t) = true := beq_self_eq_true _
theorem size_nums (xs : List Int) : (strOfNums xs).size = xs.length := by simp [strOfNums, ByteArray.size]

theorem lays_gives (hE : Plain E) (t : ByteArray) {m : Int} (hm : 0 ≤ m ∧ m < 4294967296) : Gives Try.prog E ra base 0 3 [.str t, .int .u32 m] (hp 0 []) fun v _ => v = .bool true := by
  have hS := S1_ok (ra := ra) (base := base) hE
  refine (gives_of_tree hE (W_ok hS noL_ok) hS (hp_below _) (lays_call E t m) ?_).2
  have e0 : Int.tmod m 1048579 = m % 1048579 := Int.tmod_eq_emod_of_nonneg hm.1
  have e1 : wr .i64 (m % 1048579) = m % 1048579 := wr_in ⟨by omega, by omega⟩
  have hu : (0 ≤ if 1000 < (t.size : Int) then 1000 else (t.size : Int)) ∧ (if 1000 < (t.size : Int) then 1000 else (t.size : Int)) ≤ (t.size : Int) ∧ (if 1000 < (t.size : Int) then 1000 else (t.size : Int)) ≤ 1000 := by
    split <;> omega
  have hc : (cutT t).size ≤ 1000 := by
    rw [cutT, ByteArray.size_extract]
    show min (Int.toNat (if 1000 < (t.size : Int) then 1000 else (t.size : Int))) t.size - 0 ≤ 1000
    omega
  obtain ⟨u1, u2, u3⟩ := hu
  rw [e0, e1]
  have hz : (strOfNums (List.take (Int.toNat (m % 1048579)) (List.drop 0 (List.replicate (Int.toNat (m % 1048579)) (0 : Int))))).size ≤ 1048579 := by
    rw [size_nums, List.drop_zero, List.length_take, List.length_replicate]; omega
  generalize strOfNums (List.take (Int.toNat (m % 1048579)) (List.drop 0 (List.replicate (Int.toNat (m % 1048579)) (0 : Int)))) = z at hz ⊢
  have s1 : smallT (cutT t ++ noTx) = true := decide_eq_true (by rw [ByteArray.size_append]; have : noTx.size = 0 := rfl; omega)
  have s2 : smallT (cutT t ++ z) = true := decide_eq_true (by rw [ByteArray.size_append]; omega)
  generalize (if 1000 < (t.size : Int) then 1000 else (t.size : Int)) = u at u1 u2 u3 ⊢
  have c1 : decide (0 ≤ u) = true := decide_eq_true u1
  have c2 : decide (u ≤ (t.size : Int)) = true := decide_eq_true u2
  have c3 : decide ((cutT t).size ≤ 9223372036854775807) = true := decide_eq_true (by omega)
  have c4 : decide (0 ≤ m % 1048579) = true := decide_eq_true (by omega)
  have c5 : decide (m % 1048579 ≤ 1099511627776) = true := decide_eq_true (by omega)
  have c6 : decide (0 + Int.toNat (m % 1048579) ≤ Int.toNat (m % 1048579)) = true := decide_eq_true (by omega)
  have c7 : decide (m % 1048579 ≤ m % 1048579) = true := decide_eq_true (by omega)
  have c8 : decide ((cutT t).size + z.size ≤ 9223372036854775807) = true := decide_eq_true (by omega)
  simp only [Tree.holds, s1, s2, c1, c2, c3, c4, c5, c6, c7, c8, beq_tx, decide_true, Bool.and_self, Bool.and_true, Bool.true_and, true_and, Bool.not_true, Bool.false_eq_true, false_implies, forall_const]
  exact ⟨_, rfl, rfl⟩
end
end Go.Proofs.Ytbpcljkapkjheaa
