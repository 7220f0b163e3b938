/- frame: a frame's bytes, plainly. -/
import Derived.Test.YtbpcljkapkjheaaT02
import Derived.Test.YtbpcljkapkjheaaP02a
set_option linter.unusedSimpArgs false
set_option linter.unusedVariables false
namespace Go.Proofs.Ytbpcljkapkjheaa
open Ab

theorem back (L : List UInt8) : List.map (fun n => UInt8.ofNat (Int.toNat n)) (List.map (fun b => ((UInt8.toNat b : Nat) : Int)) L) = L := by
  induction L with
  | nil => rfl
  | cons x L ih =>
    simp only [List.map_cons, ih, Int.toNat_natCast, UInt8.ofNat_toNat]
theorem frame_lay (a b c : Int) (t : ByteArray) : strOfNums (List.take (4 + t.size + 1) (List.drop 0 (List.take (4 + t.size) (List.drop 0 (List.take 4 (List.drop 0 (List.map (fun b => ((UInt8.toNat b : Nat) : Int)) (List.take 4 (List.map (fun n => UInt8.ofNat (Int.toNat n)) (List.take 4 (List.drop 0 [165, a, b, c])))))) ++ List.map (fun b => ((UInt8.toNat b : Nat) : Int)) (List.take t.size t.data.toList))) ++ List.map (fun b => ((UInt8.toNat b : Nat) : Int)) (List.take 1 [90])))) = strOfNums [165, a, b, c] ++ t ++ endT := by
  have h4 : List.take 4 (List.drop 0 (List.map (fun b => ((UInt8.toNat b : Nat) : Int)) (List.take 4 (List.map (fun n => UInt8.ofNat (Int.toNat n)) (List.take 4 (List.drop 0 [165, a, b, c])))))) = List.map (fun b => ((UInt8.toNat b : Nat) : Int)) (List.map (fun n => UInt8.ofNat (Int.toNat n)) [165, a, b, c]) := rfl
  have hl : t.data.toList.length = t.size := rfl
  have ht : List.take t.size t.data.toList = t.data.toList := List.take_of_length_le (by rw [hl]; exact Nat.le_refl _)
  have h1 : List.take 1 ([90] : List UInt8) = [90] := rfl
  rw [h4, ht, h1, List.drop_zero, List.drop_zero, List.take_of_length_le (l := List.map _ _ ++ List.map _ _) (by simp only [List.length_append, List.length_map, hl, List.length_cons, List.length_nil]; omega), List.take_of_length_le (by simp only [List.length_append, List.length_map, hl, List.length_cons, List.length_nil]; omega)]
  apply ByteArray.ext
  simp only [strOfNums, List.map_append, back, ByteArray.data_append]
  apply Array.ext'
  simp only [Array.toList_append]
  rfl
end Go.Proofs.Ytbpcljkapkjheaa
