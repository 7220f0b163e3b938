/- frame: both Nexts keep one contract. -/
import Derived.Test.YtbpcljkapkjheaaP02n
import Derived.Test.YtbpcljkapkjheaaT02m
set_option linter.unusedSimpArgs false
set_option linter.unusedVariables false
namespace Go.Proofs.Ytbpcljkapkjheaa
open Ab

def byteI (s : ByteArray) (a : Int) : Int := ((BitVec.toNat (List.getD (Array.toList (ByteArray.data s)) (Int.toNat a) 0).1 : Nat) : Int)
theorem byteI_in (s : ByteArray) (a : Int) : 0 ≤ byteI s a ∧ byteI s a < 256 := by
  have := (List.getD (Array.toList (ByteArray.data s)) (Int.toNat a) 0).1.isLt
  simp only [byteI]; omega
theorem three {α : Type} (L : List α) (d : α) {m : Nat} (h : m + 3 ≤ L.length) : (L.drop m).take 3 = [L.getD m d, L.getD (m + 1) d, L.getD (m + 2) d] := by
  have g : ∀ i, i < L.length → L.getD i d = (L[i]?).getD d := fun i _ => List.getD_eq_getElem?_getD
  rw [List.drop_eq_getElem_cons (by omega), List.drop_eq_getElem_cons (by omega), List.drop_eq_getElem_cons (by omega), g m (by omega), g (m + 1) (by omega), g (m + 2) (by omega),
    List.getElem?_eq_getElem (by omega), List.getElem?_eq_getElem (by omega), List.getElem?_eq_getElem (by omega)]
  rfl
def szN (s : ByteArray) (a : Int) : Int := byteI s (a + 1) * 65536 + byteI s (a + 2) * 256 + byteI s (a + 3)
theorem szN_in (s : ByteArray) (a : Int) : 0 ≤ szN s a ∧ szN s a < 16777216 := by
  have h1 := byteI_in s (a + 1)
  have h2 := byteI_in s (a + 2)
  have h3 := byteI_in s (a + 3)
  simp only [szN]; omega
theorem w_in {v : Int} (h : -10000000000000 ≤ v ∧ v ≤ 10000000000000) : wr .i64 v = v := wr_in ⟨by omega, by omega⟩
theorem raw_eq {s : ByteArray} {a : Int} (h0 : 0 ≤ a) (h1 : a ≤ 1000000000000) : rawN s a = szN s a := by
  have b1 := byteI_in s (a + 1)
  have b2 := byteI_in s (a + 2)
  have b3 := byteI_in s (a + 3)
  simp only [rawN]
  rw [w_in (v := a + 1) ⟨by omega, by omega⟩, w_in (v := a + 2) ⟨by omega, by omega⟩, w_in (v := a + 3) ⟨by omega, by omega⟩]
  show wr .i64 (wr .i64 (wr .i64 (wr .i64 (byteI s (a + 1)) * 65536) + wr .i64 (wr .i64 (byteI s (a + 2)) * 256)) + wr .i64 (byteI s (a + 3))) = szN s a
  rw [w_in (v := byteI s (a + 3)) ⟨by omega, by omega⟩, w_in (v := byteI s (a + 1)) ⟨by omega, by omega⟩, w_in (v := byteI s (a + 2)) ⟨by omega, by omega⟩, w_in (v := byteI s (a + 1) * 65536) ⟨by omega, by omega⟩, w_in (v := byteI s (a + 2) * 256) ⟨by omega, by omega⟩, w_in (v := byteI s (a + 1) * 65536 + byteI s (a + 2) * 256) ⟨by omega, by omega⟩, w_in ⟨by omega, by omega⟩]
  rfl
theorem size3 {x y z : Int} (hx : 0 ≤ x ∧ x < 256) (hy : 0 ≤ y ∧ y < 256) (hz : 0 ≤ z ∧ z < 256) : sizeOf 0 [x, y, z] = x * 65536 + y * 256 + z := by
  have e1 : sizeOf 0 [x, y, z] = sizeOf (wr .i64 (wr .i64 (0 * 256) + wr .i64 x)) [y, z] := rfl
  have e2 : wr .i64 (wr .i64 (0 * 256) + wr .i64 x) = x := by rw [w_in (v := x) ⟨by omega, by omega⟩]; simp only [wr]; omega
  have e3 : sizeOf x [y, z] = sizeOf (wr .i64 (wr .i64 (x * 256) + wr .i64 y)) [z] := rfl
  have e4 : wr .i64 (wr .i64 (x * 256) + wr .i64 y) = x * 256 + y := by simp only [wr]; omega
  have e5 : sizeOf (x * 256 + y) [z] = wr .i64 (wr .i64 ((x * 256 + y) * 256) + wr .i64 z) := rfl
  have e6 : wr .i64 (wr .i64 ((x * 256 + y) * 256) + wr .i64 z) = x * 65536 + y * 256 + z := by simp only [wr]; omega
  rw [e1, e2, e3, e4, e5, e6]
theorem size_eq {s : ByteArray} {a : Int} (h0 : 0 ≤ a) (h1 : a + 4 ≤ (s.size : Nat)) (h2 : s.size ≤ 1000000000000) : sizeT ⟨s, a, 0⟩ = szN s a := by
  have b1 := byteI_in s (a + 1)
  have b2 := byteI_in s (a + 2)
  have b3 := byteI_in s (a + 3)
  obtain ⟨m, rfl⟩ : ∃ m : Nat, a = m := ⟨a.toNat, by omega⟩
  have hl : s.data.toList.length = s.size := rfl
  have e : nums (cut3 s m) = [byteI s ((m : Int) + 1), byteI s ((m : Int) + 2), byteI s ((m : Int) + 3)] := by
    have e1 : (cut3 s m).data.toList = (s.data.toList.drop (m + 1)).take 3 := by
      have q1 : orNat (some ((m : Int) + 1)) 0 = m + 1 := by simp only [orNat]; omega
      have q2 : orNat (some ((m : Int) + 4)) s.size = m + 4 := by simp only [orNat]; omega
      rw [cut3, w_in (v := (m : Int) + 1) ⟨by omega, by omega⟩, w_in (v := (m : Int) + 4) ⟨by omega, by omega⟩, q1, q2]
      rw [ByteArray.data_extract, Array.toList_extract, List.extract_eq_take_drop]
      rw [show m + 4 - (m + 1) = 3 from by omega]
    rw [nums, e1, three s.data.toList 0 (by omega)]
    simp only [byteI, List.map_cons, List.map_nil, show Int.toNat ((m : Int) + 1) = m + 1 from by omega, show Int.toNat ((m : Int) + 2) = m + 1 + 1 from by omega, show Int.toNat ((m : Int) + 3) = m + 1 + 2 from by omega]
    rfl
  show sizeOf 0 (nums (cut3 s m)) = szN s m
  rw [e]
  exact size3 b1 b2 b3

/-- what reading a frame says -/
def nxE (s : ByteArray) (a : Int) : Int :=
  if 0 ≤ a ∧ a ≤ (s.size : Nat) then
    if a = (s.size : Nat) then 9 else if ¬ byteI s a = 165 then 5 else if (s.size : Int) - a < 4 then 20 else if 1048576 < szN s a then 5 else
      if (s.size : Int) - a < szN s a + 5 then 20 else if ¬ byteI s (a + 4 + szN s a) = 90 then 5 else 0
  else 2
def nxO (s : ByteArray) (a : Int) : AVal := .tup [.str (if nxE s a = 0 then cutB s (a + 4) (a + 4 + szN s a) else noTx), .int .i64 (if nxE s a = 0 then a + szN s a + 5 else a), .int .i64 (nxE s a)]
theorem nx_bad {s : ByteArray} {a e : Int} (h : nxE s a = e) (he : ¬ e = 0) : AVal.tup [.str noTx, .int .i64 a, .int .i64 e] = nxO s a := by
  rw [nxO, h, if_neg he, if_neg he]
theorem nx_ok {s : ByteArray} {a : Int} (h : nxE s a = 0) : AVal.tup [.str (cutB s (a + 4) (a + 4 + szN s a)), .int .i64 (a + szN s a + 5), .int .i64 0] = nxO s a := by
  rw [nxO, h, if_pos rfl, if_pos rfl]
structure Nx where
  s : ByteArray
  a : Int
def nxI (us : List AVal) (_ : List Blk) : Option Nx := match us with
  | [.str s, .int _ a] => some ⟨s, a⟩
  | _ => none
def nextD : CDeal Nx := ⟨fun x => [.str x.s, .int .i64 x.a], fun _ => [], fun x => decide (x.s.size ≤ 1000000000000) && (decide (-1000000000000 ≤ x.a) && decide (x.a ≤ 1000000000000)), fun x => nxO x.s x.a, fun _ => []⟩

section
variable {E : Nat → Nat → Seg} {ra : Nat → Nat → Nat × Nat} {base : Nat}

theorem nextR_gives (hE : Plain E) (x : Nx) (h : nextD.pre x = true) : Gives Try.prog E ra base 0 16 (nextD.args x) (hp 0 (nextD.blks x)) fun v h' => v = nextD.out x ∧ h' = hp 0 (nextD.blks' x) := by
  obtain ⟨s, a⟩ := x
  simp only [nextD, Bool.and_eq_true, decide_eq_true_eq] at h
  obtain ⟨p1, p2, p3⟩ := h
  refine (gives_of_tree hE (W_ok sumNone_ok noL_ok) sumNone_ok (hp_below _) (nextR_call E s a) ?_).2
  have hz := szN_in s a
  have fin : ∀ e : Int, nxE s a = e → ¬ e = 0 → ∃ v, (AExit.ret, mkT 1 [(0, AVal.tup [.str noTx, .int .i64 a, .int .i64 e])], ([] : Log)).2.1 = [v] ∧ v = nextD.out ⟨s, a⟩ ∧ ([] : Log) = hp 0 (nextD.blks' ⟨s, a⟩) := fun e h1 h2 => ⟨_, rfl, nx_bad h1 h2, rfl⟩
  rw [w_in (v := (s.size : Int) - a) ⟨by omega, by omega⟩, w_in (v := a + 1) ⟨by omega, by omega⟩, w_in (v := a + 2) ⟨by omega, by omega⟩, w_in (v := a + 3) ⟨by omega, by omega⟩, w_in (v := a + 4) ⟨by omega, by omega⟩]
  simp only [Tree.holds, decide_eq_true_eq, decide_eq_false_iff_not, Bool.and_eq_true, Bool.not_eq_true', Bool.not_eq_false']
  refine ⟨fun h => fin 2 (by rw [nxE, if_neg (by omega)]) (by decide), fun h1 => ⟨fun h => fin 2 (by rw [nxE, if_neg (by omega)]) (by decide), fun h2 => ?_⟩⟩
  rw [raw_eq (by omega) (by omega), w_in (v := szN s a + 5) ⟨by omega, by omega⟩, w_in (v := a + 4 + szN s a) ⟨by omega, by omega⟩, w_in (v := a + szN s a) ⟨by omega, by omega⟩, w_in (v := a + szN s a + 5) ⟨by omega, by omega⟩]
  have g0 : 0 ≤ a ∧ a ≤ (s.size : Nat) := by omega
  have hE0 : nxE s a = if a = (s.size : Nat) then 9 else if ¬ byteI s a = 165 then 5 else if (s.size : Int) - a < 4 then 20 else if 1048576 < szN s a then 5 else
      if (s.size : Int) - a < szN s a + 5 then 20 else if ¬ byteI s (a + 4 + szN s a) = 90 then 5 else 0 := by rw [nxE, if_pos g0]
  refine ⟨fun h => fin 9 (by rw [hE0, if_pos h]) (by decide), fun h3 => ⟨by omega, fun h => fin 5 (by rw [hE0, if_neg h3, if_pos (show ¬ byteI s a = 165 from h)]) (by decide), fun h4 => ?_⟩⟩
  have h4 : ¬ ¬ byteI s a = 165 := fun hh => hh h4
  refine ⟨fun h => fin 20 (by rw [hE0, if_neg h3, if_neg h4, if_pos h]) (by decide), fun h5 => ⟨by omega, by omega, by omega, fun h => fin 5 (by rw [hE0, if_neg h3, if_neg h4, if_neg h5, if_pos h]) (by decide), fun h6 => ?_⟩⟩
  refine ⟨fun h => fin 20 (by rw [hE0, if_neg h3, if_neg h4, if_neg h5, if_neg h6, if_pos h]) (by decide), fun h7 => ⟨by omega, fun h => fin 5 (by rw [hE0, if_neg h3, if_neg h4, if_neg h5, if_neg h6, if_neg h7, if_pos (show ¬ byteI s (a + 4 + szN s a) = 90 from h)]) (by decide), fun h8 => ?_⟩⟩
  have h8 : ¬ ¬ byteI s (a + 4 + szN s a) = 90 := fun hh => hh h8
  exact ⟨by omega, by omega, _, rfl, nx_ok (by rw [hE0, if_neg h3, if_neg h4, if_neg h5, if_neg h6, if_neg h7, if_neg h8]), rfl⟩

theorem next_gives (hE : Plain E) (x : Nx) (h : nextD.pre x = true) : Gives Try.prog E ra base 0 14 (nextD.args x) (hp 0 (nextD.blks x)) fun v h' => v = nextD.out x ∧ h' = hp 0 (nextD.blks' x) := by
  have hS := SN_ok (ra := ra) (base := base) hE
  obtain ⟨s, a⟩ := x
  simp only [nextD, Bool.and_eq_true, decide_eq_true_eq] at h
  obtain ⟨p1, p2, p3⟩ := h
  refine (gives_of_tree hE (W_ok hS noL_ok) hS (hp_below _) (next_call E s a) ?_).2
  have hz := szN_in s a
  have fin : ∀ e : Int, nxE s a = e → ¬ e = 0 → ∃ v, (AExit.ret, mkT 1 [(0, AVal.tup [.str noTx, .int .i64 a, .int .i64 e])], ([] : Log)).2.1 = [v] ∧ v = nextD.out ⟨s, a⟩ ∧ ([] : Log) = hp 0 (nextD.blks' ⟨s, a⟩) := fun e h1 h2 => ⟨_, rfl, nx_bad h1 h2, rfl⟩
  rw [w_in (v := (s.size : Int) - a) ⟨by omega, by omega⟩, w_in (v := a + 4) ⟨by omega, by omega⟩]
  simp only [Tree.holds, decide_eq_true_eq, decide_eq_false_iff_not, Bool.and_eq_true, Bool.not_eq_true', Bool.not_eq_false', decide_true, and_self, true_and]
  refine ⟨fun h1 => ⟨fun h => fin 2 (by rw [nxE, if_neg (by omega)]) (by decide), fun h2 => ?_⟩, fun h => fin 2 (by rw [nxE, if_neg (by omega)]) (by decide)⟩
  have g0 : 0 ≤ a ∧ a ≤ (s.size : Nat) := by omega
  have hE0 : nxE s a = if a = (s.size : Nat) then 9 else if ¬ byteI s a = 165 then 5 else if (s.size : Int) - a < 4 then 20 else if 1048576 < szN s a then 5 else
      if (s.size : Int) - a < szN s a + 5 then 20 else if ¬ byteI s (a + 4 + szN s a) = 90 then 5 else 0 := by rw [nxE, if_pos g0]
  refine ⟨fun h => fin 9 (by rw [hE0, if_pos (by omega)]) (by decide), fun h3 => ?_⟩
  have h3 : ¬ a = (s.size : Nat) := by omega
  refine ⟨by omega, fun h => fin 5 (by rw [hE0, if_neg h3, if_pos (show ¬ byteI s a = 165 from h)]) (by decide), fun h4 => ?_⟩
  have h4 : ¬ ¬ byteI s a = 165 := fun hh => hh h4
  refine ⟨fun h => fin 20 (by rw [hE0, if_neg h3, if_neg h4, if_pos (by omega)]) (by decide), fun h5 => ?_⟩
  have h5 : ¬ (s.size : Int) - a < 4 := by omega
  rw [size_eq (by omega) (by omega) p1, w_in (v := 4 + szN s a) ⟨by omega, by omega⟩, w_in (v := a + 4 + szN s a) ⟨by omega, by omega⟩, w_in (v := a + 4 + szN s a + 1) ⟨by omega, by omega⟩]
  refine ⟨by omega, fun h => fin 5 (by rw [hE0, if_neg h3, if_neg h4, if_neg h5, if_pos (by omega)]) (by decide), fun h6 => ?_⟩
  have h6 : ¬ 1048576 < szN s a := by omega
  refine ⟨fun h => fin 20 (by rw [hE0, if_neg h3, if_neg h4, if_neg h5, if_neg h6, if_pos (by omega)]) (by decide), fun h7 => ?_⟩
  have h7 : ¬ (s.size : Int) - a < szN s a + 5 := by omega
  refine ⟨by omega, fun h => fin 5 (by rw [hE0, if_neg h3, if_neg h4, if_neg h5, if_neg h6, if_neg h7, if_pos (show ¬ byteI s (a + 4 + szN s a) = 90 from h)]) (by decide), fun h8 => ?_⟩
  have h8 : ¬ ¬ byteI s (a + 4 + szN s a) = 90 := fun hh => hh h8
  rw [show a + 4 + szN s a + 1 = a + szN s a + 5 from by omega]
  exact ⟨by omega, by omega, _, rfl, nx_ok (by rw [hE0, if_neg h3, if_neg h4, if_neg h5, if_neg h6, if_neg h7, if_neg h8]), rfl⟩
end
end Go.Proofs.Ytbpcljkapkjheaa
