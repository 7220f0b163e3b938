/- frame: plain laws: rows of frames, whole and cut, are read back; what is read is laid again. -/
import Derived.Test.YtbpcljkapkjheaaP02r
import Derived.Test.YtbpcljkapkjheaaD02b
set_option linter.unusedSimpArgs false
set_option linter.unusedVariables false
namespace Go.Proofs.Ytbpcljkapkjheaa
open Ab

def bs (s : ByteArray) : List UInt8 := s.data.toList
theorem bs_len (s : ByteArray) : (bs s).length = s.size := rfl
theorem bs_inj {s t : ByteArray} (h : bs s = bs t) : s = t := by
  cases s; cases t
  simp only [bs] at h
  rw [Array.toList_inj.1 h]
theorem bs_app (s t : ByteArray) : bs (s ++ t) = bs s ++ bs t := by
  simp only [bs, ByteArray.data_append, Array.toList_append]
theorem bs_nums (xs : List Int) : bs (strOfNums xs) = xs.map fun n => UInt8.ofNat n.toNat := by simp [bs, strOfNums]
theorem bs_ext (s : ByteArray) (a b : Nat) : bs (s.extract a b) = ((bs s).drop a).take (b - a) := by
  rw [bs, ByteArray.data_extract, Array.toList_extract, List.extract_eq_take_drop]; rfl
theorem wr8 (v : Int) : wr .u8 v = v % 256 := rfl
theorem frame_bs (t : ByteArray) : bs (frameT t) = 165 :: UInt8.ofNat (t.size / 65536 % 256) :: UInt8.ofNat (t.size / 256 % 256) :: UInt8.ofNat (t.size % 256) :: (bs t ++ [90]) := by
  rw [frameT, bs_app, bs_app, bs_nums, bs_nums]
  have e1 : (wr .u8 ((t.size : Int) / 65536)).toNat = t.size / 65536 % 256 := by rw [wr8]; omega
  have e2 : (wr .u8 ((t.size : Int) / 256)).toNat = t.size / 256 % 256 := by rw [wr8]; omega
  have e3 : (wr .u8 (t.size : Int)).toNat = t.size % 256 := by rw [wr8]; omega
  simp only [List.map_cons, List.map_nil, e1, e2, e3, List.cons_append, List.nil_append]
  rfl
theorem byte_at (s : ByteArray) (a i : Nat) : byteI s ((a : Int) + (i : Int)) = ((((bs s).drop a).getD i 0).toNat : Int) := by
  rw [byteI, show Int.toNat ((a : Int) + (i : Int)) = a + i from by omega, List.getD_eq_getElem?_getD, List.getD_eq_getElem?_getD, List.getElem?_drop]
  rfl
theorem u8_nat {n : Nat} (h : n < 256) : (UInt8.ofNat n).toNat = n := by
  rw [UInt8.toNat_ofNat']; exact Nat.mod_eq_of_lt h
theorem size_at {s : ByteArray} {a : Nat} {c0 c1 c2 c3 : UInt8} {R : List UInt8} (h : (bs s).drop a = c0 :: c1 :: c2 :: c3 :: R) :
    byteI s a = c0.toNat ∧ szN s a = c1.toNat * 65536 + c2.toNat * 256 + c3.toNat := by
  have b0 := byte_at s a 0
  have b1 := byte_at s a 1
  have b2 := byte_at s a 2
  have b3 := byte_at s a 3
  rw [h] at b0 b1 b2 b3
  have e0 : (a : Int) + ((0 : Nat) : Int) = a := by omega
  rw [e0] at b0
  refine ⟨b0, ?_⟩
  rw [szN]
  exact (by rw [show ((a : Int) + 1) = (a : Int) + ((1 : Nat) : Int) from rfl, show ((a : Int) + 2) = (a : Int) + ((2 : Nat) : Int) from rfl, show ((a : Int) + 3) = (a : Int) + ((3 : Nat) : Int) from rfl, b1, b2, b3]; rfl)
theorem len_at {s : ByteArray} {a : Nat} {X : List UInt8} (h : (bs s).drop a = X) (ha : a ≤ s.size) : s.size = a + X.length := by
  have := congrArg List.length h
  rw [List.length_drop, bs_len] at this
  omega
theorem body_at {s : ByteArray} {a : Nat} {n : Nat} (h : szN s a = n) : bs (bodyS s a) = ((bs s).drop (a + 4)).take n := by
  rw [bodyS, cutB, h, bs_ext]
  simp only [orNat]
  rw [show Int.toNat ((a : Int) + 4) = a + 4 from by omega, show Int.toNat ((a : Int) + 4 + (n : Int)) = a + 4 + n from by omega, show a + 4 + n - (a + 4) = n from by omega]
theorem three_eq {n : Nat} (h : n ≤ 1048576) : (((UInt8.ofNat (n / 65536 % 256)).toNat : Nat) : Int) * 65536 + ((UInt8.ofNat (n / 256 % 256)).toNat : Nat) * 256 + ((UInt8.ofNat (n % 256)).toNat : Nat) = (n : Int) := by
  rw [u8_nat (by omega), u8_nat (by omega), u8_nat (by omega)]; omega

theorem nx_end {s : ByteArray} {a : Nat} (h : a = s.size) : nxE s a = 9 := by
  rw [nxE, if_pos (by omega), if_pos (by omega)]

theorem nx_full {s t : ByteArray} {a : Nat} {R : List UInt8} (h : (bs s).drop a = bs (frameT t) ++ R) (ht : t.size ≤ 1048576) (ha : a ≤ s.size) : nxE s a = 0 ∧ szN s a = t.size ∧ bodyS s a = t := by
  have hl := len_at h ha
  rw [List.length_append, bs_len, frame_size] at hl
  rw [frame_bs] at h
  simp only [List.cons_append] at h
  obtain ⟨h0, h1⟩ := size_at h
  rw [three_eq ht] at h1
  have h4 : byteI s ((a : Int) + 4 + szN s a) = 90 := by
    have := byte_at s a (4 + t.size)
    rw [h1, show (a : Int) + 4 + (t.size : Int) = (a : Int) + ((4 + t.size : Nat) : Int) from by omega, this, h]
    have : (165 :: UInt8.ofNat (t.size / 65536 % 256) :: UInt8.ofNat (t.size / 256 % 256) :: UInt8.ofNat (t.size % 256) :: (bs t ++ [90] ++ R)).getD (4 + t.size) 0 = 90 := by
      rw [List.getD_eq_getElem?_getD, show 4 + t.size = t.size + 1 + 1 + 1 + 1 from by omega]
      simp only [List.getElem?_cons_succ]
      rw [List.append_assoc, List.getElem?_append_right (by rw [bs_len]; omega), bs_len, Nat.sub_self]
      rfl
    rw [this]; rfl
  have hb : bodyS s a = t := by
    refine bs_inj ?_
    rw [body_at h1]
    have e : (bs s).drop (a + 4) = ((bs s).drop a).drop 4 := by rw [List.drop_drop]
    rw [e, h]
    simp only [List.drop_succ_cons, List.drop_zero]
    rw [List.append_assoc, List.take_append_of_le_length (by rw [bs_len]; omega), List.take_of_length_le (by rw [bs_len]; omega)]
  refine ⟨?_, h1, hb⟩
  rw [nxE, if_pos (by omega), if_neg (by omega), if_neg (by rw [h0]; decide), if_neg (by omega), if_neg (by omega), if_neg (by omega), if_neg (by rw [h4]; decide)]

theorem nx_part {s t : ByteArray} {a m : Nat} (h : (bs s).drop a = (bs (frameT t)).take m) (h0 : 0 < m) (h1 : m < t.size + 5) (ht : t.size ≤ 1048576) (ha : a ≤ s.size) : nxE s a = 20 := by
  have hl := len_at h ha
  rw [List.length_take, bs_len, frame_size] at hl
  have b0 := byte_at s a 0
  have e0 : (a : Int) + ((0 : Nat) : Int) = a := by omega
  rw [e0, h, frame_bs] at b0
  obtain ⟨k, rfl⟩ : ∃ k, m = k + 1 := ⟨m - 1, by omega⟩
  have b0 : byteI s a = 165 := b0
  rw [nxE, if_pos (by omega), if_neg (by omega), if_neg (by rw [b0]; decide)]
  by_cases h4 : (s.size : Int) - a < 4
  · rw [if_pos h4]
  · rw [if_neg h4]
    obtain ⟨j, rfl⟩ : ∃ j, k = j + 3 := ⟨k - 3, by omega⟩
    rw [frame_bs] at h
    simp only [List.take_succ_cons] at h
    obtain ⟨_, g1⟩ := size_at h
    rw [three_eq ht] at g1
    rw [if_neg (by omega), if_pos (by omega)]

def catB : List ByteArray → List UInt8
  | [] => []
  | t :: M => bs (frameT t) ++ catB M
def cntR : List ByteArray → Nat → Nat
  | [], _ => 0
  | t :: M, m => if t.size + 5 ≤ m then cntR M (m - (t.size + 5)) + 1 else 0
def endR : List ByteArray → Nat → Nat
  | [], _ => 0
  | t :: M, m => if t.size + 5 ≤ m then t.size + 5 + endR M (m - (t.size + 5)) else 0
theorem endR_le : ∀ (M : List ByteArray) (m : Nat), endR M m ≤ m
  | [], _ => Nat.zero_le _
  | t :: M, m => by
    rw [endR]
    split
    · have := endR_le M (m - (t.size + 5)); omega
    · omega

theorem allF_succ (n : Nat) (s : ByteArray) (a : Int) (L : List ByteArray) : allF (n + 1) s a L = if nxE s a = 0 then allF n s (a + szN s a + 5) (L ++ [bodyS s a]) else ⟨L, a, if nxE s a = 9 then 0 else nxE s a⟩ := rfl

theorem all_cut : ∀ (M : List ByteArray) (n : Nat) (s : ByteArray) (a m : Nat) (acc : List ByteArray), (∀ t ∈ M, t.size ≤ 1048576) → (bs s).drop a = (catB M).take m → a ≤ s.size → m ≤ (catB M).length → s.size - a < n →
    allF n s a acc = ⟨acc ++ M.take (cntR M m), a + (endR M m : Nat), if endR M m = m then 0 else 20⟩
  | [], n, s, a, m, acc, _, h, ha, hm, hn => by
    obtain ⟨n, rfl⟩ : ∃ k, n = k + 1 := ⟨n - 1, by omega⟩
    have hl := len_at h ha
    have hm : m ≤ 0 := hm
    have hz : a = s.size := by rw [List.length_take] at hl; omega
    have q1 : cntR [] m = 0 := rfl
    have q2 : endR [] m = 0 := rfl
    have q3 : m = 0 := by omega
    subst q3
    rw [allF_succ, nx_end hz, if_neg (by decide), if_pos rfl, q1, q2, if_pos rfl]
    simp
  | t :: M, n, s, a, m, acc, hM, h, ha, hm, hn => by
    obtain ⟨n, rfl⟩ : ∃ k, n = k + 1 := ⟨n - 1, by omega⟩
    have ht := hM t (List.mem_cons_self ..)
    have hf : (bs (frameT t)).length = t.size + 5 := by rw [bs_len, frame_size]
    have hc : (catB (t :: M)).length = t.size + 5 + (catB M).length := by rw [catB, List.length_append, hf]
    rw [allF_succ]
    by_cases hw : t.size + 5 ≤ m
    · have h' : (bs s).drop a = bs (frameT t) ++ (catB M).take (m - (t.size + 5)) := by
        rw [h, catB, List.take_append, List.take_of_length_le (by omega), hf]
      obtain ⟨e1, e2, e3⟩ := nx_full h' ht ha
      have hl := len_at h' ha
      rw [List.length_append, hf] at hl
      rw [if_pos e1, e2, e3, show (a : Int) + (t.size : Nat) + 5 = ((a + (t.size + 5) : Nat) : Int) from by omega]
      have hd : (bs s).drop (a + (t.size + 5)) = (catB M).take (m - (t.size + 5)) := by
        rw [← List.drop_drop, h', List.drop_append, List.drop_of_length_le (by omega), hf, Nat.sub_self]; rfl
      rw [all_cut M n s (a + (t.size + 5)) (m - (t.size + 5)) (acc ++ [t]) (fun u hu => hM u (List.mem_cons_of_mem _ hu)) hd (by omega) (by omega) (by omega)]
      have q1 : cntR (t :: M) m = cntR M (m - (t.size + 5)) + 1 := by rw [cntR, if_pos hw]
      have q2 : endR (t :: M) m = t.size + 5 + endR M (m - (t.size + 5)) := by rw [endR, if_pos hw]
      have q3 : (endR M (m - (t.size + 5)) = m - (t.size + 5)) ↔ (t.size + 5 + endR M (m - (t.size + 5)) = m) := by
        have := endR_le M (m - (t.size + 5)); omega
      rw [q1, q2, List.take_succ_cons]
      simp only [q3, List.append_assoc, List.singleton_append, Al.mk.injEq, true_and]
      exact ⟨by omega, trivial⟩
    · have q1 : cntR (t :: M) m = 0 := by rw [cntR, if_neg hw]
      have q2 : endR (t :: M) m = 0 := by rw [endR, if_neg hw]
      rw [q1, q2]
      by_cases h0 : m = 0
      · subst h0
        have hl := len_at h ha
        have hl : s.size = a := by rw [List.take_zero, List.length_nil] at hl; omega
        rw [nx_end hl.symm, if_neg (by decide), if_pos rfl, if_pos rfl]
        simp
      · have h' : (bs s).drop a = (bs (frameT t)).take m := by
          rw [h, catB, List.take_append_of_le_length (by omega)]
        have e := nx_part h' (by omega) (by omega) ht ha
        rw [e, if_neg (by decide), if_neg (by decide), if_neg (by omega)]
        simp

theorem foldT_bs : ∀ (M : List ByteArray) (s : ByteArray), bs (M.foldl (fun s t => s ++ frameT t) s) = bs s ++ catB M
  | [], s => by simp [catB]
  | t :: M, s => by rw [List.foldl_cons, foldT_bs M, bs_app, catB, List.append_assoc]
theorem catT_bs (M : List ByteArray) : bs (catT M) = catB M := by
  rw [catT, foldT_bs]; rfl
theorem catT_size (M : List ByteArray) : (catT M).size = (catB M).length := by rw [← bs_len, catT_bs]
theorem catT_snoc (M : List ByteArray) (t : ByteArray) : catT (M ++ [t]) = catT M ++ frameT t := by rw [catT, List.foldl_append]; rfl
theorem cut_bs (s : ByteArray) (n : Nat) : bs (s.extract 0 n) = (bs s).take n := by rw [bs_ext, List.drop_zero, Nat.sub_zero]

/-- of a row that is cut those that are whole -/
theorem all_of_cut {M : List ByteArray} (hM : ∀ t ∈ M, t.size ≤ 1048576) {n : Nat} (hn : n ≤ (catT M).size) : allT ((catT M).extract 0 n) = ⟨M.take (cntR M n), (endR M n : Nat), if endR M n = n then 0 else 20⟩ := by
  have h : (bs ((catT M).extract 0 n)).drop 0 = (catB M).take n := by rw [List.drop_zero, cut_bs, catT_bs]
  have := all_cut M (((catT M).extract 0 n).size + 1) _ 0 n [] hM h (Nat.zero_le _) (by rw [← catT_size]; exact hn) (by omega)
  have e0 : ((0 : Nat) : Int) = 0 := rfl
  rw [e0, List.nil_append, Int.zero_add] at this
  exact this
theorem cntR_all : ∀ M : List ByteArray, cntR M (catB M).length = M.length ∧ endR M (catB M).length = (catB M).length
  | [] => ⟨rfl, rfl⟩
  | t :: M => by
    have hc : (catB (t :: M)).length = t.size + 5 + (catB M).length := by rw [catB, List.length_append, bs_len, frame_size]
    obtain ⟨h1, h2⟩ := cntR_all M
    rw [hc, cntR, endR, if_pos (by omega), if_pos (by omega), Nat.add_sub_cancel_left, h1, h2]
    exact ⟨rfl, rfl⟩
theorem all_of_cat {M : List ByteArray} (hM : ∀ t ∈ M, t.size ≤ 1048576) : allT (catT M) = ⟨M, ((catT M).size : Nat), 0⟩ := by
  have h := all_of_cut hM (Nat.le_refl _)
  have e : (catT M).extract 0 (catT M).size = catT M := bs_inj (by rw [cut_bs, ← bs_len, List.take_length])
  obtain ⟨h1, h2⟩ := cntR_all M
  rw [e, catT_size, h1, h2, if_pos rfl, List.take_length] at h
  rw [catT_size]; exact h

theorem cnt_eq : ∀ (M : List ByteArray) (b n : Int), b ≤ n → cntP (plc b M) n = cntR M (n - b).toNat
  | [], _, _, _ => rfl
  | t :: M, b, n, h => by
    rw [plc, cntP, cntR]
    by_cases hc : b + (t.size : Nat) + 5 ≤ n
    · rw [if_pos hc, if_pos (by omega), cnt_eq M _ n hc, show (n - (b + (t.size : Nat) + 5)).toNat = (n - b).toNat - (t.size + 5) from by omega]
    · rw [if_neg hc, if_neg (by omega)]
theorem end_eq : ∀ (M : List ByteArray) (b n : Int), b ≤ n → endP (plc b M) n b = b + (endR M (n - b).toNat : Nat)
  | [], _, _, _ => by simp [plc, endP, endR]
  | t :: M, b, n, h => by
    rw [plc, endP, endR]
    by_cases hc : b + (t.size : Nat) + 5 ≤ n
    · rw [if_pos hc, if_pos (by omega), end_eq M _ n hc, show (n - (b + (t.size : Nat) + 5)).toNat = (n - b).toNat - (t.size + 5) from by omega]; omega
    · rw [if_neg hc, if_neg (by omega)]; omega

/-! ### What was read is laid again -/

theorem nx_back {s : ByteArray} {a : Nat} (h : nxE s a = 0) : bs (frameT (bodyS s a)) = ((bs s).drop a).take (bodyS s a).size.succ.succ.succ.succ.succ ∧ ((bodyS s a).size : Int) = szN s a := by
  obtain ⟨z0, z1, z2, z3, z4⟩ := nx_zero h
  have hz := szN_in s a
  obtain ⟨N, hN⟩ : ∃ N : Nat, szN s a = N := ⟨(szN s a).toNat, by omega⟩
  rw [hN] at z1 z2 z4
  have hb := body_at hN
  have hlen : ((bs s).drop a).length = s.size - a := by rw [List.length_drop, bs_len]
  obtain ⟨c0, c1, c2, c3, R, hX⟩ : ∃ c0 c1 c2 c3 R, (bs s).drop a = c0 :: c1 :: c2 :: c3 :: R := by
    match hq : (bs s).drop a with
    | c0 :: c1 :: c2 :: c3 :: R => exact ⟨_, _, _, _, _, rfl⟩
    | [] | [_] | [_, _] | [_, _, _] => rw [hq] at hlen; simp only [List.length_cons, List.length_nil] at hlen; omega
  obtain ⟨g0, g1⟩ := size_at hX
  have hR : R.length = s.size - a - 4 := by rw [hX] at hlen; simp only [List.length_cons] at hlen; omega
  have e4 : (bs s).drop (a + 4) = R := by rw [← List.drop_drop, hX]; rfl
  rw [e4] at hb
  have hs : (bodyS s a).size = N := by
    have := congrArg List.length hb
    rw [bs_len, List.length_take] at this
    omega
  have h90 : R.getD N 0 = 90 := by
    have := byte_at s a (4 + N)
    rw [show (a : Int) + ((4 + N : Nat) : Int) = (a : Int) + 4 + (N : Int) from by omega, z4, hX, show 4 + N = N + 1 + 1 + 1 + 1 from by omega, List.getD_eq_getElem?_getD] at this
    simp only [List.getElem?_cons_succ] at this
    rw [← List.getD_eq_getElem?_getD] at this
    have : (R.getD N 0).toNat = 90 := by omega
    exact UInt8.toNat_inj.1 this
  have hc0 : c0 = 165 := by
    rw [z3] at g0
    exact UInt8.toNat_inj.1 (show c0.toNat = 165 by omega)
  have l1 := c1.toNat_lt
  have l2 := c2.toNat_lt
  have l3 := c3.toNat_lt
  rw [hN] at g1
  refine ⟨?_, by rw [hs, hN]⟩
  rw [frame_bs, hs, hb, hX, show N / 65536 % 256 = c1.toNat from by omega, show N / 256 % 256 = c2.toNat from by omega, show N % 256 = c3.toNat from by omega, UInt8.ofNat_toNat, UInt8.ofNat_toNat, UInt8.ofNat_toNat, hc0]
  simp only [List.take_succ_cons]
  have : R.take (N + 1) = R.take N ++ [90] := by
    rw [List.take_add_one, List.getElem?_eq_getElem (by omega)]
    rw [List.getD_eq_getElem?_getD, List.getElem?_eq_getElem (by omega)] at h90
    rw [show R[N] = 90 from h90]; rfl
  rw [this]

theorem catB_snoc : ∀ (M : List ByteArray) (t : ByteArray), catB (M ++ [t]) = catB M ++ bs (frameT t)
  | [], t => by simp [catB]
  | u :: M, t => by rw [List.cons_append, catB, catB_snoc M t, catB, List.append_assoc]
theorem all_back : ∀ (n : Nat) (s : ByteArray) (a : Nat) (acc : List ByteArray), a ≤ s.size → catB acc = (bs s).take a → (∀ t ∈ acc, t.size ≤ s.size) →
    ∃ k : Nat, (allF n s a acc).a = k ∧ k ≤ s.size ∧ catB (allF n s a acc).L = (bs s).take k ∧ ∀ t ∈ (allF n s a acc).L, t.size ≤ s.size
  | 0, s, a, acc, ha, h, hs => ⟨a, rfl, ha, h, hs⟩
  | n + 1, s, a, acc, ha, h, hs => by
    rw [allF_succ]
    by_cases he : nxE s a = 0
    · obtain ⟨z0, z1, z2, _, _⟩ := nx_zero he
      obtain ⟨e1, e2⟩ := nx_back he
      have hz := szN_in s a
      rw [if_pos he, show (a : Int) + szN s a + 5 = ((a + ((bodyS s a).size + 5) : Nat) : Int) from by omega]
      refine all_back n s _ _ (by omega) ?_ ?_
      · rw [catB_snoc, h, e1, List.take_add]
      · intro t ht
        rw [List.mem_append, List.mem_singleton] at ht
        rcases ht with ht | rfl
        · exact hs t ht
        · omega
    · rw [if_neg he]
      exact ⟨a, rfl, ha, h, hs⟩
theorem back_of {s : ByteArray} : ∃ k : Nat, (allT s).a = k ∧ k ≤ s.size ∧ catT (allT s).L = s.extract 0 k ∧ ∀ t ∈ (allT s).L, t.size ≤ s.size := by
  obtain ⟨k, h1, h2, h3, h4⟩ := all_back (s.size + 1) s 0 [] (Nat.zero_le _) rfl (fun t ht => by cases ht)
  exact ⟨k, h1, h2, bs_inj (by rw [catT_bs, cut_bs]; exact h3), h4⟩
end Go.Proofs.Ytbpcljkapkjheaa
