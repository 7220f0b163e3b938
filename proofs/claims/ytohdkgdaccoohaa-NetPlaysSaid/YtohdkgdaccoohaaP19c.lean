/- net: NetKeeps: what holds between the acts, plainly. -/
import Derived.Test.YtohdkgdaccoohaaP19b
import Derived.Test.YtohdkgdaccoohaaD19c
set_option linter.unusedSimpArgs false
set_option linter.unusedVariables false
namespace Go.Proofs.Ytohdkgdaccoohaa
open Ab

structure Iv (y : Nt) (th : List Int) (s d : Int) (i : Nat) : Prop where
  n_le : y.n ≤ y.xs.length
  len4 : 4 ≤ y.xs.length
  len64 : y.xs.length ≤ 64
  l0 : 0 ≤ y.l
  li : y.l ≤ i
  d0 : 0 ≤ d
  si : s ≤ i
  ys : y.s = s
  sm : s = d + y.l + y.n
  thl : th.length = 201
  live : ∀ t ∈ y.live, ∃ b, b < 200 ∧ t = tx b
  cnt : ∀ b, b < 201 → ((cntB y b : Nat) : Int) ≤ th.getD b 0 ∧ th.getD b 0 ≤ i

theorem byteB_iff {t : ByteArray} : byteB t = true ↔ ∃ b, b < 200 ∧ t = tx b := by
  simp only [byteB, List.any_eq_true, List.mem_range, decide_eq_true_eq]; rfl
theorem iv_iff {y : Nt} {th : List Int} {s d : Int} {i : Nat} : invB y th s d i = true ↔ Iv y th s d i := by
  simp only [invB, Bool.and_eq_true, decide_eq_true_eq, List.all_eq_true, List.mem_range]
  constructor
  · rintro ⟨h1, h2, h3, h4, h5, h6, h7, h8, h9, h10, h11, h12⟩
    exact ⟨h1, h2, h3, h4, h5, h6, h7, h8, h9, h10, fun t ht => byteB_iff.1 (h11 t ht), fun b hb => h12 b hb⟩
  · rintro ⟨h1, h2, h3, h4, h5, h6, h7, h8, h9, h10, h11, h12⟩
    exact ⟨h1, h2, h3, h4, h5, h6, h7, h8, h9, h10, fun t ht => byteB_iff.2 (h11 t ht), fun b hb => h12 b hb⟩

theorem Iv.ok {y : Nt} {th : List Int} {s d : Int} {i : Nat} (h : Iv y th s d i) (hi : i ≤ 1000) : okNt y = true := by
  have := h.sm
  have := h.d0
  have := h.si
  have := h.l0
  have := h.li
  have := h.ys
  exact okNt_iff.2 ⟨h.n_le, h.len64, h.len4, by omega, by omega, h.l0, by omega⟩
theorem Iv.mono {y : Nt} {th : List Int} {s d : Int} {i : Nat} (h : Iv y th s d i) : Iv y th s d (i + 1) := by
  obtain ⟨h1, h2, h3, h4, h5, h6, h7, h8, h9, h10, h11, h12⟩ := h
  refine ⟨h1, h2, h3, h4, by omega, h6, by omega, h8, h9, h10, h11, fun b hb => ?_⟩
  have := h12 b hb
  omega
theorem set_getD {th : List Int} {b c : Nat} (hc : c < th.length) (v : Int) : (th.set c v).getD b 0 = if b = c then v else th.getD b 0 := by
  rw [List.getD_eq_getElem?_getD, List.getElem?_set, List.getD_eq_getElem?_getD]
  by_cases h : c = b
  · subst h; simp [hc]
  · rw [if_neg h, if_neg (fun hh => h hh.symm)]

theorem Iv.send {y : Nt} {th : List Int} {s d : Int} {i : Nat} (h : Iv y th s d i) {b : Nat} (hb : b < 200) (hr : y.n < y.xs.length) :
    Iv ⟨y.n + 1, putS y.xs y.n (tx b), y.s + 1, y.l⟩ (th.set b (th.getD b 0 + 1)) (s + 1) d (i + 1) := by
  obtain ⟨h1, h2, h3, h4, h5, h6, h7, h8, h9, h10, h11, h12⟩ := h
  have hl := putS_len hr (tx b)
  have hlive := live_send hr (tx b)
  refine ⟨by simp only; omega, by simp only; omega, by simp only; omega, h4, by simp only; omega, h6, by omega, by simp only; omega, by simp only; omega, by rw [List.length_set]; exact h10, fun t ht => ?_, fun c hc => ?_⟩
  · rw [hlive, List.mem_append, List.mem_singleton] at ht
    rcases ht with ht | rfl
    · exact h11 t ht
    · exact ⟨b, hb, rfl⟩
  · have := h12 c hc
    have := h12 b (by omega)
    have e : cntB ⟨y.n + 1, putS y.xs y.n (tx b), y.s + 1, y.l⟩ c = cntB y c + if tx b = tx c then 1 else 0 := by
      rw [cntB, hlive, List.countP_append]
      simp [cntB, List.countP_cons]
    rw [set_getD (by omega), e]
    by_cases hbc : c = b
    · subst hbc; rw [if_pos rfl, if_pos rfl]; omega
    · rw [if_neg hbc, if_neg (fun hh => hbc (tx_inj (by omega) (by omega) hh.symm))]; omega
theorem Iv.full {y : Nt} {th : List Int} {s d : Int} {i : Nat} (h : Iv y th s d i) (hr : ¬ y.n < y.xs.length) : Iv ⟨y.n, y.xs, y.s + 1, y.l + 1⟩ th (s + 1) d (i + 1) := by
  obtain ⟨h1, h2, h3, h4, h5, h6, h7, h8, h9, h10, h11, h12⟩ := h
  refine ⟨h1, h2, h3, by simp only; omega, by simp only; omega, h6, by omega, by simp only; omega, by simp only; omega, h10, h11, fun b hb => ?_⟩
  have := h12 b hb
  have e : cntB ⟨y.n, y.xs, y.s + 1, y.l + 1⟩ b = cntB y b := rfl
  rw [e]; omega

/-- the text at a place -/
theorem Iv.at {y : Nt} {th : List Int} {s d : Int} {i : Nat} (h : Iv y th s d i) {k : Nat} (hk : k < y.n) : ∃ b, b < 200 ∧ y.xs.getD k noTx = tx b ∧ 1 ≤ th.getD b 0 := by
  have hl : k < y.live.length := by rw [live_len h.n_le]; exact hk
  obtain ⟨b, hb, e⟩ := h.live _ (List.getElem_mem hl)
  refine ⟨b, hb, (live_get h.n_le hk).trans e, ?_⟩
  have h1 := (h.cnt b (by omega)).1
  have h2 : 0 < cntB y b := by
    rw [cntB, List.countP_pos_iff]
    exact ⟨_, List.getElem_mem hl, decide_eq_true e⟩
  omega
theorem erase_all {y : Nt} (h : y.n ≤ y.xs.length) {k : Nat} (hk : k < y.n) (s l : Int) : (⟨y.n - 1, shut y.xs y.n k, s, l⟩ : Nt).live = y.live.eraseIdx k := live_shut hk h
theorem Iv.del {y : Nt} {th : List Int} {s d : Int} {i : Nat} (h : Iv y th s d i) {k : Nat} (hk : k < y.n) {b : Nat} (hb : b < 200) (hx : y.xs.getD k noTx = tx b) :
    Iv ⟨y.n - 1, shut y.xs y.n k, y.s, y.l⟩ (th.set b (th.getD b 0 - 1)) s (d + 1) (i + 1) := by
  obtain ⟨h1, h2, h3, h4, h5, h6, h7, h8, h9, h10, h11, h12⟩ := h
  have hl := shut_len hk h1
  have hlive := erase_all h1 hk y.s y.l
  have hkl : k < y.live.length := by rw [live_len h1]; exact hk
  have hxk : y.live[k] = tx b := by rw [← live_get h1 hk]; exact hx
  refine ⟨by simp only; omega, by simp only; omega, by simp only; omega, h4, by simp only; omega, by omega, by omega, h8, by simp only; omega, by rw [List.length_set]; exact h10, fun t ht => ?_, fun c hc => ?_⟩
  · rw [hlive] at ht
    exact h11 t (List.mem_of_mem_eraseIdx ht)
  · have := h12 c hc
    have e : cntB ⟨y.n - 1, shut y.xs y.n k, y.s, y.l⟩ c + (if tx b = tx c then 1 else 0) = cntB y c := by
      have := count_erase (fun t => decide (t = tx c)) y.live hkl
      rw [cntB, hlive]
      rw [hxk] at this
      simpa [cntB] using this
    rw [set_getD (by omega)]
    by_cases hbc : c = b
    · subst hbc; rw [if_pos rfl] at e ⊢; omega
    · rw [if_neg (fun hh => hbc (tx_inj (by omega) (by omega) hh.symm))] at e
      rw [if_neg hbc]; omega
theorem Iv.lose {y : Nt} {th : List Int} {s d : Int} {i : Nat} (h : Iv y th s d i) {k : Nat} (hk : k < y.n) : Iv ⟨y.n - 1, shut y.xs y.n k, y.s, y.l + 1⟩ th s d (i + 1) := by
  obtain ⟨h1, h2, h3, h4, h5, h6, h7, h8, h9, h10, h11, h12⟩ := h
  have hl := shut_len hk h1
  have hlive := erase_all h1 hk y.s (y.l + 1)
  have hkl : k < y.live.length := by rw [live_len h1]; exact hk
  refine ⟨by simp only; omega, by simp only; omega, by simp only; omega, by simp only; omega, by simp only; omega, h6, by omega, h8, by simp only; omega, h10, fun t ht => ?_, fun c hc => ?_⟩
  · rw [hlive] at ht
    exact h11 t (List.mem_of_mem_eraseIdx ht)
  · have := h12 c hc
    have e : cntB ⟨y.n - 1, shut y.xs y.n k, y.s, y.l + 1⟩ c + (if decide (y.live[k] = tx c) = true then 1 else 0) = cntB y c := by
      have := count_erase (fun t => decide (t = tx c)) y.live hkl
      rw [cntB, hlive]
      exact this
    omega
theorem byte_tx {b : Nat} (h : b < 256) : byteOf (tx b) = b := by
  show (UInt8.ofNat b).toNat = b
  rw [UInt8.toNat_ofNat', Nat.mod_eq_of_lt h]
end Go.Proofs.Ytohdkgdaccoohaa
