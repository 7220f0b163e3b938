/- net: what is on the way, plainly. -/
import Derived.Test.YtohdkgdaccoohaaP19a
import Derived.Test.YtohdkgdaccoohaaD19b
set_option linter.unusedSimpArgs false
namespace Go.Proofs.Ytohdkgdaccoohaa
open Ab

/-- the texts on their way -/
def Nt.live (y : Nt) : List ByteArray := y.xs.take y.n

theorem live_len {y : Nt} (h : y.n ≤ y.xs.length) : y.live.length = y.n := by rw [Nt.live, List.length_take]; omega

theorem live_send {y : Nt} (h : y.n < y.xs.length) (t : ByteArray) : (⟨y.n + 1, putS y.xs y.n t, y.s + 1, y.l⟩ : Nt).live = y.live ++ [t] := by
  simp only [Nt.live, putS]
  rw [List.take_append, List.length_take, Nat.min_eq_left (Nat.le_of_lt h), List.take_take]
  have : y.n + 1 - y.n = 1 := by omega
  rw [this, Nat.min_eq_right (by omega : y.n ≤ y.n + 1)]
  rfl

theorem live_shut {xs : List ByteArray} {n k : Nat} (h : k < n) (h' : n ≤ xs.length) : (shut xs n k).take (n - 1) = (xs.take n).eraseIdx k := by
  rw [List.eraseIdx_eq_take_drop_succ, shut, List.take_take, Nat.min_eq_left (by omega), List.take_append, List.length_take, Nat.min_eq_left (by omega), List.take_take, Nat.min_eq_right (by omega)]
  congr 1
  rw [List.take_append, List.length_take, List.length_drop, Nat.min_eq_left (by omega)]
  have e1 : n - 1 - k - (n - (k + 1)) = 0 := by omega
  rw [e1, List.take_zero, List.append_nil, List.take_take, Nat.min_eq_right (by omega), List.drop_take]

theorem live_copy {y : Nt} (h : y.n ≤ y.xs.length) : y.copy.live = y.live := by
  simp only [Nt.live, Nt.copy]
  rw [List.take_append, List.length_take, Nat.min_eq_left h, Nat.sub_self, List.take_zero, List.append_nil, List.take_take, Nat.min_self]

theorem live_get {y : Nt} (h : y.n ≤ y.xs.length) {k : Nat} (hk : k < y.n) : y.xs.getD k noTx = y.live[k]'(by rw [live_len h]; exact hk) := by
  rw [getD_at (by omega)]
  exact List.getElem_take.symm

theorem count_erase {α : Type} (p : α → Bool) (l : List α) {k : Nat} (h : k < l.length) : (l.eraseIdx k).countP p + (if p l[k] = true then 1 else 0) = l.countP p := by
  have e : l = l.take k ++ l[k] :: l.drop (k + 1) := by simp
  have e2 : l.countP p = (l.take k ++ l[k] :: l.drop (k + 1)).countP p := congrArg _ e
  rw [List.eraseIdx_eq_take_drop_succ, e2, List.countP_append, List.countP_append, List.countP_cons]
  omega

/-- a text of one byte -/
def tx (b : Nat) : ByteArray := ⟨⟨[UInt8.ofNat b]⟩⟩
theorem tx_inj {a b : Nat} (ha : a < 256) (hb : b < 256) (h : tx a = tx b) : a = b := by
  simp only [tx, ByteArray.mk.injEq, Array.mk.injEq, List.cons.injEq, and_true] at h
  have := congrArg UInt8.toNat h
  simpa [UInt8.toNat_ofNat', Nat.mod_eq_of_lt ha, Nat.mod_eq_of_lt hb] using this
def cntB (y : Nt) (b : Nat) : Nat := y.live.countP fun t => decide (t = tx b)

end Go.Proofs.Ytohdkgdaccoohaa
