/- Codes from state to state, by their parts; numbers. -/
import Derived.Test.YtcgebafffkpmfaaE28
namespace Go.Proofs.Ytcgebafffkpmfaa.Ab

variable {P : Program} {E : Nat → Nat → Seg} {ra : Nat → Nat → Nat × Nat} {base : Nat}

theorem tk_seq {k : Nat} {c a b : Code} (hs : c = .seq a b) {ts : Tmps} {h : Log} {Q R : State → Prop} (h1 : Takes P E ra base k a ts h R) (h2 : ∀ y, R y → Then P E ra base k b Q y) : Takes P E ra base k c ts h Q := by
  subst hs; exact takes_seq (h1.mono h2)

theorem tk_next {k : Nat} {c a b : Code} (hs : c = .seq a b) {ts ts' : Tmps} {h h' : Log} {Q : State → Prop} (h1 : Takes P E ra base k a ts h fun y => y = (.normal, ts', h')) (h2 : Takes P E ra base k b ts' h' Q) : Takes P E ra base k c ts h Q := by
  refine tk_seq hs h1 ?_
  rintro y rfl
  exact h2

theorem tk_block {k id : Nat} {c a : Code} (hs : c = .block id a) {ts : Tmps} {h : Log} {Q : State → Prop} (t : Takes P E ra base k a ts h (InBlock id Q)) : Takes P E ra base k c ts h Q := by
  subst hs; exact takes_block t

theorem tk_loop {k : Nat} {c a : Code} (hs : c = .loop a) {Q : State → Prop} (I : Nat → Tmps → Log → Prop) (h0 : ∀ ts h, ¬ I 0 ts h) (round : ∀ j ts h, I (j + 1) ts h → Takes P E ra base k a ts h (Round (I j) Q)) {j : Nat} {ts : Tmps} {h : Log} (hI : I j ts h) :
    Takes P E ra base k c ts h Q := by
  subst hs; exact takes_loop I h0 round hI

theorem takes_scope {k : Nat} {a : Code} {ts : Tmps} {h : Log} {Q : State → Prop} (t : Takes P E ra base k a ts h Q) : Takes P E ra base k (.scope a) ts h Q := by
  intro ι w nb ac hf
  refine wpIn_scope (wpIn_mono (t ι w nb ac hf) ?_)
  rintro e a' w' ⟨x, ι', rfl, hx⟩
  cases hx1 : x.1 <;> exact ⟨x, ι', by rw [hx1], hx⟩

theorem takes_cond {k : Nat} {c : Operand} {a b : Code} {ts : Tmps} {h : Log} {v : Bool} (hc : evalA ts c = .bool v) {Q : State → Prop} (t : v = true → Takes P E ra base k a ts h Q) (e : v = false → Takes P E ra base k b ts h Q) : Takes P E ra base k (.cond c a b) ts h Q := by
  intro ι w nb ac hf
  have hr := evalA_sound hf.tmps c
  rw [hc] at hr
  cases hr' : ac.eval c <;> rw [hr'] at hr <;> cases hr
  cases v with
  | true => exact wpIn_cond_true hr' (t rfl ι w nb ac hf)
  | false => exact wpIn_cond_false hr' (e rfl ι w nb ac hf)

def in64 (v : Int) : Prop := -9223372036854775808 ≤ v ∧ v < 9223372036854775808

theorem wr_in {v : Int} (h : in64 v) : wr .i64 v = v := by
  obtain ⟨h1, h2⟩ := h
  show (v + 9223372036854775808) % 18446744073709551616 - 9223372036854775808 = v
  omega

theorem wr_u64 {v : Int} (h : 0 ≤ v ∧ v < 18446744073709551616) : wr .u64 v = v := by
  obtain ⟨h1, h2⟩ := h
  show v % 18446744073709551616 = v
  omega

theorem wr_u8 {v : Int} (h : 0 ≤ v ∧ v < 256) : wr .u8 v = v := by
  obtain ⟨h1, h2⟩ := h
  show v % 256 = v
  omega

theorem wr_i8 {v : Int} (h : -128 ≤ v ∧ v < 128) : wr .i8 v = v := by
  obtain ⟨h1, h2⟩ := h
  show (v + 128) % 256 - 128 = v
  omega

theorem toNat_nat (i : Nat) : (0 + Int.toNat (i : Int)) = i := by simp

theorem getD_at {α : Type} {xs : List α} {i : Nat} (h : i < xs.length) (d : α) : xs.getD i d = xs[i] := by
  rw [List.getD_eq_getElem?_getD, List.getElem?_eq_getElem h]; rfl

theorem getD_map {α β : Type} {f : α → β} {xs : List α} {i : Nat} (h : i < xs.length) (d : β) : (xs.map f).getD i d = f xs[i] := by
  simp [List.getD_eq_getElem?_getD, h]

theorem in64_of {v : Int} (h : (Lit.int .i64 v).wf = true) : in64 v := inK_of h

end Go.Proofs.Ytcgebafffkpmfaa.Ab
