/- The abstract heap against the model's world: what a value, a block, a world is to the abstract ones; new blocks, stores, loads. -/
import Derived.Test.YtbpcfjhnkjobaaaE01
import Derived.CallsIn
namespace Go.Proofs.Ytbpcfjhnkjobaaa.Ab

def colAt (c : Col) (r : Nat) : AVal :=
  match c with
  | .int k xs => .int k (xs.getD r 0)
  | .bool xs => .bool (xs.getD r false)
  | .str xs => .str (xs.getD r ByteArray.empty)
  | .val xs => xs.getD r .undef

def Col.len : Col → Nat
  | .int _ xs => xs.length
  | .bool xs => xs.length
  | .str xs => xs.length
  | .val xs => xs.length

/-- the cell at a place of a block -/
def cellOf : List Seg → Nat → Option AVal
  | [], _ => none
  | s :: l, j => match Nat.ble (j + 1) (s.n * s.st) with
    | true => match s.cols[j % s.st]? with
      | some c => some (colAt c (j / s.st))
      | none => none
    | false => cellOf l (j - s.n * s.st)

def total : List Seg → Nat
  | [] => 0
  | s :: l => s.n * s.st + total l

def Seg.WF (s : Seg) : Prop := s.cols.length = s.st ∧ ∀ c ∈ s.cols, c.len = s.n
def WFs (l : List Seg) : Prop := ∀ s ∈ l, s.WF

theorem cellOf_lt {l : List Seg} {j : Nat} {v : AVal} (h : cellOf l j = some v) : j < total l := by
  induction l generalizing j with
  | nil => simp [cellOf] at h
  | cons s l ih =>
    simp only [cellOf] at h
    simp only [total]
    cases hj : Nat.ble (j + 1) (s.n * s.st) with
    | true => have := Nat.le_of_ble_eq_true hj; omega
    | false =>
      simp only [hj] at h
      have := ih h
      omega

theorem cellOf_some {l : List Seg} (hw : WFs l) {j : Nat} (h : j < total l) : ∃ v, cellOf l j = some v := by
  induction l generalizing j with
  | nil => simp [total] at h
  | cons s l ih =>
    simp only [cellOf]
    cases hj : Nat.ble (j + 1) (s.n * s.st) with
    | true =>
      have hlt := Nat.le_of_ble_eq_true hj
      have hs := (hw s (by simp)).1
      have hpos : 0 < s.st := by
        rcases Nat.eq_zero_or_pos s.st with h0 | h0
        · rw [h0] at hlt; omega
        · exact h0
      have : j % s.st < s.cols.length := by rw [hs]; exact Nat.mod_lt _ hpos
      simp [List.getElem?_eq_getElem this]
    | false =>
      simp only [total] at h
      have hn : ¬ (j + 1 ≤ s.n * s.st) := fun hle => by rw [Nat.ble_eq_true_of_le hle] at hj; cases hj
      exact ih (fun x hx => hw x (by simp [hx])) (by omega)

abbrev Inj := Nat → Option (Nat × Nat × Nat)

section
variable (E : Nat → Nat → Seg) (ra : Nat → Nat → Nat × Nat)

def RelA (ι : Inj) : AAddr → Addr → Prop
  | .own id off i st, x => ∃ b o sz, ι id = some (b, o, sz) ∧ x = ⟨b, o + off + i * st, none⟩
  | .ro tid par i c, x => x = ⟨(ra tid par).1, (ra tid par).2 + (i * (E tid par).st + c), none⟩

/-- a slice: its length, its capacity; where it begins, unless it has none -/
def RelS (ι : Inj) (a : AAddr) (len : Nat) (cap : Option Nat) (x : Addr) (cap' : Nat) : Prop :=
  len ≤ cap' ∧ (∀ c, cap = some c → cap' = c) ∧ (cap' = 0 ∨
    match a with
    | .own id off i st => ∃ b o sz, ι id = some (b, o, sz) ∧ x = ⟨b, o + off + i * st, none⟩ ∧ o + off + (i + cap') * st ≤ sz
    | .ro tid par i c => x = ⟨(ra tid par).1, (ra tid par).2 + (i * (E tid par).st + c), none⟩)

/-- a block that is numbered -/
def Named (ι : Inj) : AAddr → Prop
  | .own id _ _ _ => ∃ y, ι id = some y
  | .ro _ _ _ _ => True

mutual
inductive Rel (ι : Inj) : AVal → Value → Prop
  | undef (v : Value) : Rel ι .undef v
  | bool (b : Bool) : Rel ι (.bool b) (.bool b)
  | int (k : IntKind) (n : Int) : Rel ι (.int k n) (.int k n)
  | str (s : ByteArray) : Rel ι (.str s) (.string s)
  | nilp : Rel ι .nilp (.pointer none)
  | ptr {a : AAddr} {x : Addr} (h : RelA E ra ι a x) : Rel ι (.ptr a) (.pointer (some x))
  | nils : Rel ι .nils (.slice none 0 0)
  | slice {a : AAddr} {len : Nat} {cap : Option Nat} {x : Addr} {cap' : Nat} (h : RelS E ra ι a len cap x cap') (hn : Named ι a) : Rel ι (.slice a len cap) (.slice (some x) len cap')
  | nilf : Rel ι .nilf .nilFunc
  | fn {f : FuncId} {cs : List AVal} {vs : List Value} (h : RelL ι cs vs) : Rel ι (.fn f cs) (.func (.func f) #[] vs.toArray)
  | yld {id b o sz : Nat} (h : ι id = some (b, o, sz)) : Rel ι (.yld id) (.func (.yield b) #[] #[])
  | nili : Rel ι .nili .nilIface
  | iface {t : TypeId} {v : AVal} {x : Value} (h : Rel ι v x) : Rel ι (.iface t v) (.iface t x)
  | nilm : Rel ι .nilm (.map none)
  | mapv {id b o sz : Nat} (h : ι id = some (b, o, sz)) : Rel ι (.mapv id) (.map (some b))
  | agg {cs : List AVal} {vs : List Value} (h : RelL ι cs vs) : Rel ι (.agg cs) (.agg vs.toArray)
  | tup {cs : List AVal} {vs : List Value} (h : RelL ι cs vs) : Rel ι (.tup cs) (.tuple vs.toArray)
inductive RelL (ι : Inj) : List AVal → List Value → Prop
  | nil : RelL ι [] []
  | cons {v : AVal} {x : Value} {cs : List AVal} {vs : List Value} (h : Rel ι v x) (t : RelL ι cs vs) : RelL ι (v :: cs) (x :: vs)
end

def Ext (ι ι' : Inj) : Prop := ∀ id x, ι id = some x → ι' id = some x
end

variable {E : Nat → Nat → Seg} {ra : Nat → Nat → Nat × Nat}

theorem Ext.refl (ι : Inj) : Ext ι ι := fun _ _ h => h
theorem Ext.trans {a b c : Inj} (h : Ext a b) (k : Ext b c) : Ext a c := fun i x hx => k i x (h i x hx)

theorem RelA.mono {ι ι' : Inj} (he : Ext ι ι') {a : AAddr} {x : Addr} (h : RelA E ra ι a x) : RelA E ra ι' a x := by
  cases a with
  | own id off i st => obtain ⟨b, o, sz, h1, h2⟩ := h; exact ⟨b, o, sz, he _ _ h1, h2⟩
  | ro tid par i c => exact h

theorem RelS.mono {ι ι' : Inj} (he : Ext ι ι') {a : AAddr} {len : Nat} {cap : Option Nat} {x : Addr} {cap' : Nat} (h : RelS E ra ι a len cap x cap') : RelS E ra ι' a len cap x cap' := by
  obtain ⟨h1, h2, h3⟩ := h
  refine ⟨h1, h2, h3.imp id ?_⟩
  cases a with
  | own id off i st => rintro ⟨b, o, sz, h4, h5⟩; exact ⟨b, o, sz, he _ _ h4, h5⟩
  | ro tid par i c => exact id

theorem Named.mono {ι ι' : Inj} (he : Ext ι ι') {a : AAddr} (h : Named ι a) : Named ι' a := by
  cases a with
  | own id off i st => obtain ⟨y, hy⟩ := h; exact ⟨y, he _ _ hy⟩
  | ro tid par i c => trivial

mutual
theorem Rel.mono {ι ι' : Inj} (he : Ext ι ι') : ∀ {v : AVal} {x : Value}, Rel E ra ι v x → Rel E ra ι' v x
  | _, _, .undef v => .undef v
  | _, _, .bool b => .bool b
  | _, _, .int k n => .int k n
  | _, _, .str s => .str s
  | _, _, .nilp => .nilp
  | _, _, .ptr h => .ptr (h.mono he)
  | _, _, .nils => .nils
  | _, _, .slice h hn => .slice (h.mono he) (hn.mono he)
  | _, _, .nilf => .nilf
  | _, _, .fn h => .fn (RelL.mono he h)
  | _, _, .yld h => .yld (he _ _ h)
  | _, _, .nili => .nili
  | _, _, .iface h => .iface (Rel.mono he h)
  | _, _, .nilm => .nilm
  | _, _, .mapv h => .mapv (he _ _ h)
  | _, _, .agg h => .agg (RelL.mono he h)
  | _, _, .tup h => .tup (RelL.mono he h)
theorem RelL.mono {ι ι' : Inj} (he : Ext ι ι') : ∀ {cs : List AVal} {vs : List Value}, RelL E ra ι cs vs → RelL E ra ι' cs vs
  | _, _, .nil => .nil
  | _, _, .cons h t => .cons (Rel.mono he h) (RelL.mono he t)
end

theorem RelL.length {ι : Inj} {cs : List AVal} {vs : List Value} (h : RelL E ra ι cs vs) : vs.length = cs.length := by
  induction cs generalizing vs with
  | nil => cases h; rfl
  | cons c cs ih => cases h with | cons h t => simp [ih t]

theorem RelL.get {ι : Inj} {cs : List AVal} {vs : List Value} (h : RelL E ra ι cs vs) {i : Nat} {v : AVal} (hi : cs[i]? = some v) : ∃ x, vs[i]? = some x ∧ Rel E ra ι v x := by
  induction cs generalizing vs i with
  | nil => simp at hi
  | cons c cs ih =>
    cases h with
    | cons h t =>
      cases i with
      | zero => simp at hi; subst hi; exact ⟨_, by simp, h⟩
      | succ i => simpa using ih t (by simpa using hi)

theorem RelL.getD {ι : Inj} {cs : List AVal} {vs : List Value} (h : RelL E ra ι cs vs) (i : Nat) (u : Value) : Rel E ra ι (cs.getD i .undef) (vs.getD i u) := by
  simp only [List.getD_eq_getElem?_getD]
  cases hi : cs[i]? with
  | none => exact .undef _
  | some v => obtain ⟨x, hx, hr⟩ := h.get hi; simpa [hx] using hr

theorem RelL.set {ι : Inj} {cs : List AVal} {vs : List Value} (h : RelL E ra ι cs vs) (i : Nat) {v : AVal} {x : Value} (hx : Rel E ra ι v x) : RelL E ra ι (cs.set i v) (vs.set i x) := by
  induction cs generalizing vs i with
  | nil => cases h; exact .nil
  | cons c cs ih =>
    cases h with
    | cons h t =>
      cases i with
      | zero => exact .cons hx t
      | succ i => exact .cons h (ih t i)

theorem RelL.append {ι : Inj} {cs ds : List AVal} {vs us : List Value} (h : RelL E ra ι cs vs) (k : RelL E ra ι ds us) : RelL E ra ι (cs ++ ds) (vs ++ us) := by
  induction cs generalizing vs with
  | nil => cases h; exact k
  | cons c cs ih => cases h with | cons h t => exact .cons h (ih t)

theorem RelL.drop {ι : Inj} {cs : List AVal} {vs : List Value} (h : RelL E ra ι cs vs) (n : Nat) : RelL E ra ι (cs.drop n) (vs.drop n) := by
  induction n generalizing cs vs with
  | zero => exact h
  | succ n ih => cases h with | nil => exact .nil | cons h t => exact ih t

theorem RelL.take {ι : Inj} {cs : List AVal} {vs : List Value} (h : RelL E ra ι cs vs) (n : Nat) : RelL E ra ι (cs.take n) (vs.take n) := by
  induction n generalizing cs vs with
  | zero => exact .nil
  | succ n ih => cases h with | nil => exact .nil | cons h t => exact .cons h (ih t)

theorem RelL.replicate {ι : Inj} {v : AVal} {x : Value} (h : Rel E ra ι v x) (n : Nat) : RelL E ra ι (List.replicate n v) (List.replicate n x) := by
  induction n with
  | zero => exact .nil
  | succ n ih => exact .cons h ih

theorem RelL.of_get {ι : Inj} {cs : List AVal} {vs : List Value} (hl : vs.length = cs.length) (h : ∀ (i : Nat) (v : AVal) (x : Value), cs[i]? = some v → vs[i]? = some x → Rel E ra ι v x) : RelL E ra ι cs vs := by
  induction cs generalizing vs with
  | nil => cases vs with | nil => exact .nil | cons => simp at hl
  | cons c cs ih =>
    cases vs with
    | nil => simp at hl
    | cons x vs =>
      refine .cons (h 0 c x (by simp) (by simp)) (ih (by simpa using hl) fun i v x hi hx => h (i + 1) v x (by simpa using hi) (by simpa using hx))

/-- is a block of the world one of the heap's? -/
def Live (ι : Inj) (h : Log) (b : Nat) : Prop := ∃ id B o sz, view h id = some B ∧ ι id = some (b, o, sz)

section
variable (E : Nat → Nat → Seg) (ra : Nat → Nat → Nat × Nat) (base : Nat)
def BlkRel (ι : Inj) (w : World) (id : Nat) : Blk → Prop
  | .segs l => ∃ b o cs el fz, ι id = some (b, o, cs.size) ∧ base ≤ b ∧ w.heap[b]? = some (.cells cs el fz) ∧ (∀ j, j < cs.size → ¬ (fz.1 ≤ j ∧ j < fz.2)) ∧
      o + total l ≤ cs.size ∧ WFs l ∧ ∀ j v, cellOf l j = some v → ∃ c, cs[o + j]? = some c ∧ Rel E ra ι v c
  | .map es => ∃ b o sz ms clock, ι id = some (b, o, sz) ∧ base ≤ b ∧ w.heap[b]? = some (.map ms clock) ∧
      RelL E ra ι (es.map (·.1)) (ms.toList.map (·.key)) ∧ RelL E ra ι (es.map (·.2)) (ms.toList.map (·.val))
  | .loop ts ps assign body state pending => ∃ b o sz r, ι id = some (b, o, sz) ∧ base ≤ b ∧ w.heap[b]? = some (.loop r) ∧
      RelL E ra ι ts r.tmps.toList ∧ r.params.toList = ps ∧ r.assign = assign ∧ r.body = body ∧ r.state = state ∧ r.pending = pending

structure WRel (ι : Inj) (h : Log) (w : World) : Prop where
  dom : ∀ id x, ι id = some x → id ∈ ids h
  own : ∀ id B, view h id = some B → BlkRel E ra base ι w id B
  inj : ∀ id id' B B' x x', view h id = some B → view h id' = some B' → ι id = some x → ι id' = some x' → x.1 = x'.1 → id = id'
  le : base ≤ w.heap.size
  roLt : ∀ tid par, 0 < (E tid par).n → (ra tid par).1 < base
  roWF : ∀ tid par, (E tid par).WF
  ro : ∀ tid par j v, cellOf [E tid par] j = some v → ∃ c, w.cell? ⟨(ra tid par).1, (ra tid par).2 + j, none⟩ = some c ∧ Rel E ra ι v c

structure Keeps (ι : Inj) (h : Log) (w : World) (ι' : Inj) (h' : Log) (w' : World) : Prop where
  ext : Ext ι ι'
  os : w'.os = w.os
  tape : w'.tape = w.tape
  output : w'.output = w.output
  size : w.heap.size ≤ w'.heap.size
  block : ∀ b, b < w.heap.size → ¬ Live ι h b → w'.heap[b]? = w.heap[b]?
  live : ∀ b, b < w.heap.size → Live ι' h' b → Live ι h b
end

variable {base : Nat}

theorem Keeps.refl (ι : Inj) (h : Log) (w : World) : Keeps ι h w ι h w := ⟨.refl _, rfl, rfl, rfl, Nat.le_refl _, fun _ _ _ => rfl, fun _ _ h => h⟩

theorem Keeps.trans {ι₁ ι₂ ι₃ : Inj} {h₁ h₂ h₃ : Log} {w₁ w₂ w₃ : World} (a : Keeps ι₁ h₁ w₁ ι₂ h₂ w₂) (b : Keeps ι₂ h₂ w₂ ι₃ h₃ w₃) : Keeps ι₁ h₁ w₁ ι₃ h₃ w₃ :=
  ⟨a.ext.trans b.ext, b.os.trans a.os, b.tape.trans a.tape, b.output.trans a.output, Nat.le_trans a.size b.size,
    fun k hk hn => (b.block k (Nat.lt_of_lt_of_le hk a.size) (fun hl => hn (a.live k hk hl))).trans (a.block k hk hn),
    fun k hk hl => a.live k hk (b.live k (Nat.lt_of_lt_of_le hk a.size) hl)⟩

theorem BlkRel.at {ι : Inj} {w : World} {id : Nat} {B : Blk} (h : BlkRel E ra base ι w id B) : ∃ b o sz, ι id = some (b, o, sz) ∧ base ≤ b ∧ b < w.heap.size := by
  cases B with
  | segs l =>
    obtain ⟨b, o, cs, el, fz, h1, h2, h3, _⟩ := h
    refine ⟨b, o, _, h1, h2, ?_⟩
    rcases Nat.lt_or_ge b w.heap.size with h | h
    · exact h
    · simp [Array.getElem?_eq_none h] at h3
  | map es =>
    obtain ⟨b, o, sz, ms, c, h1, h2, h3, _⟩ := h
    refine ⟨b, o, _, h1, h2, ?_⟩
    rcases Nat.lt_or_ge b w.heap.size with h | h
    · exact h
    · simp [Array.getElem?_eq_none h] at h3
  | loop ts ps as bd s p =>
    obtain ⟨b, o, sz, r, h1, h2, h3, _⟩ := h
    refine ⟨b, o, _, h1, h2, ?_⟩
    rcases Nat.lt_or_ge b w.heap.size with h | h
    · exact h
    · simp [Array.getElem?_eq_none h] at h3

/-- A block reads as it did if its world's block, and the numbering, are as they were. -/
theorem BlkRel.mono {ι ι' : Inj} {w w' : World} {id : Nat} {B : Blk} (h : BlkRel E ra base ι w id B) (he : Ext ι ι') (hb : ∀ b o sz, ι id = some (b, o, sz) → w'.heap[b]? = w.heap[b]?) : BlkRel E ra base ι' w' id B := by
  cases B with
  | segs l =>
    obtain ⟨b, o, cs, el, fz, h1, h2, h3, h4, h5, h6, h7⟩ := h
    exact ⟨b, o, cs, el, fz, he _ _ h1, h2, by rw [hb _ _ _ h1]; exact h3, h4, h5, h6, fun j v hv => let ⟨c, hc, hr⟩ := h7 j v hv; ⟨c, hc, hr.mono he⟩⟩
  | map es =>
    obtain ⟨b, o, sz, ms, c, h1, h2, h3, h4, h5⟩ := h
    exact ⟨b, o, sz, ms, c, he _ _ h1, h2, by rw [hb _ _ _ h1]; exact h3, h4.mono he, h5.mono he⟩
  | loop ts ps as bd s p =>
    obtain ⟨b, o, sz, r, h1, h2, h3, h4, h5⟩ := h
    exact ⟨b, o, sz, r, he _ _ h1, h2, by rw [hb _ _ _ h1]; exact h3, h4.mono he, h5⟩

theorem cell?_of_heap {w w' : World} {a : Addr} (h : w'.heap[a.block]? = w.heap[a.block]?) : w'.cell? a = w.cell? a := by
  simp only [World.cell?, h]

theorem WRel.roKeep {ι ι' : Inj} {h : Log} {w w' : World} (H : WRel E ra base ι h w) (he : Ext ι ι') (hb : ∀ b, b < base → w'.heap[b]? = w.heap[b]?) :
    ∀ tid par j v, cellOf [E tid par] j = some v → ∃ c, w'.cell? ⟨(ra tid par).1, (ra tid par).2 + j, none⟩ = some c ∧ Rel E ra ι' v c := by
  intro tid par j v hv
  obtain ⟨c, hc, hr⟩ := H.ro tid par j v hv
  have hn : 0 < (E tid par).n := by
    have := cellOf_lt hv
    simp only [total, Nat.add_zero] at this
    rcases Nat.eq_zero_or_pos (E tid par).n with h0 | h0
    · rw [h0] at this; simp at this
    · exact h0
  exact ⟨c, by rw [cell?_of_heap (w := w) (hb _ (H.roLt tid par hn))]; exact hc, hr.mono he⟩

theorem Live.ge {ι : Inj} {h : Log} {w : World} (H : WRel E ra base ι h w) {b : Nat} (hl : Live ι h b) : base ≤ b := by
  obtain ⟨id, B, o, sz, h1, h2⟩ := hl
  obtain ⟨b', o', sz', h3, h4, _⟩ := (H.own id B h1).at
  rw [h2] at h3
  simp only [Option.some.injEq, Prod.mk.injEq] at h3
  omega

/-- Nothing that is abstract has turned (a draw, say). -/
theorem WRel.same {ι : Inj} {h : Log} {w w' : World} (H : WRel E ra base ι h w) (hh : w'.heap = w.heap) : WRel E ra base ι h w' :=
  ⟨H.dom, fun id B hB => (H.own id B hB).mono (.refl _) (fun _ _ _ _ => by rw [hh]), H.inj, by rw [hh]; exact H.le, H.roLt, H.roWF, H.roKeep (.refl _) (fun _ _ => by rw [hh])⟩

theorem Keeps.same (ι : Inj) (h : Log) {w w' : World} (hh : w'.heap = w.heap) (ho : w'.os = w.os) (ht : w'.tape = w.tape) (hp : w'.output = w.output) : Keeps ι h w ι h w' :=
  ⟨.refl _, ho, ht, hp, by rw [hh]; exact Nat.le_refl _, fun _ _ _ => by rw [hh], fun _ _ h => h⟩

def put (ι : Inj) (id : Nat) (x : Nat × Nat × Nat) : Inj := fun j => if j = id then some x else ι j

theorem put_ext {ι : Inj} {id : Nat} {x : Nat × Nat × Nat} (h : ι id = none) : Ext ι (put ι id x) := by
  intro j y hy
  simp only [put]
  split
  · rename_i he; subst he; rw [h] at hy; cases hy
  · exact hy

theorem WRel.fresh {ι : Inj} {h : Log} {w : World} (H : WRel E ra base ι h w) {id : Nat} (hi : id ∉ ids h) : ι id = none := by
  cases hx : ι id with
  | none => rfl
  | some x => exact absurd (H.dom id x hx) hi

theorem heap_push (w : World) (o : Obj) (b : Nat) (h : b < w.heap.size) : (w.heap.push o)[b]? = w.heap[b]? := by
  rw [Array.getElem?_push, if_neg (by omega)]

/-- A NEW BLOCK. -/
theorem WRel.alloc {ι : Inj} {h : Log} {w w' : World} (H : WRel E ra base ι h w) {id : Nat} (hi : id ∉ ids h) (o : Obj) (hw : w'.heap = w.heap.push o) (ho : w'.os = w.os) (ht : w'.tape = w.tape) (hp : w'.output = w.output)
    (B : Blk) (x : Nat × Nat) (hB : BlkRel E ra base (put ι id (w.heap.size, x)) w' id B) :
    WRel E ra base (put ι id (w.heap.size, x)) ((id, some B) :: h) w' ∧ Keeps ι h w (put ι id (w.heap.size, x)) ((id, some B) :: h) w' := by
  have hfresh := H.fresh hi
  have he := put_ext (x := (w.heap.size, x)) hfresh
  have hview : ∀ j C, view ((id, some B) :: h) j = some C → (j = id ∧ C = B) ∨ (j ≠ id ∧ view h j = some C) := by
    intro j C hC
    simp only [view] at hC
    cases hj : Nat.beq id j with
    | true =>
      have := Nat.eq_of_beq_eq_true hj
      simp only [hj, Option.some.injEq] at hC
      exact .inl ⟨this.symm, hC.symm⟩
    | false =>
      simp only [hj] at hC
      refine .inr ⟨fun e => ?_, hC⟩
      subst e; simp at hj
  have hlt : ∀ b, b < w.heap.size → w'.heap[b]? = w.heap[b]? := fun b hb => by rw [hw]; exact heap_push _ _ _ hb
  have hblk : ∀ j C y, view h j = some C → ι j = some y → y.1 < w.heap.size := by
    intro j C y hC hy
    obtain ⟨b, o, sz, h1, _, h3⟩ := (H.own j C hC).at
    rw [hy] at h1; simp only [Option.some.injEq] at h1; rw [h1]; exact h3
  refine ⟨⟨?_, ?_, ?_, ?_, H.roLt, H.roWF, H.roKeep he (fun b hb => hlt b (Nat.lt_of_lt_of_le hb H.le))⟩, ⟨he, ho, ht, hp, ?_, fun b hb _ => hlt b hb, ?_⟩⟩
  · intro j y hy
    simp only [put] at hy
    simp only [ids, List.map_cons, List.mem_cons]
    split at hy
    · rename_i e; exact .inl e
    · exact .inr (H.dom j y hy)
  · intro j C hC
    rcases hview j C hC with ⟨rfl, rfl⟩ | ⟨hne, hC⟩
    · exact hB
    · refine (H.own j C hC).mono he (fun b o sz hb => hlt b ?_)
      exact hblk j C _ hC hb
  · intro j j' C C' y y' hC hC' hy hy' hyy
    rcases hview j C hC with ⟨ej, eC⟩ | ⟨hne, kC⟩ <;> rcases hview j' C' hC' with ⟨ej', eC'⟩ | ⟨hne', kC'⟩
    · rw [ej, ej']
    · simp only [put, if_pos ej, Option.some.injEq] at hy
      simp only [put, if_neg hne'] at hy'
      have := hblk j' C' y' kC' hy'
      rw [← hy] at hyy; simp only at hyy; omega
    · simp only [put, if_pos ej', Option.some.injEq] at hy'
      simp only [put, if_neg hne] at hy
      have := hblk j C y kC hy
      rw [← hy'] at hyy; simp only at hyy; omega
    · simp only [put, if_neg hne] at hy
      simp only [put, if_neg hne'] at hy'
      exact H.inj j j' C C' y y' kC kC' hy hy' hyy
  · rw [hw, Array.size_push]; have := H.le; omega
  · rw [hw, Array.size_push]; omega
  · rintro b hb ⟨j, C, o, sz, hC, hj⟩
    rcases hview j C hC with ⟨rfl, rfl⟩ | ⟨hne, hC⟩
    · simp only [put, if_true, Option.some.injEq, Prod.mk.injEq] at hj; omega
    · simp only [put, if_neg hne] at hj; exact ⟨j, C, o, sz, hC, hj⟩

/-- A BLOCK THAT TURNS, in its own place. -/
theorem WRel.turn {ι : Inj} {h : Log} {w w' : World} (H : WRel E ra base ι h w) {id : Nat} {B B' : Blk} {b : Nat} {x : Nat × Nat} (hv : view h id = some B) (hι : ι id = some (b, x))
    (hw : ∀ k, k ≠ b → w'.heap[k]? = w.heap[k]?) (hs : w'.heap.size = w.heap.size) (ho : w'.os = w.os) (ht : w'.tape = w.tape) (hp : w'.output = w.output) (hB : BlkRel E ra base ι w' id B') :
    WRel E ra base ι ((id, some B') :: h) w' ∧ Keeps ι h w ι ((id, some B') :: h) w' := by
  have hview : ∀ j C, view ((id, some B') :: h) j = some C → (j = id ∧ C = B') ∨ (j ≠ id ∧ view h j = some C) := by
    intro j C hC
    simp only [view] at hC
    cases hj : Nat.beq id j with
    | true =>
      have := Nat.eq_of_beq_eq_true hj
      simp only [hj, Option.some.injEq] at hC
      exact .inl ⟨this.symm, hC.symm⟩
    | false =>
      simp only [hj] at hC
      refine .inr ⟨fun e => ?_, hC⟩
      subst e; simp at hj
  have hge : base ≤ b := by
    obtain ⟨b', o, sz, h1, h2, _⟩ := (H.own id B hv).at
    rw [hι] at h1; simp only [Option.some.injEq, Prod.mk.injEq] at h1; omega
  refine ⟨⟨?_, ?_, ?_, by rw [hs]; exact H.le, H.roLt, H.roWF, H.roKeep (.refl _) (fun k hk => hw k (by omega))⟩, ⟨.refl _, ho, ht, hp, by rw [hs]; exact Nat.le_refl _, ?_, ?_⟩⟩
  · intro j y hy
    simp only [ids, List.map_cons, List.mem_cons]
    exact .inr (H.dom j y hy)
  · intro j C hC
    rcases hview j C hC with ⟨rfl, rfl⟩ | ⟨hne, hC⟩
    · exact hB
    · refine (H.own j C hC).mono (.refl _) (fun b' o sz hb => hw b' ?_)
      intro e
      exact hne (H.inj j id C B _ _ hC hv hb hι e)
  · intro j j' C C' y y' hC hC' hy hy' hyy
    rcases hview j C hC with ⟨ej, eC⟩ | ⟨hne, kC⟩ <;> rcases hview j' C' hC' with ⟨ej', eC'⟩ | ⟨hne', kC'⟩
    · rw [ej, ej']
    · rw [ej] at hy ⊢; exact H.inj _ _ B C' y y' hv kC' hy hy' hyy
    · rw [ej'] at hy' ⊢; exact H.inj _ _ C B y y' kC hv hy hy' hyy
    · exact H.inj j j' C C' y y' kC kC' hy hy' hyy
  · intro k hk hn
    refine hw k (fun e => hn ?_)
    exact ⟨id, B, x.1, x.2, hv, by rw [hι, e]⟩
  · rintro k hk ⟨j, C, o, sz, hC, hj⟩
    rcases hview j C hC with ⟨rfl, rfl⟩ | ⟨hne, hC⟩
    · exact ⟨j, B, o, sz, hv, hj⟩
    · exact ⟨j, C, o, sz, hC, hj⟩

/-- A block is given up. -/
theorem WRel.drop {ι : Inj} {h : Log} {w : World} (H : WRel E ra base ι h w) (id : Nat) : WRel E ra base ι ((id, none) :: h) w ∧ Keeps ι h w ι ((id, none) :: h) w := by
  have hview : ∀ j C, view ((id, none) :: h) j = some C → view h j = some C := by
    intro j C hC
    simp only [view] at hC
    cases hj : Nat.beq id j with
    | true => simp [hj] at hC
    | false => simpa [hj] using hC
  refine ⟨⟨fun j y hy => ?_, fun j C hC => H.own j C (hview j C hC), fun j j' C C' y y' hC hC' => H.inj j j' C C' y y' (hview j C hC) (hview j' C' hC'), H.le, H.roLt, H.roWF, H.ro⟩, ⟨.refl _, rfl, rfl, rfl, Nat.le_refl _, fun _ _ _ => rfl, ?_⟩⟩
  · simp only [ids, List.map_cons, List.mem_cons]
    exact .inr (H.dom j y hy)
  · rintro b _ ⟨j, C, o, sz, hC, hj⟩
    exact ⟨j, C, o, sz, hview j C hC, hj⟩

/-- A block is given up, and its cells are another one's. -/
theorem WRel.take {ι : Inj} {h : Log} {w w' : World} (H : WRel E ra base ι h w) {id id' : Nat} {B B' : Blk} {b : Nat} {x y : Nat × Nat} (hv : view h id = some B) (hι : ι id = some (b, x)) (hi : id' ∉ ids h)
    (hw : ∀ k, k ≠ b → w'.heap[k]? = w.heap[k]?) (hs : w'.heap.size = w.heap.size) (ho : w'.os = w.os) (ht : w'.tape = w.tape) (hp : w'.output = w.output) (hB : BlkRel E ra base (put ι id' (b, y)) w' id' B') :
    WRel E ra base (put ι id' (b, y)) ((id', some B') :: (id, none) :: h) w' ∧ Keeps ι h w (put ι id' (b, y)) ((id', some B') :: (id, none) :: h) w' := by
  have hfresh := H.fresh hi
  have he := put_ext (x := (b, y)) hfresh
  have hview : ∀ j C, view ((id', some B') :: (id, none) :: h) j = some C → (j = id' ∧ C = B') ∨ (j ≠ id' ∧ j ≠ id ∧ view h j = some C) := by
    intro j C hC
    simp only [view] at hC
    cases hj : Nat.beq id' j with
    | true =>
      have := Nat.eq_of_beq_eq_true hj
      simp only [hj, Option.some.injEq] at hC
      exact .inl ⟨this.symm, hC.symm⟩
    | false =>
      simp only [hj] at hC
      cases hj2 : Nat.beq id j with
      | true => simp [hj2] at hC
      | false =>
        simp only [hj2] at hC
        refine .inr ⟨fun e => ?_, fun e => ?_, hC⟩
        · subst e; simp at hj
        · subst e; simp at hj2
  have hge : base ≤ b ∧ b < w.heap.size := by
    obtain ⟨b', o, sz, h1, h2, h3⟩ := (H.own id B hv).at
    rw [hι] at h1; simp only [Option.some.injEq, Prod.mk.injEq] at h1; omega
  refine ⟨⟨?_, ?_, ?_, by rw [hs]; exact H.le, H.roLt, H.roWF, H.roKeep he (fun k hk => hw k (by omega))⟩, ⟨he, ho, ht, hp, by rw [hs]; exact Nat.le_refl _, ?_, ?_⟩⟩
  · intro j z hz
    simp only [put] at hz
    simp only [ids, List.map_cons, List.mem_cons]
    split at hz
    · rename_i e; exact .inl e
    · exact .inr (.inr (H.dom j z hz))
  · intro j C hC
    rcases hview j C hC with ⟨rfl, rfl⟩ | ⟨hne, hne2, hC⟩
    · exact hB
    · refine (H.own j C hC).mono he (fun b' o sz hb => hw b' ?_)
      intro e
      exact hne2 (H.inj j id C B _ _ hC hv hb hι e)
  · intro j j' C C' z z' hC hC' hz hz' hzz
    rcases hview j C hC with ⟨ej, eC⟩ | ⟨hne, hne2, kC⟩ <;> rcases hview j' C' hC' with ⟨ej', eC'⟩ | ⟨hne', hne2', kC'⟩
    · rw [ej, ej']
    · simp only [put, if_pos ej, Option.some.injEq] at hz
      simp only [put, if_neg hne'] at hz'
      refine absurd (H.inj j' id C' B z' (b, x) kC' hv hz' hι ?_) hne2'
      rw [← hzz, ← hz]
    · simp only [put, if_pos ej', Option.some.injEq] at hz'
      simp only [put, if_neg hne] at hz
      refine absurd (H.inj j id C B z (b, x) kC hv hz hι ?_) hne2
      rw [hzz, ← hz']
    · simp only [put, if_neg hne] at hz
      simp only [put, if_neg hne'] at hz'
      exact H.inj j j' C C' z z' kC kC' hz hz' hzz
  · intro k hk hn
    refine hw k (fun e => hn ?_)
    exact ⟨id, B, x.1, x.2, hv, by rw [hι, e]⟩
  · rintro k hk ⟨j, C, o, sz, hC, hj⟩
    rcases hview j C hC with ⟨rfl, rfl⟩ | ⟨hne, hne2, hC⟩
    · simp only [put, if_true, Option.some.injEq, Prod.mk.injEq] at hj
      exact ⟨id, B, x.1, x.2, hv, by rw [hι, hj.1]⟩
    · simp only [put, if_neg hne] at hj; exact ⟨j, C, o, sz, hC, hj⟩

end Go.Proofs.Ytbpcfjhnkjobaaa.Ab
