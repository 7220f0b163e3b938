/- Names of blocks: a run at a small heap of its own is a run at any heap that holds the like under other names; what is made and given up on the way is forgotten. -/
import Derived.Test.YtcgebafffkpmfaaE19
namespace Go.Proofs.Ytcgebafffkpmfaa.Ab

variable {P : Program} {E : Nat → Nat → Seg} {ra : Nat → Nat → Nat × Nat} {base : Nat} {S : Sums} {X : Exts} {R : Walk}

def renA (τ : Nat → Nat) : AAddr → AAddr
  | .own id off i st => .own (τ id) off i st
  | .ro tid par i c => .ro tid par i c

mutual
def renV (τ : Nat → Nat) : AVal → AVal
  | .undef => .undef
  | .bool b => .bool b
  | .int k n => .int k n
  | .str s => .str s
  | .nilp => .nilp
  | .ptr a => .ptr (renA τ a)
  | .nils => .nils
  | .slice a l c => .slice (renA τ a) l c
  | .nilf => .nilf
  | .fn f cs => .fn f (renL τ cs)
  | .yld id => .yld (τ id)
  | .nili => .nili
  | .iface t v => .iface t (renV τ v)
  | .nilm => .nilm
  | .mapv id => .mapv (τ id)
  | .agg cs => .agg (renL τ cs)
  | .tup cs => .tup (renL τ cs)
def renL (τ : Nat → Nat) : List AVal → List AVal
  | [] => []
  | v :: l => renV τ v :: renL τ l
end

def usesA (p : Nat → Bool) : AAddr → Bool
  | .own id _ _ _ => p id
  | .ro _ _ _ _ => true

mutual
def usesV (p : Nat → Bool) : AVal → Bool
  | .undef => true
  | .bool _ => true
  | .int _ _ => true
  | .str _ => true
  | .nilp => true
  | .ptr a => usesA p a
  | .nils => true
  | .slice a _ _ => usesA p a
  | .nilf => true
  | .fn _ cs => usesL p cs
  | .yld id => p id
  | .nili => true
  | .iface _ v => usesV p v
  | .nilm => true
  | .mapv id => p id
  | .agg cs => usesL p cs
  | .tup cs => usesL p cs
def usesL (p : Nat → Bool) : List AVal → Bool
  | [] => true
  | v :: l => usesV p v && usesL p l
end

def renC (τ : Nat → Nat) : Col → Col
  | .val xs => .val (renL τ xs)
  | c => c
def renS (τ : Nat → Nat) (s : Seg) : Seg := { s with cols := s.cols.map (renC τ) }
def renB (τ : Nat → Nat) : Blk → Blk
  | .segs l => .segs (l.map (renS τ))
  | .map es => .map (es.map fun e => (renV τ e.1, renV τ e.2))
  | .loop ts ps as bd st pe => .loop (renL τ ts) ps as bd st pe

def usesC (p : Nat → Bool) : Col → Bool
  | .val xs => usesL p xs
  | _ => true
def usesB (p : Nat → Bool) : Blk → Bool
  | .segs l => l.all fun s => s.cols.all (usesC p)
  | .map _ => false
  | .loop ts _ _ _ _ _ => usesL p ts

/-! ### Values -/

/-- The new names stand for what the old ones stood for. -/
def Names (p : Nat → Bool) (τ : Nat → Nat) (ι ι' : Inj) : Prop := ∀ id y, p id = true → ι id = some y → ι' (τ id) = some y

theorem relA_ren {p : Nat → Bool} {τ : Nat → Nat} {ι ι' : Inj} (hn : Names p τ ι ι') {a : AAddr} {x : Addr} (hu : usesA p a = true) (h : RelA E ra ι a x) : RelA E ra ι' (renA τ a) x := by
  cases a with
  | own id off i st => obtain ⟨b, o, sz, h1, h2⟩ := h; exact ⟨b, o, sz, hn _ _ hu h1, h2⟩
  | ro tid par i c => exact h

theorem named_ren {p : Nat → Bool} {τ : Nat → Nat} {ι ι' : Inj} (hn : Names p τ ι ι') {a : AAddr} (hu : usesA p a = true) (h : Named ι a) : Named ι' (renA τ a) := by
  cases a with
  | own id off i st => obtain ⟨y, h1⟩ := h; exact ⟨y, hn _ _ hu h1⟩
  | ro tid par i c => exact h

theorem relS_ren {p : Nat → Bool} {τ : Nat → Nat} {ι ι' : Inj} (hn : Names p τ ι ι') {a : AAddr} {len : Nat} {cap : Option Nat} {x : Addr} {cap' : Nat} (hu : usesA p a = true) (h : RelS E ra ι a len cap x cap') : RelS E ra ι' (renA τ a) len cap x cap' := by
  obtain ⟨h1, h2, h3⟩ := h
  refine ⟨h1, h2, h3.imp id ?_⟩
  cases a with
  | own id off i st => rintro ⟨b, o, sz, h4, h5⟩; exact ⟨b, o, sz, hn _ _ hu h4, h5⟩
  | ro tid par i c => exact id

mutual
theorem rel_ren {p : Nat → Bool} {τ : Nat → Nat} {ι ι' : Inj} (hn : Names p τ ι ι') : ∀ {v : AVal} {x : Value}, usesV p v = true → Rel E ra ι v x → Rel E ra ι' (renV τ v) x
  | .undef, _, _, .undef v => by rw [renV]; exact .undef v
  | .bool _, _, _, .bool b => by rw [renV]; exact .bool b
  | .int _ _, _, _, .int k n => by rw [renV]; exact .int k n
  | .str _, _, _, .str s => by rw [renV]; exact .str s
  | .nilp, _, _, .nilp => by rw [renV]; exact .nilp
  | .ptr _, _, hu, .ptr h => by rw [renV]; rw [usesV] at hu; exact .ptr (relA_ren hn hu h)
  | .nils, _, _, .nils => by rw [renV]; exact .nils
  | .slice _ _ _, _, hu, .slice h hN => by rw [renV]; rw [usesV] at hu; exact .slice (relS_ren hn hu h) (named_ren hn hu hN)
  | .nilf, _, _, .nilf => by rw [renV]; exact .nilf
  | .fn _ _, _, hu, .fn h => by rw [renV]; rw [usesV] at hu; exact .fn (relL_ren hn hu h)
  | .yld _, _, hu, .yld h => by rw [renV]; rw [usesV] at hu; exact .yld (hn _ _ hu h)
  | .nili, _, _, .nili => by rw [renV]; exact .nili
  | .iface _ _, _, hu, .iface h => by rw [renV]; rw [usesV] at hu; exact .iface (rel_ren hn hu h)
  | .nilm, _, _, .nilm => by rw [renV]; exact .nilm
  | .mapv _, _, hu, .mapv h => by rw [renV]; rw [usesV] at hu; exact .mapv (hn _ _ hu h)
  | .agg _, _, hu, .agg h => by rw [renV]; rw [usesV] at hu; exact .agg (relL_ren hn hu h)
  | .tup _, _, hu, .tup h => by rw [renV]; rw [usesV] at hu; exact .tup (relL_ren hn hu h)
theorem relL_ren {p : Nat → Bool} {τ : Nat → Nat} {ι ι' : Inj} (hn : Names p τ ι ι') : ∀ {cs : List AVal} {vs : List Value}, usesL p cs = true → RelL E ra ι cs vs → RelL E ra ι' (renL τ cs) vs
  | [], _, _, .nil => by rw [renL]; exact .nil
  | _ :: _, _, hu, .cons h t => by
    rw [renL]; rw [usesL, Bool.and_eq_true] at hu
    exact .cons (rel_ren hn hu.1 h) (relL_ren hn hu.2 t)
end

theorem colAt_ren (τ : Nat → Nat) (c : Col) (r : Nat) : colAt (renC τ c) r = renV τ (colAt c r) := by
  cases c with
  | int k xs => simp only [renC, colAt, renV]
  | bool xs => simp only [renC, colAt, renV]
  | str xs => simp only [renC, colAt, renV]
  | val xs =>
    simp only [renC, colAt]
    induction xs generalizing r with
    | nil => simp [renL, renV]
    | cons x xs ih => cases r with
      | zero => simp [renL]
      | succ r => simpa [renL] using ih r
  | subs t ns bs =>
    simp only [renC, colAt]
    cases bs.getD r true <;> simp [renV, renA]

theorem cellOf_ren (τ : Nat → Nat) : ∀ (l : List Seg) (j : Nat), cellOf (l.map (renS τ)) j = (cellOf l j).map (renV τ)
  | [], j => rfl
  | s :: l, j => by
    simp only [List.map_cons, cellOf, renS]
    cases Nat.ble (j + 1) (s.n * s.st) with
    | true =>
      simp only [List.getElem?_map]
      cases s.cols[j % s.st]? with
      | none => rfl
      | some c => simp only [Option.map_some, colAt_ren]
    | false => exact cellOf_ren τ l _

theorem usesL_get {p : Nat → Bool} : ∀ {l : List AVal} {v : AVal}, usesL p l = true → v ∈ l → usesV p v = true
  | x :: l, v, h, hm => by
    rw [usesL, Bool.and_eq_true] at h
    rcases List.mem_cons.1 hm with rfl | hm
    · exact h.1
    · exact usesL_get h.2 hm

theorem uses_col {p : Nat → Bool} {c : Col} (h : usesC p c = true) (r : Nat) : usesV p (colAt c r) = true := by
  cases c with
  | int k xs => simp [colAt, usesV]
  | bool xs => simp [colAt, usesV]
  | str xs => simp [colAt, usesV]
  | val xs =>
    simp only [colAt, List.getD_eq_getElem?_getD]
    cases hr : xs[r]? with
    | none => simp [usesV]
    | some v => exact usesL_get h (List.mem_of_getElem? hr)
  | subs t ns bs =>
    simp only [colAt]
    cases bs.getD r true <;> simp [usesV, usesA]

theorem uses_cell {p : Nat → Bool} : ∀ {l : List Seg} {j : Nat} {v : AVal}, (l.all fun s => s.cols.all (usesC p)) = true → cellOf l j = some v → usesV p v = true
  | s :: l, j, v, hu, h => by
    simp only [List.all_cons, Bool.and_eq_true] at hu
    simp only [cellOf] at h
    cases hb : Nat.ble (j + 1) (s.n * s.st) with
    | true =>
      simp only [hb] at h
      cases hc : s.cols[j % s.st]? with
      | none => simp [hc] at h
      | some c =>
        simp only [hc, Option.some.injEq] at h
        subst h
        exact uses_col (List.all_eq_true.1 hu.1 c (List.mem_of_getElem? hc)) _
    | false => simp only [hb] at h; exact uses_cell hu.2 h

theorem renL_length (τ : Nat → Nat) : ∀ l : List AVal, (renL τ l).length = l.length
  | [] => rfl
  | v :: l => by rw [renL, List.length_cons, renL_length τ l, List.length_cons]

theorem renC_len (τ : Nat → Nat) (c : Col) : (renC τ c).len = c.len := by cases c <;> simp [renC, Col.len, renL_length]

theorem renS_total (τ : Nat → Nat) : ∀ l : List Seg, total (l.map (renS τ)) = total l
  | [] => rfl
  | s :: l => by simp only [List.map_cons, total, renS, renS_total τ l]

theorem renS_WF {τ : Nat → Nat} {l : List Seg} : WFs (l.map (renS τ)) ↔ WFs l := by
  constructor
  · intro h s hs
    have := h (renS τ s) (List.mem_map_of_mem hs)
    refine ⟨by simpa [renS] using this.1, fun c hc => ?_⟩
    have := this.2 (renC τ c) (by simp only [renS]; exact List.mem_map_of_mem hc)
    rwa [renC_len] at this
  · intro h s hs
    obtain ⟨q, hq, rfl⟩ := List.mem_map.1 hs
    refine ⟨by simpa [renS] using (h q hq).1, fun c hc => ?_⟩
    simp only [renS] at hc
    obtain ⟨c', hc', rfl⟩ := List.mem_map.1 hc
    rw [renC_len]; exact (h q hq).2 c' hc'

theorem blk_ren {p : Nat → Bool} {τ : Nat → Nat} {ι ι' : Inj} {w : World} (hn : Names p τ ι ι') {id : Nat} (hp : p id = true) {B : Blk} (hu : usesB p B = true) (h : BlkRel E ra base ι w id B) : BlkRel E ra base ι' w (τ id) (renB τ B) := by
  cases B with
  | segs l =>
    obtain ⟨b, o, cs, el, fz, h1, h2, h3, h4, h5, h6, h7⟩ := h
    refine ⟨b, o, cs, el, fz, hn _ _ hp h1, h2, h3, h4, by rw [renS_total]; exact h5, renS_WF.2 h6, fun j v hv => ?_⟩
    rw [cellOf_ren] at hv
    cases hc : cellOf l j with
    | none => rw [hc] at hv; cases hv
    | some v0 =>
      rw [hc] at hv
      simp only [Option.map_some, Option.some.injEq] at hv
      subst hv
      obtain ⟨c, hc1, hc2⟩ := h7 j v0 hc
      exact ⟨c, hc1, rel_ren hn (uses_cell hu hc) hc2⟩
  | map es => cases hu
  | loop ts ps as bd st pe =>
    obtain ⟨b, o, sz, r, h1, h2, h3, h4, h5⟩ := h
    exact ⟨b, o, sz, r, hn _ _ hp h1, h2, h3, relL_ren hn hu h4, h5⟩

/-! ### The other way -/
section
variable {p : Nat → Bool} {σ : Nat → Nat} {ι ιc : Inj}

theorem relA_fwd (hc : ∀ id, p id = true → ιc id = ι (σ id)) {a : AAddr} {x : Addr} (hu : usesA p a = true) (h : RelA E ra ι (renA σ a) x) : RelA E ra ιc a x := by
  cases a with
  | own id off i st => obtain ⟨b, o, sz, h1, h2⟩ := h; exact ⟨b, o, sz, by rw [hc _ hu]; exact h1, h2⟩
  | ro tid par i c => exact h

theorem relS_fwd (hc : ∀ id, p id = true → ιc id = ι (σ id)) {a : AAddr} {len : Nat} {cap : Option Nat} {x : Addr} {cap' : Nat} (hu : usesA p a = true) (h : RelS E ra ι (renA σ a) len cap x cap') : RelS E ra ιc a len cap x cap' := by
  obtain ⟨h1, h2, h3⟩ := h
  refine ⟨h1, h2, h3.imp id ?_⟩
  cases a with
  | own id off i st => rintro ⟨b, o, sz, h4, h5⟩; exact ⟨b, o, sz, by rw [hc _ hu]; exact h4, h5⟩
  | ro tid par i c => exact id

theorem named_fwd (hc : ∀ id, p id = true → ιc id = ι (σ id)) {a : AAddr} (hu : usesA p a = true) (h : Named ι (renA σ a)) : Named ιc a := by
  cases a with
  | own id off i st => obtain ⟨y, h1⟩ := h; exact ⟨y, by rw [hc _ hu]; exact h1⟩
  | ro tid par i c => trivial

mutual
theorem rel_fwd (hc : ∀ id, p id = true → ιc id = ι (σ id)) : ∀ (v : AVal) {x : Value}, usesV p v = true → Rel E ra ι (renV σ v) x → Rel E ra ιc v x
  | .undef, _, _, _ => .undef _
  | .bool b, _, _, h => by rw [renV] at h; cases h; exact .bool b
  | .int k n, _, _, h => by rw [renV] at h; cases h; exact .int k n
  | .str s, _, _, h => by rw [renV] at h; cases h; exact .str s
  | .nilp, _, _, h => by rw [renV] at h; cases h; exact .nilp
  | .ptr a, _, hu, h => by rw [renV] at h; rw [usesV] at hu; cases h with | ptr h => exact .ptr (relA_fwd hc hu h)
  | .nils, _, _, h => by rw [renV] at h; cases h; exact .nils
  | .slice a l c, _, hu, h => by rw [renV] at h; rw [usesV] at hu; cases h with | slice h hN => exact .slice (relS_fwd hc hu h) (named_fwd hc hu hN)
  | .nilf, _, _, h => by rw [renV] at h; cases h; exact .nilf
  | .fn f cs, _, hu, h => by rw [renV] at h; rw [usesV] at hu; cases h with | fn h => exact .fn (relL_fwd hc cs hu h)
  | .yld id, _, hu, h => by rw [renV] at h; rw [usesV] at hu; cases h with | yld h => exact .yld (by rw [hc _ hu]; exact h)
  | .nili, _, _, h => by rw [renV] at h; cases h; exact .nili
  | .iface t v, _, hu, h => by rw [renV] at h; rw [usesV] at hu; cases h with | iface h => exact .iface (rel_fwd hc v hu h)
  | .nilm, _, _, h => by rw [renV] at h; cases h; exact .nilm
  | .mapv id, _, hu, h => by rw [renV] at h; rw [usesV] at hu; cases h with | mapv h => exact .mapv (by rw [hc _ hu]; exact h)
  | .agg cs, _, hu, h => by rw [renV] at h; rw [usesV] at hu; cases h with | agg h => exact .agg (relL_fwd hc cs hu h)
  | .tup cs, _, hu, h => by rw [renV] at h; rw [usesV] at hu; cases h with | tup h => exact .tup (relL_fwd hc cs hu h)
theorem relL_fwd (hc : ∀ id, p id = true → ιc id = ι (σ id)) : ∀ (cs : List AVal) {vs : List Value}, usesL p cs = true → RelL E ra ι (renL σ cs) vs → RelL E ra ιc cs vs
  | [], _, _, h => by rw [renL] at h; cases h; exact .nil
  | v :: cs, _, hu, h => by
    rw [renL] at h; rw [usesL, Bool.and_eq_true] at hu
    cases h with | cons h t => exact .cons (rel_fwd hc v hu.1 h) (relL_fwd hc cs hu.2 t)
end

theorem blk_fwd (hc : ∀ id, p id = true → ιc id = ι (σ id)) {w : World} {id : Nat} (hp : p id = true) {B : Blk} (hu : usesB p B = true) (h : BlkRel E ra base ι w (σ id) (renB σ B)) : BlkRel E ra base ιc w id B := by
  cases B with
  | segs l =>
    obtain ⟨b, o, cs, el, fz, h1, h2, h3, h4, h5, h6, h7⟩ := h
    refine ⟨b, o, cs, el, fz, by rw [hc _ hp]; exact h1, h2, h3, h4, by rw [renS_total] at h5; exact h5, renS_WF.1 h6, fun j v hv => ?_⟩
    obtain ⟨c, hc1, hc2⟩ := h7 j (renV σ v) (by rw [cellOf_ren, hv]; rfl)
    exact ⟨c, hc1, rel_fwd hc v (uses_cell hu hv) hc2⟩
  | map es => cases hu
  | loop ts ps as bd st pe =>
    obtain ⟨b, o, sz, r, h1, h2, h3, h4, h5⟩ := h
    exact ⟨b, o, sz, r, by rw [hc _ hp]; exact h1, h2, h3, relL_fwd hc ts hu h4, h5⟩
end

/-! ### A small heap, in a great one -/

/-- no table holds a block -/
def Plain (E : Nat → Nat → Seg) : Prop := ∀ tid par j v, cellOf [E tid par] j = some v → usesV (fun _ => false) v = true

theorem names_none {ι ι' : Inj} (τ : Nat → Nat) : Names (fun _ => false) τ ι ι' := fun _ _ h => by cases h

mutual
theorem renV_plain : ∀ {v : AVal}, usesV (fun _ => false) v = true → renV id v = v
  | .undef, _ => by rw [renV]
  | .bool _, _ => by rw [renV]
  | .int _ _, _ => by rw [renV]
  | .str _, _ => by rw [renV]
  | .nilp, _ => by rw [renV]
  | .ptr (.own _ _ _ _), h => by rw [usesV, usesA] at h; cases h
  | .ptr (.ro _ _ _ _), _ => by rw [renV, renA]
  | .nils, _ => by rw [renV]
  | .slice (.own _ _ _ _) _ _, h => by rw [usesV, usesA] at h; cases h
  | .slice (.ro _ _ _ _) _ _, _ => by rw [renV, renA]
  | .nilf, _ => by rw [renV]
  | .fn _ _, h => by rw [usesV] at h; rw [renV, renL_plain h]
  | .yld _, h => by rw [usesV] at h; cases h
  | .nili, _ => by rw [renV]
  | .iface _ _, h => by rw [usesV] at h; rw [renV, renV_plain h]
  | .nilm, _ => by rw [renV]
  | .mapv _, h => by rw [usesV] at h; cases h
  | .agg _, h => by rw [usesV] at h; rw [renV, renL_plain h]
  | .tup _, h => by rw [usesV] at h; rw [renV, renL_plain h]
theorem renL_plain : ∀ {l : List AVal}, usesL (fun _ => false) l = true → renL id l = l
  | [], _ => by rw [renL]
  | v :: l, h => by rw [usesL, Bool.and_eq_true] at h; rw [renL, renV_plain h.1, renL_plain h.2]
end

theorem rel_plain {ι ι' : Inj} {v : AVal} {x : Value} (hu : usesV (fun _ => false) v = true) (h : Rel E ra ι v x) : Rel E ra ι' v x := by
  have := rel_ren (names_none (ι := ι) (ι' := ι') id) hu h
  rwa [renV_plain hu] at this

/-- the small heap's numbering: its k blocks are the great one's, under their names there -/
def canI (ι : Inj) (σ : Nat → Nat) (k : Nat) : Inj := fun i => if i < k then ι (σ i) else none

structure Small (h hc : Log) (k : Nat) (σ : Nat → Nat) : Prop where
  ids : ∀ i, i ∈ ids hc ↔ i < k
  all : ∀ i, i < k → ∃ B, view hc i = some B
  view : ∀ i B, view hc i = some B → view h (σ i) = some (renB σ B)
  inj : ∀ i j, i < k → j < k → σ i = σ j → i = j
  shut : ∀ i B, Ab.view hc i = some B → usesB (fun j => Nat.blt j k) B = true

theorem blt_iff {a b : Nat} : Nat.blt a b = true ↔ a < b := ⟨Nat.le_of_ble_eq_true, Nat.ble_eq_true_of_le⟩

theorem Small.lt {h hc : Log} {k : Nat} {σ : Nat → Nat} (s : Small h hc k σ) {i : Nat} {B : Blk} (hv : Ab.view hc i = some B) : i < k := (s.ids i).1 (view_mem hv)

theorem canI_eq {ι : Inj} {σ : Nat → Nat} {k : Nat} (i : Nat) (h : Nat.blt i k = true) : canI ι σ k i = ι (σ i) := by simp only [canI, if_pos (blt_iff.1 h)]

theorem Small.fwd {h hc : Log} {k : Nat} {σ : Nat → Nat} (s : Small h hc k σ) (hE : Plain E) {ι : Inj} {w : World} (H : WRel E ra base ι h w) : WRel E ra base (canI ι σ k) hc w := by
  refine ⟨fun i x hx => ?_, fun i B hB => ?_, fun i j B B' x x' hi hj hx hx' he => ?_, H.le, H.roLt, H.roWF, fun tid par j v hv => ?_⟩
  · rw [s.ids]
    rcases Nat.lt_or_ge i k with h' | h'
    · exact h'
    · simp only [canI, if_neg (Nat.not_lt.2 h')] at hx; cases hx
  · exact blk_fwd canI_eq (blt_iff.2 (s.lt hB)) (s.shut i B hB) (H.own _ _ (s.view i B hB))
  · rw [canI_eq i (blt_iff.2 (s.lt hi))] at hx
    rw [canI_eq j (blt_iff.2 (s.lt hj))] at hx'
    exact s.inj i j (s.lt hi) (s.lt hj) (H.inj _ _ _ _ x x' (s.view i B hi) (s.view j B' hj) hx hx' he)
  · obtain ⟨c, h1, h2⟩ := H.ro tid par j v hv
    exact ⟨c, h1, rel_plain (hE tid par j v hv) h2⟩

theorem Small.live {h hc : Log} {k : Nat} {σ : Nat → Nat} (s : Small h hc k σ) {ι : Inj} {b : Nat} (hl : Live (canI ι σ k) hc b) : Live ι h b := by
  obtain ⟨i, B, o, sz, h1, h2⟩ := hl
  rw [canI_eq i (blt_iff.2 (s.lt h1))] at h2
  exact ⟨σ i, _, o, sz, s.view i B h1, h2⟩

/-- What comes of the small heap, told in the great one's names: some blocks are kept, the rest is forgotten. -/
structure Told (h hc dc d : Log) (k : Nat) (σ τ : Nat → Nat) (keep : Nat → Bool) : Prop where
  old : ∀ i, i < k → τ i = σ i ∧ keep i = true
  new : ∀ i, k ≤ i → keep i = true → τ i ∉ ids h
  inj : ∀ i j, k ≤ i → k ≤ j → keep i = true → keep j = true → τ i = τ j → i = j
  put : ∀ i, keep i = true → i ∈ ids dc → τ i ∈ ids d ∧ view d (τ i) = (view dc i).map (renB τ)
  only : ∀ j, j ∈ ids d → ∃ i, keep i = true ∧ i ∈ ids dc ∧ j = τ i
  uses : ∀ i B, keep i = true → view (dc ++ hc) i = some B → usesB keep B = true

theorem renA_congr {p : Nat → Bool} {σ τ : Nat → Nat} (h : ∀ i, p i = true → τ i = σ i) {a : AAddr} (hu : usesA p a = true) : renA τ a = renA σ a := by
  cases a with
  | own id off i st => simp only [renA, h _ hu]
  | ro tid par i c => rfl

mutual
theorem renV_congr {p : Nat → Bool} {σ τ : Nat → Nat} (h : ∀ i, p i = true → τ i = σ i) : ∀ (v : AVal), usesV p v = true → renV τ v = renV σ v
  | .undef, _ => by rw [renV, renV]
  | .bool _, _ => by rw [renV, renV]
  | .int _ _, _ => by rw [renV, renV]
  | .str _, _ => by rw [renV, renV]
  | .nilp, _ => by rw [renV, renV]
  | .ptr a, hu => by rw [usesV] at hu; rw [renV, renV, renA_congr h hu]
  | .nils, _ => by rw [renV, renV]
  | .slice a _ _, hu => by rw [usesV] at hu; rw [renV, renV, renA_congr h hu]
  | .nilf, _ => by rw [renV, renV]
  | .fn _ cs, hu => by rw [usesV] at hu; rw [renV, renV, renL_congr h cs hu]
  | .yld _, hu => by rw [usesV] at hu; rw [renV, renV, h _ hu]
  | .nili, _ => by rw [renV, renV]
  | .iface _ v, hu => by rw [usesV] at hu; rw [renV, renV, renV_congr h v hu]
  | .nilm, _ => by rw [renV, renV]
  | .mapv _, hu => by rw [usesV] at hu; rw [renV, renV, h _ hu]
  | .agg cs, hu => by rw [usesV] at hu; rw [renV, renV, renL_congr h cs hu]
  | .tup cs, hu => by rw [usesV] at hu; rw [renV, renV, renL_congr h cs hu]
theorem renL_congr {p : Nat → Bool} {σ τ : Nat → Nat} (h : ∀ i, p i = true → τ i = σ i) : ∀ (l : List AVal), usesL p l = true → renL τ l = renL σ l
  | [], _ => by rw [renL, renL]
  | v :: l, hu => by rw [usesL, Bool.and_eq_true] at hu; rw [renL, renL, renV_congr h v hu.1, renL_congr h l hu.2]
end

theorem renB_congr {p : Nat → Bool} {σ τ : Nat → Nat} (h : ∀ i, p i = true → τ i = σ i) {B : Blk} (hu : usesB p B = true) : renB τ B = renB σ B := by
  cases B with
  | segs l =>
    simp only [renB, Blk.segs.injEq]
    refine List.map_congr_left fun s hs => ?_
    simp only [renS, Seg.mk.injEq, true_and]
    refine List.map_congr_left fun c hc => ?_
    have := List.all_eq_true.1 (List.all_eq_true.1 hu s hs) c hc
    cases c with
    | val xs => simp only [renC]; rw [renL_congr h xs this]
    | _ => rfl
  | map es => cases hu
  | loop ts ps as bd st pe => simp only [renB]; rw [renL_congr h ts hu]

open Classical in
/-- the numbering behind it -/
noncomputable def backI (ι ιc : Inj) (h : Log) (k : Nat) (τ : Nat → Nat) (keep : Nat → Bool) : Inj := fun j =>
  if j ∈ ids h then ι j else if hx : ∃ i, keep i = true ∧ k ≤ i ∧ τ i = j then ιc hx.choose else none

theorem Told.back {h hc dc d : Log} {k : Nat} {σ τ : Nat → Nat} {keep : Nat → Bool} (t : Told h hc dc d k σ τ keep) (s : Small h hc k σ) (hE : Plain E) {ι ιc : Inj} {w w' : World} (H : WRel E ra base ι h w)
    (Hc : WRel E ra base ιc (dc ++ hc) w') (Kc : Keeps (canI ι σ k) hc w ιc (dc ++ hc) w') :
    ∃ ι', WRel E ra base ι' (d ++ h) w' ∧ Keeps ι h w ι' (d ++ h) w' ∧ ∀ v x, usesV keep v = true → Rel E ra ιc v x → Rel E ra ι' (renV τ v) x := by
  have H0 := s.fwd hE H
  let ι' := backI ι ιc h k τ keep
  have hin : ∀ j, j ∈ ids h → ι' j = ι j := fun j hj => by simp only [ι', backI, if_pos hj]
  have hold : ∀ i, i < k → σ i ∈ ids h := fun i hi => let ⟨B, hB⟩ := s.all i hi; view_mem (s.view i B hB)
  have hcan : ∀ i, i < k → ∀ y, ιc i = some y → ι (σ i) = some y := by
    intro i hi y hy
    obtain ⟨B, hB⟩ := s.all i hi
    obtain ⟨b, o, sz, h1, _, _⟩ := (H0.own i B hB).at
    have := Kc.ext i _ h1
    rw [hy] at this
    rw [this, ← canI_eq (ι := ι) (σ := σ) i (blt_iff.2 hi)]; exact h1
  have hnew : ∀ i, k ≤ i → keep i = true → ι' (τ i) = ιc i := by
    intro i hi hk
    have hex : ∃ q, keep q = true ∧ k ≤ q ∧ τ q = τ i := ⟨i, hk, hi, rfl⟩
    simp only [ι', backI, if_neg (t.new i hi hk), dif_pos hex]
    obtain ⟨a1, a2, a3⟩ := hex.choose_spec
    rw [t.inj _ _ a2 hi a1 hk a3]
  have hN : Names keep τ ιc ι' := by
    intro i y hk hy
    rcases Nat.lt_or_ge i k with hi | hi
    · rw [(t.old i hi).1, hin _ (hold i hi)]; exact hcan i hi y hy
    · rw [hnew i hi hk]; exact hy
  have hext : Ext ι ι' := fun j x hx => by rw [hin j (H.dom j x hx)]; exact hx
  -- whose a living block is
  have cls : ∀ j B', view (d ++ h) j = some B' → (∃ i B, keep i = true ∧ j = τ i ∧ view (dc ++ hc) i = some B ∧ B' = renB τ B) ∨ (view h j = some B' ∧ ∀ i, i < k → σ i ≠ j) := by
    intro j B' hj
    rw [view_append] at hj
    by_cases hjd : j ∈ ids d
    · rw [if_pos hjd] at hj
      obtain ⟨i, hk, hi, rfl⟩ := t.only j hjd
      rw [(t.put i hk hi).2] at hj
      cases hv : view dc i with
      | none => rw [hv] at hj; cases hj
      | some B =>
        rw [hv] at hj
        simp only [Option.map_some, Option.some.injEq] at hj
        exact .inl ⟨i, B, hk, rfl, by rw [view_append, if_pos hi]; exact hv, hj.symm⟩
    · rw [if_neg hjd] at hj
      by_cases him : ∃ i, i < k ∧ σ i = j
      · obtain ⟨i, hi, rfl⟩ := him
        obtain ⟨B, hB⟩ := s.all i hi
        have hidc : i ∉ ids dc := fun hm => hjd (by rw [← (t.old i hi).1]; exact (t.put i (t.old i hi).2 hm).1)
        have e := s.view i B hB
        rw [hj] at e
        simp only [Option.some.injEq] at e
        refine .inl ⟨i, B, (t.old i hi).2, (t.old i hi).1.symm, by rw [view_append, if_neg hidc]; exact hB, ?_⟩
        rw [e]
        exact (renB_congr (fun q hq => (t.old q (blt_iff.1 hq)).1) (s.shut i B hB)).symm
      · exact .inr ⟨hj, fun i hi e => him ⟨i, hi, e⟩⟩
  -- a block that the small heap does not know
  have apart : ∀ j B' b o sz, view h j = some B' → (∀ i, i < k → σ i ≠ j) → ι j = some (b, o, sz) → ¬ Live (canI ι σ k) hc b := by
    rintro j B' b o sz hj hne hb ⟨i, B, o', sz', h1, h2⟩
    rw [canI_eq i (blt_iff.2 (s.lt h1))] at h2
    exact hne i (s.lt h1) (H.inj _ _ _ _ _ _ (s.view i B h1) hj h2 hb rfl)
  have hlt : ∀ j B' b o sz, view h j = some B' → ι j = some (b, o, sz) → b < w.heap.size := by
    intro j B' b o sz hj hb
    obtain ⟨b', o', sz', h1, _, h3⟩ := (H.own j B' hj).at
    rw [hb] at h1
    simp only [Option.some.injEq, Prod.mk.injEq] at h1
    omega
  refine ⟨ι', ⟨?_, ?_, ?_, Hc.le, H.roLt, H.roWF, ?_⟩, ⟨hext, Kc.os, Kc.tape, Kc.output, Kc.size, ?_, ?_⟩, fun v x hu hx => rel_ren hN hu hx⟩
  · intro j x hx
    simp only [ids, List.map_append, List.mem_append]
    by_cases hj : j ∈ ids h
    · exact .inr hj
    · left
      simp only [ι', backI, if_neg hj] at hx
      split at hx
      · rename_i hex
        obtain ⟨a1, a2, a3⟩ := hex.choose_spec
        have hm := Hc.dom _ _ hx
        simp only [ids, List.map_append, List.mem_append] at hm
        rcases hm with hm | hm
        · rw [← a3]; exact (t.put _ a1 hm).1
        · exact absurd ((s.ids _).1 hm) (Nat.not_lt.2 a2)
      · cases hx
  · intro j B' hj
    rcases cls j B' hj with ⟨i, B, hk, rfl, hv, rfl⟩ | ⟨hv, hne⟩
    · exact blk_ren hN hk (t.uses i B hk hv) (Hc.own i B hv)
    · exact (H.own j B' hv).mono hext fun b o sz hb => Kc.block b (hlt j B' b o sz hv hb) (apart j B' b o sz hv hne hb)
  · intro j j' B B' x x' hj hj' hx hx' he
    have key : ∀ i B q y y' j', keep i = true → view (dc ++ hc) i = some B → ι' (τ i) = some y → view h j' = some q → (∀ i, i < k → σ i ≠ j') → ι' j' = some y' → y.1 = y'.1 → False := by
      intro i B q y y' j' hk hv hy hq hne hy' he
      rw [hin j' (view_mem hq)] at hy'
      obtain ⟨b, o, sz, h1, _, _⟩ := (Hc.own i B hv).at
      have h2 := hN i _ hk h1
      rw [hy] at h2
      simp only [Option.some.injEq] at h2
      subst h2
      obtain ⟨b', o', sz'⟩ := y'
      simp only at he
      subst he
      exact apart j' q b o' sz' hq hne hy' (Kc.live b (hlt j' q b o' sz' hq hy') ⟨i, B, o, sz, hv, h1⟩)
    rcases cls j B hj with ⟨i, Bi, hk, rfl, hv, rfl⟩ | ⟨hv, hne⟩ <;> rcases cls j' B' hj' with ⟨i', Bi', hk', rfl, hv', rfl⟩ | ⟨hv', hne'⟩
    · obtain ⟨b, o, sz, h1, _, _⟩ := (Hc.own i Bi hv).at
      obtain ⟨b', o', sz', h1', _, _⟩ := (Hc.own i' Bi' hv').at
      have h2 := hN i _ hk h1
      have h2' := hN i' _ hk' h1'
      rw [hx] at h2; rw [hx'] at h2'
      simp only [Option.some.injEq] at h2 h2'
      subst h2; subst h2'
      rw [Hc.inj i i' Bi Bi' _ _ hv hv' h1 h1' he]
    · exact (key i Bi B' x x' j' hk hv hx hv' hne' hx' he).elim
    · exact (key i' Bi' B x' x j hk' hv' hx' hv hne hx he.symm).elim
    · rw [hin j (view_mem hv)] at hx
      rw [hin j' (view_mem hv')] at hx'
      exact H.inj j j' B B' x x' hv hv' hx hx' he
  · intro tid par j v hv
    obtain ⟨c, h1, h2⟩ := Hc.ro tid par j v hv
    exact ⟨c, h1, rel_plain (hE tid par j v hv) h2⟩
  · intro b hb hn
    exact Kc.block b hb fun hl => hn (s.live hl)
  · rintro b hb ⟨j, B', o, sz, hj, hx⟩
    rcases cls j B' hj with ⟨i, B, hk, rfl, hv, rfl⟩ | ⟨hv, hne⟩
    · obtain ⟨b', o', sz', h1, _, _⟩ := (Hc.own i B hv).at
      have h2 := hN i _ hk h1
      rw [hx] at h2
      simp only [Option.some.injEq, Prod.mk.injEq] at h2
      obtain ⟨rfl, rfl, rfl⟩ := h2
      exact s.live (Kc.live b hb ⟨i, B, o, sz, hv, h1⟩)
    · rw [hin j (view_mem hv)] at hx
      exact ⟨j, B', o, sz, hv, hx⟩

end Go.Proofs.Ytcgebafffkpmfaa.Ab
