/- Cells of blocks: by rows, and one by one; read, and set; and in the world. -/
import Derived.Test.YtcgebafffkpmfaaE02
import Derived.Laws.AppendOwn
namespace Go.Proofs.Ytcgebafffkpmfaa.Ab

/-- the segment, and the column, of an address whose row is another matter -/
def findRow : List Seg → Nat → Option (Seg × Nat)
  | [], _ => none
  | s :: l, off => match Nat.ble (off + 1) s.st with
    | true => some (s, off)
    | false => match Nat.ble (s.n * s.st) off with
      | true => findRow l (off - s.n * s.st)
      | false => none

/-- cells one behind the other, in one row -/
def rowCells (s : Seg) (c i n : Nat) : List AVal := ((s.cols.drop c).take n).map (colAt · i)

def flatCells (l : List Seg) (off : Nat) : Nat → Option (List AVal)
  | 0 => some []
  | n + 1 => match cellOf l off with
    | some v => match flatCells l (off + 1) n with
      | some vs => some (v :: vs)
      | none => none
    | none => none

def colSet (c : Col) (r : Nat) (v : AVal) : Option Col :=
  match c, v with
  | .int k xs, .int k' x => match decide (k = k') with
    | true => some (.int k (xs.set r x))
    | false => none
  | .bool xs, .bool x => some (.bool (xs.set r x))
  | .str xs, .str x => some (.str (xs.set r x))
  | .val xs, v => some (.val (xs.set r v))
  | _, _ => none

/-- the columns from c on, at a row -/
def colsSet : List Col → Nat → Nat → List AVal → Option (List Col)
  | cols, _, _, [] => some cols
  | [], _, _, _ :: _ => none
  | col :: cols, 0, i, v :: vs => match colSet col i v, colsSet cols 0 i vs with
    | some col', some cols' => some (col' :: cols')
    | _, _ => none
  | col :: cols, c + 1, i, v :: vs => match colsSet cols c i (v :: vs) with
    | some cols' => some (col :: cols')
    | none => none

def setRow : List Seg → Nat → Nat → List AVal → Option (List Seg)
  | [], _, _, _ => none
  | s :: l, off, i, vs => match Nat.ble (off + 1) s.st with
    | true => match colsSet s.cols off i vs with
      | some cols => some ({ s with cols } :: l)
      | none => none
    | false => match Nat.ble (s.n * s.st) off with
      | true => match setRow l (off - s.n * s.st) i vs with
        | some l' => some (s :: l')
        | none => none
      | false => none

def setFlat1 : List Seg → Nat → AVal → Option (List Seg)
  | [], _, _ => none
  | s :: l, j, v => match Nat.ble (j + 1) (s.n * s.st) with
    | true => match colsSet s.cols (j % s.st) (j / s.st) [v] with
      | some cols => some ({ s with cols } :: l)
      | none => none
    | false => match setFlat1 l (j - s.n * s.st) v with
      | some l' => some (s :: l')
      | none => none

def setFlat (l : List Seg) (off : Nat) : List AVal → Option (List Seg)
  | [] => some l
  | v :: vs => match setFlat1 l off v with
    | some l' => setFlat l' (off + 1) vs
    | none => none

theorem seg_cell {s : Seg} {l : List Seg} {i c : Nat} (hi : i < s.n) (hc : c < s.st) : cellOf (s :: l) (c + i * s.st) = (s.cols[c]?).map (colAt · i) := by
  have h1 : c + i * s.st + 1 ≤ s.n * s.st := by
    have : (i + 1) * s.st ≤ s.n * s.st := Nat.mul_le_mul_right _ hi
    rw [Nat.add_mul] at this; omega
  have h2 : (c + i * s.st) % s.st = c := by rw [Nat.add_mul_mod_self_right]; exact Nat.mod_eq_of_lt hc
  have h3 : (c + i * s.st) / s.st = i := by rw [Nat.add_mul_div_right _ _ (by omega), Nat.div_eq_of_lt hc]; omega
  simp only [cellOf, Nat.ble_eq_true_of_le h1, h2, h3]
  cases s.cols[c]? <;> rfl

theorem cellOf_next {s : Seg} {l : List Seg} {j : Nat} (h : s.n * s.st ≤ j) : cellOf (s :: l) j = cellOf l (j - s.n * s.st) := by
  have : Nat.ble (j + 1) (s.n * s.st) = false := by
    cases hb : Nat.ble (j + 1) (s.n * s.st) with
    | true => have := Nat.le_of_ble_eq_true hb; omega
    | false => rfl
  simp only [cellOf, this]

theorem ble_false {a b : Nat} (h : Nat.ble a b = false) : b < a := by
  rcases Nat.lt_or_ge b a with h' | h'
  · exact h'
  · rw [Nat.ble_eq_true_of_le h'] at h; cases h

theorem findRow_cell {l : List Seg} {off i c : Nat} {s : Seg} (hf : findRow l off = some (s, c)) (hi : i < s.n) {j : Nat} (hj : c + j < s.st) :
    s ∈ l ∧ c ≤ off ∧ cellOf l (off + i * s.st + j) = (s.cols[c + j]?).map (colAt · i) := by
  induction l generalizing off with
  | nil => simp [findRow] at hf
  | cons t l ih =>
    simp only [findRow] at hf
    cases hb : Nat.ble (off + 1) t.st with
    | true =>
      simp only [hb, Option.some.injEq, Prod.mk.injEq] at hf
      obtain ⟨rfl, rfl⟩ := hf
      refine ⟨by simp, Nat.le_refl _, ?_⟩
      have := seg_cell (l := l) (s := t) hi hj
      rw [← this]; congr 1; omega
    | false =>
      simp only [hb] at hf
      cases hb2 : Nat.ble (t.n * t.st) off with
      | false => simp [hb2] at hf
      | true =>
        simp only [hb2] at hf
        have hle := Nat.le_of_ble_eq_true hb2
        obtain ⟨h1, h2, h3⟩ := ih hf
        refine ⟨by simp [h1], by omega, ?_⟩
        rw [cellOf_next (by omega), ← h3]
        congr 1; omega

theorem colSet_at {c c' : Col} {r : Nat} {v : AVal} (h : colSet c r v = some c') (hr : r < c.len) : c'.len = c.len ∧ colAt c' r = v ∧ ∀ q, q ≠ r → colAt c' q = colAt c q := by
  cases c with
  | int k xs =>
    cases v <;> simp only [colSet] at h <;> try (cases h; done)
    rename_i k' x
    by_cases hk : k = k'
    · subst hk
      simp only [decide_true, Option.some.injEq] at h
      subst h
      simp only [Col.len] at hr
      refine ⟨by simp [Col.len], ?_, fun q hq => ?_⟩
      · simp [colAt, hr]
      · simp [colAt, List.getElem?_set_ne (Ne.symm hq)]
    · simp [hk] at h
  | bool xs =>
    cases v <;> simp only [colSet] at h <;> try (cases h; done)
    simp only [Option.some.injEq] at h
    subst h
    simp only [Col.len] at hr
    refine ⟨by simp [Col.len], ?_, fun q hq => ?_⟩
    · simp [colAt, hr]
    · simp [colAt, List.getElem?_set_ne (Ne.symm hq)]
  | str xs =>
    cases v <;> simp only [colSet] at h <;> try (cases h; done)
    simp only [Option.some.injEq] at h
    subst h
    simp only [Col.len] at hr
    refine ⟨by simp [Col.len], ?_, fun q hq => ?_⟩
    · simp [colAt, hr]
    · simp [colAt, List.getElem?_set_ne (Ne.symm hq)]
  | val xs =>
    simp only [colSet, Option.some.injEq] at h
    subst h
    simp only [Col.len] at hr
    refine ⟨by simp [Col.len], ?_, fun q hq => ?_⟩
    · simp [colAt, hr]
    · simp [colAt, List.getElem?_set_ne (Ne.symm hq)]
  | subs tid ns bs => simp only [colSet] at h; cases h

theorem colsSet_at {cols cols' : List Col} {c i n : Nat} {vs : List AVal} (h : colsSet cols c i vs = some cols') (hw : ∀ x ∈ cols, x.len = n) (hi : i < n) :
    cols'.length = cols.length ∧ (∀ x ∈ cols', x.len = n) ∧ (vs ≠ [] → c + vs.length ≤ cols.length) ∧
    ∀ (k q : Nat), (cols'[k]?).map (colAt · q) = if q = i ∧ c ≤ k ∧ k < c + vs.length then vs[k - c]? else (cols[k]?).map (colAt · q) := by
  induction cols generalizing c vs cols' with
  | nil =>
    cases vs with
    | nil => simp only [colsSet, Option.some.injEq] at h; subst h; refine ⟨rfl, hw, by simp, fun k q => ?_⟩; rw [if_neg (by simp)]
    | cons v vs => simp [colsSet] at h
  | cons col cols ih =>
    cases vs with
    | nil => simp only [colsSet, Option.some.injEq] at h; subst h; refine ⟨rfl, hw, by simp, fun k q => ?_⟩; rw [if_neg (by simp only [List.length_nil]; omega)]
    | cons v vs =>
      cases c with
      | zero =>
        simp only [colsSet] at h
        cases h1 : colSet col i v with
        | none => simp [h1] at h
        | some col' =>
          cases h2 : colsSet cols 0 i vs with
          | none => simp [h1, h2] at h
          | some cs' =>
            simp only [h1, h2, Option.some.injEq] at h
            subst h
            have hcl : col.len = n := hw col (by simp)
            obtain ⟨g1, g2, g3⟩ := colSet_at h1 (by omega)
            obtain ⟨k1, k2, k3, k4⟩ := ih h2 (fun x hx => hw x (by simp [hx]))
            refine ⟨by simp [k1], fun x hx => ?_, fun _ => ?_, fun k q => ?_⟩
            · simp only [List.mem_cons] at hx
              rcases hx with rfl | hx
              · rw [g1, hcl]
              · exact k2 x hx
            · by_cases hvs : vs = []
              · subst hvs; simp
              · have := k3 hvs; simp at this ⊢; omega
            · cases k with
              | zero =>
                simp only [List.getElem?_cons_zero, Option.map_some]
                by_cases hq : q = i
                · subst hq; rw [if_pos (by simp)]; simp [g2]
                · rw [if_neg (by simp [hq]), g3 q hq]
              | succ k =>
                simp only [List.getElem?_cons_succ, k4 k q, List.length_cons]
                by_cases hq : q = i ∧ 0 ≤ k ∧ k < 0 + vs.length
                · rw [if_pos hq, if_pos ⟨hq.1, by omega, by omega⟩]; simp
                · rw [if_neg hq, if_neg (fun hh => hq ⟨hh.1, by omega, by omega⟩)]
      | succ c =>
        simp only [colsSet] at h
        cases h2 : colsSet cols c i (v :: vs) with
        | none => simp [h2] at h
        | some cs' =>
          simp only [h2, Option.some.injEq] at h
          subst h
          obtain ⟨k1, k2, k3, k4⟩ := ih h2 (fun x hx => hw x (by simp [hx]))
          refine ⟨by simp [k1], fun x hx => ?_, fun _ => ?_, fun k q => ?_⟩
          · simp only [List.mem_cons] at hx
            rcases hx with rfl | hx
            · exact hw _ (by simp)
            · exact k2 x hx
          · have := k3 (by simp); simp at this ⊢; omega
          · cases k with
            | zero => simp
            | succ k =>
              simp only [List.getElem?_cons_succ, k4 k q]
              by_cases hq : q = i ∧ c ≤ k ∧ k < c + (v :: vs).length
              · rw [if_pos hq, if_pos ⟨hq.1, by omega, by omega⟩]; congr 1; omega
              · rw [if_neg hq, if_neg (fun hh => hq ⟨hh.1, by omega, by omega⟩)]

/-- what a change of some cells is -/
structure Sets (l l' : List Seg) (at_ : Nat) (vs : List AVal) : Prop where
  tot : total l' = total l
  wf : WFs l'
  fits : at_ + vs.length ≤ total l
  cell : ∀ k, cellOf l' k = if at_ ≤ k ∧ k < at_ + vs.length then vs[k - at_]? else cellOf l k

theorem seg_sets {s : Seg} {l : List Seg} {cols' : List Col} {c i : Nat} {vs : List AVal} (hw : WFs (s :: l)) (h : colsSet s.cols c i vs = some cols') (hi : i < s.n) (hne : vs ≠ []) :
    Sets (s :: l) ({ s with cols := cols' } :: l) (c + i * s.st) vs := by
  obtain ⟨hs1, hs2⟩ := hw s (by simp)
  obtain ⟨k1, k2, k3, k4⟩ := colsSet_at h hs2 hi
  have hfit := k3 hne
  have hpos : 0 < vs.length := List.length_pos_iff.2 hne
  have hst : c < s.st := by omega
  have h1 : c + i * s.st + vs.length ≤ s.n * s.st := by
    have : (i + 1) * s.st ≤ s.n * s.st := Nat.mul_le_mul_right _ hi
    rw [Nat.add_mul] at this; omega
  refine ⟨by simp [total], fun x hx => ?_, by simp only [total]; omega, fun k => ?_⟩
  · simp only [List.mem_cons] at hx
    rcases hx with rfl | hx
    · exact ⟨by simp [k1, hs1], by simpa using k2⟩
    · exact hw x (by simp [hx])
  · by_cases hk : k < s.n * s.st
    · have hp : 0 < s.st := by omega
      have hkq : k = k % s.st + k / s.st * s.st := by rw [Nat.mul_comm]; exact (Nat.mod_add_div k s.st).symm
      have hq : k / s.st < s.n := Nat.div_lt_of_lt_mul (by rw [Nat.mul_comm]; exact hk)
      have hm : k % s.st < s.st := Nat.mod_lt _ hp
      have e1 : cellOf (s :: l) k = (s.cols[k % s.st]?).map (colAt · (k / s.st)) := by
        have := seg_cell (l := l) hq hm; rw [← hkq] at this; exact this
      have e2 : cellOf ({ s with cols := cols' } :: l) k = (cols'[k % s.st]?).map (colAt · (k / s.st)) := by
        have := seg_cell (s := { s with cols := cols' }) (l := l) (i := k / s.st) (c := k % s.st) hq hm
        simp only at this
        rw [← hkq] at this; exact this
      rw [e1, e2, k4]
      by_cases hq2 : k / s.st = i
      · by_cases hc : c ≤ k % s.st ∧ k % s.st < c + vs.length
        · rw [if_pos ⟨hq2, hc⟩, if_pos (by rw [← hq2]; omega)]
          congr 1; rw [← hq2]; omega
        · rw [if_neg (fun hh => hc hh.2), if_neg (by rw [← hq2]; omega)]
      · rw [if_neg (fun hh => hq2 hh.1), if_neg ?_]
        rintro ⟨ha, hb⟩
        apply hq2
        have hle : c + vs.length ≤ s.st := by omega
        have hb' : k < (i + 1) * s.st := by rw [Nat.add_mul]; omega
        have ha' : i * s.st ≤ k := by omega
        exact Nat.le_antisymm (Nat.le_of_lt_succ ((Nat.div_lt_iff_lt_mul hp).2 hb')) ((Nat.le_div_iff_mul_le hp).2 ha')
    · have e1 : cellOf (s :: l) k = cellOf l (k - s.n * s.st) := cellOf_next (by omega)
      have e2 : cellOf ({ s with cols := cols' } :: l) k = cellOf l (k - s.n * s.st) := cellOf_next (s := { s with cols := cols' }) (by show s.n * s.st ≤ k; omega)
      rw [e1, e2, if_neg (by omega)]

theorem sets_cons {s : Seg} {l l' : List Seg} {a : Nat} {vs : List AVal} (hs : s.WF) (h : Sets l l' a vs) : Sets (s :: l) (s :: l') (s.n * s.st + a) vs := by
  refine ⟨by simp [total, h.tot], fun x hx => ?_, by simp only [total]; have := h.fits; omega, fun k => ?_⟩
  · simp only [List.mem_cons] at hx
    rcases hx with rfl | hx
    · exact hs
    · exact h.wf x hx
  · by_cases hk : s.n * s.st ≤ k
    · rw [cellOf_next hk, cellOf_next hk, h.cell]
      by_cases hc : a ≤ k - s.n * s.st ∧ k - s.n * s.st < a + vs.length
      · rw [if_pos hc, if_pos (by omega)]; congr 1; omega
      · rw [if_neg hc, if_neg (by omega)]
    · rw [if_neg (by omega)]
      simp only [cellOf]
      have : Nat.ble (k + 1) (s.n * s.st) = true := Nat.ble_eq_true_of_le (by omega)
      simp only [this]

theorem setRow_sets {l l' : List Seg} {off i c : Nat} {s : Seg} {vs : List AVal} (hw : WFs l) (hf : findRow l off = some (s, c)) (h : setRow l off i vs = some l') (hi : i < s.n) (hne : vs ≠ []) :
    Sets l l' (off + i * s.st) vs := by
  induction l generalizing off l' with
  | nil => simp [findRow] at hf
  | cons t l ih =>
    simp only [findRow] at hf
    simp only [setRow] at h
    cases hb : Nat.ble (off + 1) t.st with
    | true =>
      simp only [hb, Option.some.injEq, Prod.mk.injEq] at hf h
      obtain ⟨rfl, rfl⟩ := hf
      cases hc : colsSet t.cols off i vs with
      | none => simp [hc] at h
      | some cols' =>
        simp only [hc, Option.some.injEq] at h
        subst h
        exact seg_sets hw hc hi hne
    | false =>
      simp only [hb] at hf h
      cases hb2 : Nat.ble (t.n * t.st) off with
      | false => simp [hb2] at hf
      | true =>
        simp only [hb2] at hf h
        have hle := Nat.le_of_ble_eq_true hb2
        cases hs : setRow l (off - t.n * t.st) i vs with
        | none => simp [hs] at h
        | some l1 =>
          simp only [hs, Option.some.injEq] at h
          subst h
          have := sets_cons (s := t) (hw t (by simp)) (ih (fun x hx => hw x (by simp [hx])) hf hs)
          have e : t.n * t.st + (off - t.n * t.st + i * s.st) = off + i * s.st := by omega
          rw [e] at this; exact this

theorem setFlat1_sets {l l' : List Seg} {j : Nat} {v : AVal} (hw : WFs l) (h : setFlat1 l j v = some l') : Sets l l' j [v] := by
  induction l generalizing j l' with
  | nil => simp [setFlat1] at h
  | cons t l ih =>
    simp only [setFlat1] at h
    cases hb : Nat.ble (j + 1) (t.n * t.st) with
    | true =>
      simp only [hb] at h
      have hlt := Nat.le_of_ble_eq_true hb
      cases hc : colsSet t.cols (j % t.st) (j / t.st) [v] with
      | none => simp [hc] at h
      | some cols' =>
        simp only [hc, Option.some.injEq] at h
        subst h
        have := seg_sets (i := j / t.st) hw hc (Nat.div_lt_of_lt_mul (by rw [Nat.mul_comm]; omega)) (by simp)
        have e : j % t.st + j / t.st * t.st = j := by rw [Nat.mul_comm]; exact Nat.mod_add_div j t.st
        rw [e] at this; exact this
    | false =>
      simp only [hb] at h
      have hle := ble_false hb
      cases hs : setFlat1 l (j - t.n * t.st) v with
      | none => simp [hs] at h
      | some l1 =>
        simp only [hs, Option.some.injEq] at h
        subst h
        have := sets_cons (s := t) (hw t (by simp)) (ih (fun x hx => hw x (by simp [hx])) hs)
        have e : t.n * t.st + (j - t.n * t.st) = j := by omega
        rw [e] at this; exact this

theorem setFlat_sets {l l' : List Seg} {j : Nat} {vs : List AVal} (hw : WFs l) (hj : vs = [] → j ≤ total l) (h : setFlat l j vs = some l') : Sets l l' j vs := by
  induction vs generalizing l j with
  | nil =>
    simp only [setFlat, Option.some.injEq] at h; subst h
    exact ⟨rfl, hw, by simpa using hj rfl, fun k => by rw [if_neg (by simp only [List.length_nil]; omega)]⟩
  | cons v vs ih =>
    simp only [setFlat] at h
    cases h1 : setFlat1 l j v with
    | none => simp [h1] at h
    | some l1 =>
      simp only [h1] at h
      have s1 := setFlat1_sets hw h1
      have hf := s1.fits
      simp only [List.length_singleton] at hf
      have s2 := ih s1.wf (fun _ => by rw [s1.tot]; omega) h
      refine ⟨s2.tot.trans s1.tot, s2.wf, ?_, fun k => ?_⟩
      · have := s2.fits; rw [s1.tot] at this; simp; omega
      · rw [s2.cell, s1.cell]
        by_cases hk : j + 1 ≤ k ∧ k < j + 1 + vs.length
        · rw [if_pos hk, if_pos (by simp; omega)]
          have : k - j = (k - (j + 1)) + 1 := by omega
          rw [this, List.getElem?_cons_succ]
        · rw [if_neg hk]
          by_cases hk2 : k = j
          · subst hk2; simp
          · rw [if_neg (by simp; omega), if_neg (by simp; omega)]

theorem flatCells_cell {l : List Seg} {off n : Nat} {vs : List AVal} (h : flatCells l off n = some vs) : vs.length = n ∧ ∀ k, k < n → cellOf l (off + k) = vs[k]? := by
  induction n generalizing off vs with
  | zero => simp only [flatCells, Option.some.injEq] at h; subst h; exact ⟨rfl, fun k hk => absurd hk (Nat.not_lt_zero _)⟩
  | succ n ih =>
    simp only [flatCells] at h
    cases h1 : cellOf l off with
    | none => simp [h1] at h
    | some v =>
      cases h2 : flatCells l (off + 1) n with
      | none => simp [h1, h2] at h
      | some ws =>
        simp only [h1, h2, Option.some.injEq] at h
        subst h
        obtain ⟨k1, k2⟩ := ih h2
        refine ⟨by simp [k1], fun k hk => ?_⟩
        cases k with
        | zero => simp [h1]
        | succ k => simp only [List.getElem?_cons_succ]; rw [← k2 k (by omega)]; congr 1; omega

/-! ### in the world -/
variable {P : Program} {E : Nat → Nat → Seg} {ra : Nat → Nat → Nat × Nat} {base : Nat}

theorem run_loadCellsFrom {w : World} {b x : Nat} : ∀ (n i : Nat) (acc : Array Value) (vs : List Value), vs.length = n →
    (∀ k, k < n → w.cell? ⟨b, x + i + k, none⟩ = vs[k]?) → (loadCellsFrom ⟨b, x, none⟩ i n acc).run P w = .ok (acc ++ vs.toArray) w
  | 0, i, acc, vs, hl, _ => by
    have : vs = [] := List.eq_nil_of_length_eq_zero hl
    subst this; simp [loadCellsFrom]
  | n + 1, i, acc, vs, hl, hc => by
    cases vs with
    | nil => simp at hl
    | cons v vs =>
      have h0 := hc 0 (by omega)
      simp only [Nat.add_zero, List.getElem?_cons_zero] at h0
      have ha : (⟨b, x, none⟩ : Addr).add i = ⟨b, x + i, none⟩ := by unfold Addr.add; split <;> simp_all
      have hr := run_loadCellsFrom n (i + 1) (acc.push v) vs (by simpa using hl) (fun k hk => by
        have := hc (k + 1) (by omega)
        simp only [List.getElem?_cons_succ] at this
        have e : x + (i + 1) + k = x + i + (k + 1) := by omega
        rw [e]; exact this)
      simp only [loadCellsFrom, Sem.run_bind, run_load, ha, h0, Result.andThen_ok]
      rw [hr]
      simp

theorem run_loadCells' {w : World} {b x n : Nat} {vs : List Value} (hl : vs.length = n) (hc : ∀ k, k < n → w.cell? ⟨b, x + k, none⟩ = vs[k]?) :
    (loadCells ⟨b, x, none⟩ n).run P w = .ok vs.toArray w := by
  unfold loadCells
  rw [run_loadCellsFrom n 0 #[] vs hl (by simpa using hc)]; simp

theorem cell_at {w : World} {b : Nat} {cs : Array Value} {el : TypeId} {fz : Nat × Nat} (h : w.heap[b]? = some (.cells cs el fz)) (x : Nat) : w.cell? ⟨b, x, none⟩ = cs[x]? := by
  simp [World.cell?, h]

theorem frozen_at {w : World} {b : Nat} {cs : Array Value} {el : TypeId} {fz : Nat × Nat} (h : w.heap[b]? = some (.cells cs el fz)) (x : Nat) (hx : ¬ (fz.1 ≤ x ∧ x < fz.2)) : w.frozen? ⟨b, x, none⟩ = false := by
  obtain ⟨lo, hi⟩ := fz
  simp only [World.frozen?, h]
  simp only at hx
  by_cases h1 : lo ≤ x
  · have : ¬ x < hi := fun h2 => hx ⟨h1, h2⟩
    simp [this]
  · simp [h1]

theorem setCell_heap (w : World) (b x : Nat) (v : Value) (cs : Array Value) (el : TypeId) (fz : Nat × Nat) (h : w.heap[b]? = some (.cells cs el fz)) :
    (w.setCell ⟨b, x, none⟩ v).heap[b]? = some (.cells (cs.setIfInBounds x v) el fz) ∧ (∀ k, k ≠ b → (w.setCell ⟨b, x, none⟩ v).heap[k]? = w.heap[k]?) ∧ (w.setCell ⟨b, x, none⟩ v).heap.size = w.heap.size := by
  refine ⟨?_, fun k hk => ?_, ?_⟩
  · simp [World.setCell, Array.getElem?_modify, h]
  · simp only [World.setCell, Array.getElem?_modify]; rw [if_neg (Ne.symm hk)]
  · simp [World.setCell]

/-- stores, one behind the other -/
theorem run_storeCells' (el : TypeId) (fz : Nat × Nat) (b x : Nat) : ∀ (vs : List Value) (i : Nat) (w : World) (cs : Array Value), w.heap[b]? = some (.cells cs el fz) → x + i + vs.length ≤ cs.size →
    (∀ j, j < cs.size → ¬ (fz.1 ≤ j ∧ j < fz.2)) → (∀ v ∈ vs, v.oneCell' = true) →
    ∃ w' cs', (storeCells ⟨b, x, none⟩ vs i).run P w = .ok () w' ∧ w'.heap[b]? = some (.cells cs' el fz) ∧ cs'.size = cs.size ∧
      (∀ k, cs'[k]? = if x + i ≤ k ∧ k < x + i + vs.length then vs[k - (x + i)]? else cs[k]?) ∧
      (∀ k, k ≠ b → w'.heap[k]? = w.heap[k]?) ∧ w'.heap.size = w.heap.size ∧ w'.os = w.os ∧ w'.tape = w.tape ∧ w'.output = w.output
  | [], i, w, cs, h, _, _, _ => ⟨w, cs, by simp [storeCells], h, rfl, fun k => by rw [if_neg (by simp only [List.length_nil]; omega)], fun _ _ => rfl, rfl, rfl, rfl, rfl⟩
  | v :: vs, i, w, cs, h, hf, hz, h1 => by
    have ha : (⟨b, x, none⟩ : Addr).add i = ⟨b, x + i, none⟩ := by unfold Addr.add; split <;> simp_all
    simp only [List.length_cons] at hf
    have hlt : x + i < cs.size := by omega
    have hc := cell_at h (x + i)
    rw [Array.getElem?_eq_getElem hlt] at hc
    have hfr := frozen_at h (x + i) (hz _ hlt)
    obtain ⟨g1, g2, g3⟩ := setCell_heap w b (x + i) v cs el fz h
    obtain ⟨w', cs', r1, r2, r3, r4, r5, r6, r7, r8, r9⟩ := run_storeCells' el fz b x vs (i + 1) (w.setCell ⟨b, x + i, none⟩ v) (cs.setIfInBounds (x + i) v) g1 (by simp; omega) (by simpa using hz) (fun u hu => h1 u (by simp [hu]))
    refine ⟨w', cs', ?_, r2, by simpa using r3, fun k => ?_, fun k hk => (r5 k hk).trans (g2 k hk), r6.trans g3, r7, r8, r9⟩
    · simp only [storeCells, Sem.run_bind, ha, run_store P w _ v _ (h1 v (by simp)), hc, hfr, Bool.false_eq_true, if_false, Result.andThen_ok]
      exact r1
    · rw [r4]
      by_cases hk : x + (i + 1) ≤ k ∧ k < x + (i + 1) + vs.length
      · rw [if_pos hk, if_pos (by simp; omega)]
        have : k - (x + i) = (k - (x + (i + 1))) + 1 := by omega
        rw [this, List.getElem?_cons_succ]
      · rw [if_neg hk]
        by_cases hk2 : k = x + i
        · subst hk2
          rw [if_pos (by simp)]
          simp [hlt]
        · rw [if_neg (by simp; omega), Array.getElem?_setIfInBounds, if_neg (Ne.symm hk2)]

end Go.Proofs.Ytcgebafffkpmfaa.Ab
