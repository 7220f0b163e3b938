/- Rows of slices: appended, copied; texts and bytes: against the model's. -/
import Derived.Test.YtbpcfjhnkjobaaaE09
namespace Go.Proofs.Ytbpcfjhnkjobaaa.Ab

variable {P : Program} {E : Nat → Nat → Seg} {ra : Nat → Nat → Nat × Nat} {base : Nat}

/-! ### Rows -/
def colTake (c : Col) (i n : Nat) : Col :=
  match c with
  | .int k xs => .int k ((xs.drop i).take n)
  | .bool xs => .bool ((xs.drop i).take n)
  | .str xs => .str ((xs.drop i).take n)
  | .val xs => .val ((xs.drop i).take n)

def colApp : Col → Col → Option Col
  | .int k xs, .int k' ys => match decide (k = k') with
    | true => some (.int k (xs ++ ys))
    | false => none
  | .bool xs, .bool ys => some (.bool (xs ++ ys))
  | .str xs, .str ys => some (.str (xs ++ ys))
  | .val xs, .val ys => some (.val (xs ++ ys))
  | a, b => match Nat.beq a.len 0 with
    | true => some b
    | false => match Nat.beq b.len 0 with
      | true => some a
      | false => none

def colsApp : List Col → List Col → Option (List Col)
  | [], [] => some []
  | a :: l, b :: r => match colApp a b, colsApp l r with
    | some c, some cs => some (c :: cs)
    | _, _ => none
  | _, _ => none

def colCells : Col → Bool
  | .val xs => xs.all isCell
  | _ => true

theorem colTake_at {c : Col} {i n : Nat} (h : i + n ≤ c.len) : (colTake c i n).len = n ∧ ∀ r, r < n → colAt (colTake c i n) r = colAt c (i + r) := by
  cases c <;> simp only [Col.len] at h <;> refine ⟨by simp [colTake, Col.len]; omega, fun r hr => ?_⟩ <;> simp [colTake, colAt, hr, List.getElem?_drop]

theorem colApp_at {a b c : Col} (h : colApp a b = some c) : c.len = a.len + b.len ∧ (∀ r, r < a.len → colAt c r = colAt a r) ∧ ∀ r, r < b.len → colAt c (a.len + r) = colAt b r := by
  unfold colApp at h
  split at h
  · rename_i k xs k' ys
    by_cases hk : k = k'
    · subst hk
      simp only [decide_true, Option.some.injEq] at h; subst h
      refine ⟨by simp [Col.len], fun r hr => ?_, fun r _ => ?_⟩
      · simp only [Col.len] at hr; simp [colAt, List.getElem?_append_left hr]
      · simp [colAt, Col.len, List.getElem?_append_right]
    · simp [hk] at h
  iterate 3
    · simp only [Option.some.injEq] at h; subst h
      refine ⟨by simp [Col.len], fun r hr => ?_, fun r _ => ?_⟩
      · simp only [Col.len] at hr; simp [colAt, List.getElem?_append_left hr]
      · simp [colAt, Col.len, List.getElem?_append_right]
  · cases h0 : Nat.beq a.len 0 with
    | true =>
      have := Nat.eq_of_beq_eq_true h0
      simp only [h0, Option.some.injEq] at h
      subst h
      exact ⟨by omega, fun r hr => by omega, fun r _ => by rw [this, Nat.zero_add]⟩
    | false =>
      cases h1 : Nat.beq b.len 0 with
      | true =>
        have := Nat.eq_of_beq_eq_true h1
        simp only [h0, h1, Option.some.injEq] at h
        subst h
        exact ⟨by omega, fun r _ => rfl, fun r hr => by omega⟩
      | false => simp [h0, h1] at h

theorem colsApp_at : ∀ {a b c : List Col} {n m : Nat}, colsApp a b = some c → (∀ x ∈ a, x.len = n) → (∀ x ∈ b, x.len = m) →
    c.length = a.length ∧ b.length = a.length ∧ (∀ x ∈ c, x.len = n + m) ∧ (∀ (k r : Nat), r < n → (c[k]?).map (colAt · r) = (a[k]?).map (colAt · r)) ∧ ∀ (k r : Nat), r < m → (c[k]?).map (colAt · (n + r)) = (b[k]?).map (colAt · r)
  | [], [], c, n, m, h, _, _ => by simp only [colsApp, Option.some.injEq] at h; subst h; simp
  | [], _ :: _, c, n, m, h, _, _ => by simp [colsApp] at h
  | _ :: _, [], c, n, m, h, _, _ => by simp [colsApp] at h
  | x :: a, y :: b, c, n, m, h, ha, hb => by
    simp only [colsApp] at h
    cases h1 : colApp x y with
    | none => simp [h1] at h
    | some z =>
      cases h2 : colsApp a b with
      | none => simp [h1, h2] at h
      | some cs =>
        simp only [h1, h2, Option.some.injEq] at h
        subst h
        obtain ⟨g1, g2, g3⟩ := colApp_at h1
        obtain ⟨k1, k2, k3, k4, k5⟩ := colsApp_at h2 (fun q hq => ha q (by simp [hq])) (fun q hq => hb q (by simp [hq]))
        have hx : x.len = n := ha x (by simp)
        have hy : y.len = m := hb y (by simp)
        refine ⟨by simp [k1], by simp [k2], fun q hq => ?_, fun k r hr => ?_, fun k r hr => ?_⟩
        · simp only [List.mem_cons] at hq
          rcases hq with rfl | hq
          · omega
          · exact k3 q hq
        · cases k with
          | zero => simp [g2 r (by omega)]
          | succ k => simpa using k4 k r hr
        · cases k with
          | zero => simp only [List.getElem?_cons_zero, Option.map_some]; rw [← hx, g3 r (by omega)]
          | succ k => simpa using k5 k r hr

/-- the cell at a place of rows -/
theorem rows_cell {n st j : Nat} {cols : List Col} (h : j < n * st) : cellOf [{ n, st, cols }] j = (cols[j % st]?).map (colAt · (j / st)) := by
  have hp : 0 < st := by
    rcases Nat.eq_zero_or_pos st with h0 | h0
    · subst h0; simp at h
    · exact h0
  have hq : j / st < n := Nat.div_lt_of_lt_mul (by rw [Nat.mul_comm]; exact h)
  have hm : j % st < st := Nat.mod_lt _ hp
  have e : j % st + j / st * st = j := by rw [Nat.mul_comm]; exact Nat.mod_add_div j st
  have := seg_cell (s := { n, st, cols }) (l := []) (i := j / st) (c := j % st) hq hm
  simp only at this
  rw [e] at this; exact this

theorem app_cell {n m st j : Nat} {a b c : List Col} (h : colsApp a b = some c) (ha : ∀ x ∈ a, x.len = n) (hb : ∀ x ∈ b, x.len = m) (hj : j < (n + m) * st) :
    cellOf [{ n := n + m, st, cols := c }] j = if j < n * st then cellOf [{ n, st, cols := a }] j else cellOf [{ n := m, st, cols := b }] (j - n * st) := by
  obtain ⟨_, _, _, k4, k5⟩ := colsApp_at h ha hb
  have hp : 0 < st := by
    rcases Nat.eq_zero_or_pos st with h0 | h0
    · subst h0; simp at hj
    · exact h0
  rw [rows_cell hj]
  by_cases hlt : j < n * st
  · rw [if_pos hlt, rows_cell hlt, k4 _ _ (Nat.div_lt_of_lt_mul (by rw [Nat.mul_comm]; exact hlt))]
  · rw [if_neg hlt]
    have hj2 : j - n * st < m * st := by rw [Nat.add_mul] at hj; omega
    rw [rows_cell hj2]
    have e1 : j = (j - n * st) + n * st := by omega
    have e2 : j % st = (j - n * st) % st := by conv => lhs; rw [e1, Nat.add_mul_mod_self_right]
    have e3 : j / st = n + (j - n * st) / st := by conv => lhs; rw [e1, Nat.add_mul_div_right _ _ hp]; rw [Nat.add_comm]
    rw [e2, e3, k5 _ _ (Nat.div_lt_of_lt_mul (by rw [Nat.mul_comm st m]; exact hj2))]

/-- the run of rows that begins at an offset -/
def segOff : List Seg → Nat → Option Seg
  | [], _ => none
  | s :: l, off => match Nat.beq off 0 with
    | true => some s
    | false => match Nat.ble (s.n * s.st) off with
      | true => segOff l (off - s.n * s.st)
      | false => none

theorem segOff_spec : ∀ {l : List Seg} {off : Nat} {s : Seg}, segOff l off = some s → s ∈ l ∧ ∀ j v, cellOf [s] j = some v → cellOf l (off + j) = some v
  | [], _, _, h => by cases h
  | q :: l, off, s, h => by
    simp only [segOff] at h
    cases h0 : Nat.beq off 0 with
    | true =>
      have := Nat.eq_of_beq_eq_true h0
      simp only [h0, Option.some.injEq] at h
      subst h; subst this
      refine ⟨by simp, fun j v hv => ?_⟩
      have hj := cellOf_lt hv
      simp only [total, Nat.add_zero] at hj
      simp only [cellOf, Nat.zero_add, Nat.ble_eq_true_of_le (show j + 1 ≤ q.n * q.st from hj)] at hv ⊢
      exact hv
    | false =>
      cases h1 : Nat.ble (q.n * q.st) off with
      | false => simp [h0, h1] at h
      | true =>
        have hle := Nat.le_of_ble_eq_true h1
        simp only [h0, h1] at h
        obtain ⟨k1, k2⟩ := segOff_spec h
        refine ⟨by simp [k1], fun j v hv => ?_⟩
        have := k2 j v hv
        have hn : Nat.ble (off + j + 1) (q.n * q.st) = false := by
          cases hh : Nat.ble (off + j + 1) (q.n * q.st) with
          | false => rfl
          | true => have := Nat.le_of_ble_eq_true hh; omega
        simp only [cellOf, hn]
        rw [show off + j - q.n * q.st = off - q.n * q.st + j by omega]
        exact this

section
variable (E)
/-- the rows of a slice's first n elements, as columns -/
def rowsA (sz n : Nat) (x : AVal) : AM (List Col) :=
  match x with
  | .slice (.own id off i st) _ _ => match Nat.beq st sz with
    | true => .read id fun b => match b with
      | .segs l => match segOff l off with
        | some s => match Nat.beq s.st sz with
          | true => .need (decide (i + n ≤ s.n)) (.pure (s.cols.map (colTake · i n)))
          | false => .fail
        | none => .fail
      | _ => .fail
    | false => .fail
  | .slice (.ro tid par i 0) _ _ => match Nat.beq (E tid par).st sz with
    | true => .need (decide (i + n ≤ (E tid par).n)) (.pure ((E tid par).cols.map (colTake · i n)))
    | false => .fail
  | .str s => match Nat.beq sz 1 with
    | true => .need (decide (n ≤ s.size)) (.pure [.int .u8 ((s.data.toList.take n).map fun b => (b.toNat : Int))])
    | false => .fail
  | _ => .fail
end

/-- what rows in the world are -/
def RowsIn (E : Nat → Nat → Seg) (ra : Nat → Nat → Nat × Nat) (ι : Inj) (n sz : Nat) (cols : List Col) (vs : List Value) : Prop :=
  vs.length = n * sz ∧ cols.length = sz ∧ (∀ c ∈ cols, c.len = n) ∧ ∀ j v, cellOf [{ n, st := sz, cols }] j = some v → ∃ x, vs[j]? = some x ∧ Rel E ra ι v x

theorem RowsIn.mono {ι ι' : Inj} (he : Ext ι ι') {n sz : Nat} {cols : List Col} {vs : List Value} (h : RowsIn E ra ι n sz cols vs) : RowsIn E ra ι' n sz cols vs :=
  ⟨h.1, h.2.1, h.2.2.1, fun j v hv => let ⟨x, hx, hr⟩ := h.2.2.2 j v hv; ⟨x, hx, hr.mono he⟩⟩

theorem take_rows {s : Seg} (hw : s.WF) {i n : Nat} (hfit : i + n ≤ s.n) {j : Nat} (hj : j < n * s.st) :
    cellOf [{ n, st := s.st, cols := s.cols.map (colTake · i n) }] j = cellOf [s] (i * s.st + j) := by
  have hp : 0 < s.st := by
    rcases Nat.eq_zero_or_pos s.st with h0 | h0
    · rw [h0] at hj; simp at hj
    · exact h0
  have hq : j / s.st < n := Nat.div_lt_of_lt_mul (by rw [Nat.mul_comm]; exact hj)
  have hm : j % s.st < s.st := Nat.mod_lt _ hp
  have hlt : i * s.st + j < s.n * s.st := by
    have : (i + n) * s.st ≤ s.n * s.st := Nat.mul_le_mul_right _ hfit
    rw [Nat.add_mul] at this; omega
  rw [rows_cell hj]
  have := rows_cell (n := s.n) (st := s.st) (cols := s.cols) hlt
  rw [show [s] = [{ n := s.n, st := s.st, cols := s.cols }] from rfl, this]
  have e1 : (i * s.st + j) % s.st = j % s.st := by rw [Nat.add_comm, Nat.add_mul_mod_self_right]
  have e2 : (i * s.st + j) / s.st = i + j / s.st := by rw [Nat.add_comm, Nat.add_mul_div_right _ _ hp]; rw [Nat.add_comm]
  rw [e1, e2, List.getElem?_map]
  cases hc : s.cols[j % s.st]? with
  | none => rfl
  | some c =>
    have hcl : c.len = s.n := hw.2 c (List.mem_of_getElem? hc)
    simp only [Option.map_some, Option.some.injEq]
    exact (colTake_at (by omega)).2 _ hq

theorem rowsA_sound {ι : Inj} {h : Log} {w : World} (H : WRel E ra base ι h w) {sz n : Nat} {x : AVal} {x' : Value} (hx : Rel E ra ι x x') {cols : List Col} {d : Log} {r : List Nat} (hr : (rowsA E sz n x).Runs h cols d r)
    (hn : ∀ a l c, x = .slice a l c → n ≤ l) :
    d = [] ∧ ∃ vs, (∀ w₁ : World, w₁.heap = w.heap → (Builtin.firstCells sz n x').run P w₁ = .ok vs.toArray w₁) ∧ RowsIn E ra ι n sz cols vs := by
  have wrap : ∀ (b o : Nat) (s : Seg) (i : Nat), s.WF → s.st = sz → i + n ≤ s.n → (∀ j v, cellOf [s] j = some v → ∃ c, w.cell? ⟨b, o + j, none⟩ = some c ∧ Rel E ra ι v c) →
      ∃ vs : List Value, (∀ w₁ : World, w₁.heap = w.heap → (loadCells ⟨b, o + i * sz, none⟩ (n * sz)).run P w₁ = .ok vs.toArray w₁) ∧ RowsIn E ra ι n sz (s.cols.map (colTake · i n)) vs := by
    intro b o s i hw hst hfit hc
    subst hst
    have hall : ∀ j, j < n * s.st → ∃ v, cellOf [s] (i * s.st + j) = some v := fun j hj => by
      refine cellOf_some (fun q hq => by simp only [List.mem_singleton] at hq; subst hq; exact hw) ?_
      have : (i + n) * s.st ≤ s.n * s.st := Nat.mul_le_mul_right _ hfit
      rw [Nat.add_mul] at this; simp only [total]; omega
    let f : Nat → Value := fun j => (w.cell? ⟨b, o + i * s.st + j, none⟩).getD undef
    have hcell : ∀ j, j < n * s.st → w.cell? ⟨b, o + i * s.st + j, none⟩ = some (f j) := fun j hj => by
      obtain ⟨v, hv⟩ := hall j hj
      obtain ⟨c, hc1, _⟩ := hc _ v hv
      have e : o + (i * s.st + j) = o + i * s.st + j := by omega
      rw [e] at hc1
      simp only [f, hc1, Option.getD_some]
    refine ⟨(List.range (n * s.st)).map f, fun w₁ hh => run_loadCells' (by simp) (fun k hk => by rw [cell?_of_heap (w := w) (by rw [hh]), hcell k hk]; simp [hk]), by simp, by simp [hw.1], fun c hc => ?_, fun j v hv => ?_⟩
    · simp only [List.mem_map] at hc
      obtain ⟨q, hq, rfl⟩ := hc
      exact (colTake_at (by rw [hw.2 q hq]; exact hfit)).1
    · have hj := cellOf_lt hv
      simp only [total, Nat.add_zero] at hj
      rw [take_rows hw hfit hj] at hv
      obtain ⟨c, hc1, hc2⟩ := hc _ v hv
      have e : o + (i * s.st + j) = o + i * s.st + j := by omega
      rw [e, hcell j hj] at hc1
      simp only [Option.some.injEq] at hc1
      exact ⟨c, by simp [hj, hc1], hc2⟩
  unfold rowsA at hr
  split at hr
  · rename_i id off i st len cap
    cases hx with | slice hS hNm =>
    rename_i y cap'
    obtain ⟨g1, g2, g3⟩ := hS
    have hnl : n ≤ len := hn _ _ _ rfl
    cases hst : Nat.beq st sz with
    | false => simp [hst, AM.Runs] at hr
    | true =>
      have := Nat.eq_of_beq_eq_true hst
      subst this
      simp only [hst, AM.Runs] at hr
      obtain ⟨B, r', hv, rfl, hr⟩ := hr
      have hB := H.own id B hv
      split at hr
      · rename_i l
        split at hr
        · rename_i s hso
          obtain ⟨hsm, hsc⟩ := segOff_spec hso
          obtain ⟨b', o', cs', el, fz, h1, h2, h3, h4, h5, h6, h7⟩ := hB
          cases hss : Nat.beq s.st st with
          | false => simp [hss, AM.Runs] at hr
          | true =>
            have hse := Nat.eq_of_beq_eq_true hss
            simp only [hss, AM.Runs] at hr
            obtain ⟨hfit, rfl, rfl, rfl⟩ := hr
            have hfit' := of_decide_eq_true hfit
            obtain ⟨vs, k1, k2⟩ := wrap b' (o' + off) s i (h6 s hsm) hse hfit' (fun j v hv => by
              obtain ⟨c, hc1, hc2⟩ := h7 _ v (hsc j v hv)
              exact ⟨c, by rw [cell_at h3, Nat.add_assoc]; exact hc1, hc2⟩)
            refine ⟨rfl, vs, ?_, k2⟩
            rcases g3 with g3 | ⟨b, o, sz', g4, rfl, g5⟩
            · have hz : n = 0 := by omega
              subst hz
              have hvs : vs = [] := List.eq_nil_of_length_eq_zero (by rw [k2.1]; simp)
              subst hvs
              intro w₁ _
              simp [Builtin.firstCells, loadCells, loadCellsFrom]
            · rw [h1] at g4
              simp only [Option.some.injEq, Prod.mk.injEq] at g4
              obtain ⟨rfl, rfl, rfl⟩ := g4
              intro w₁ hh
              simp only [Builtin.firstCells]
              simpa using k1 w₁ hh
        · simp [AM.Runs] at hr
      · simp [AM.Runs] at hr
  · rename_i tid par i len cap
    cases hx with | slice hS hNm =>
    rename_i y cap'
    obtain ⟨g1, g2, g3⟩ := hS
    have hnl : n ≤ len := hn _ _ _ rfl
    cases hst : Nat.beq (E tid par).st sz with
    | false => simp [hst, AM.Runs] at hr
    | true =>
      have hse := Nat.eq_of_beq_eq_true hst
      simp only [hst, AM.Runs] at hr
      obtain ⟨hfit, rfl, rfl, rfl⟩ := hr
      have hfit' := of_decide_eq_true hfit
      obtain ⟨vs, k1, k2⟩ := wrap (ra tid par).1 (ra tid par).2 (E tid par) i (H.roWF tid par) hse hfit' (fun j v hv => H.ro tid par j v hv)
      refine ⟨rfl, vs, ?_, k2⟩
      rcases g3 with g3 | g3
      · have hz : n = 0 := by omega
        subst hz
        have hvs : vs = [] := List.eq_nil_of_length_eq_zero (by rw [k2.1]; simp)
        subst hvs
        intro w₁ _
        simp [Builtin.firstCells, loadCells, loadCellsFrom]
      · simp only at g3
        subst g3
        intro w₁ hh
        simp only [Builtin.firstCells]
        rw [hse]; simpa using k1 w₁ hh
  · rename_i s
    cases hx
    cases hst : Nat.beq sz 1 with
    | false => simp [hst, AM.Runs] at hr
    | true =>
      have := Nat.eq_of_beq_eq_true hst
      subst this
      simp only [AM.Runs] at hr
      obtain ⟨hfit, rfl, rfl, rfl⟩ := hr
      have hfit' := of_decide_eq_true hfit
      have hlen : (s.data.toList.take n).length = n := by rw [List.length_take, Nat.min_eq_left]; simpa using hfit'
      refine ⟨rfl, (s.data.toList.take n).map fun b => .int .u8 b.toNat, ?_, by simpa using hlen, rfl, fun c hc => ?_, fun j v hv => ?_⟩
      · intro w₁ _
        simp only [Builtin.firstCells, Sem.run_pure]
        congr 1
        apply Array.ext'
        rw [show s = ByteArray.mk s.data.toList.toArray from rfl, ByteArray.extract_mk]
        simp
      · simp only [List.mem_singleton] at hc; subst hc; simpa [Col.len] using hlen
      · have hj := cellOf_lt hv
        simp only [total, Nat.mul_one, Nat.add_zero] at hj
        rw [rows_cell (by simpa using hj)] at hv
        simp only [Nat.mod_one, List.getElem?_cons_zero, Nat.div_one, Option.map_some, Option.some.injEq] at hv
        subst hv
        have hjl : j < (s.data.toList.take n).length := by omega
        refine ⟨.int .u8 ((s.data.toList.take n)[j].toNat : Int), by rw [List.getElem?_map, List.getElem?_eq_getElem hjl]; rfl, ?_⟩
        simp only [colAt, List.getD_eq_getElem?_getD, List.getElem?_map, List.getElem?_eq_getElem hjl, Option.map_some, Option.getD_some]
        exact .int _ _
  · simp [AM.Runs] at hr

theorem rows_oneCell {ι : Inj} {n sz : Nat} {cols : List Col} {vs : List Value} (h : RowsIn E ra ι n sz cols vs) (hc : cols.all colCells = true) : ∀ v ∈ vs, v.oneCell' = true := by
  intro v hv
  obtain ⟨k, hk, rfl⟩ := List.getElem_of_mem hv
  have hk' : k < n * sz := by rw [← h.1]; exact hk
  have hp : 0 < sz := by
    rcases Nat.eq_zero_or_pos sz with h0 | h0
    · subst h0; simp at hk'
    · exact h0
  have hm : k % sz < cols.length := by rw [h.2.1]; exact Nat.mod_lt _ hp
  have hq : k / sz < n := Nat.div_lt_of_lt_mul (by rw [Nat.mul_comm]; exact hk')
  have hcell := rows_cell (cols := cols) hk'
  rw [List.getElem?_eq_getElem hm, Option.map_some] at hcell
  obtain ⟨x, hx, hr⟩ := h.2.2.2 k _ hcell
  rw [List.getElem?_eq_getElem hk] at hx
  simp only [Option.some.injEq] at hx
  rw [hx]
  refine rel_oneCell hr ?_
  have hcc := List.all_eq_true.1 hc _ (List.getElem_mem hm)
  have hlen := h.2.2.1 _ (List.getElem_mem hm)
  revert hcc hlen
  cases cols[k % sz] with
  | int k xs => intro _ _; rfl
  | bool xs => intro _ _; rfl
  | str xs => intro _ _; rfl
  | val xs =>
    intro hcc hlen
    simp only [Col.len] at hlen
    simp only [colAt, List.getD_eq_getElem?_getD, List.getElem?_eq_getElem (show k / sz < xs.length by omega), Option.getD_some]
    exact List.all_eq_true.1 hcc _ (List.getElem_mem _)

end Go.Proofs.Ytbpcfjhnkjobaaa.Ab
