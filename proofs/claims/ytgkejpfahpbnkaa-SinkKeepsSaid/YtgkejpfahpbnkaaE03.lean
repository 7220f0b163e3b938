/- The engine. -/
import Derived.Test.YtgkejpfahpbnkaaE02
import Derived.Still
import Derived.MapKept
import Derived.RangeFuncLeaves

namespace Go.Proofs.Ytgkejpfahpbnkaa.Ab
variable {P : Program} {E : Nat → Nat → Seg} {ra : Nat → Nat → Nat × Nat} {base : Nat}
def colPut (a : Col) (i : Nat) (b : Col) : Option Col :=
  match a, b with
  | .int k xs, .int k' ys => match decide (k = k') with
    | true => some (.int k (xs.take i ++ (ys ++ xs.drop (i + ys.length))))
    | false => none
  | .bool xs, .bool ys => some (.bool (xs.take i ++ (ys ++ xs.drop (i + ys.length))))
  | .str xs, .str ys => some (.str (xs.take i ++ (ys ++ xs.drop (i + ys.length))))
  | .val xs, .val ys => some (.val (xs.take i ++ (ys ++ xs.drop (i + ys.length))))
  | .int k xs, .val [] => some (.int k xs)
  | .bool xs, .val [] => some (.bool xs)
  | .str xs, .val [] => some (.str xs)
  | .val [], .int _ _ => some (.val [])
  | .val [], .bool _ => some (.val [])
  | .val [], .str _ => some (.val [])
  | .val [], .nilc _ => some (.val [])
  | .nilc n, .nilc _ => some (.nilc n)
  | .nilc n, .val ys => match allNils ys with
    | true => some (.nilc n)
    | false => none
  | _, _ => none
def colsPut : List Col → Nat → List Col → Option (List Col)
  | [], _, [] => some []
  | a :: l, i, b :: r => match colPut a i b, colsPut l i r with
    | some c, some cs => some (c :: cs)
    | _, _ => none
  | _, _, _ => none
theorem put_get {α : Type} (xs ys : List α) (i r : Nat) (d : α) (h : i + ys.length ≤ xs.length) :
    (xs.take i ++ (ys ++ xs.drop (i + ys.length))).length = xs.length ∧ (xs.take i ++ (ys ++ xs.drop (i + ys.length))).getD r d = if i ≤ r ∧ r < i + ys.length then ys.getD (r - i) d else xs.getD r d := by
  refine ⟨by simp; omega, ?_⟩
  have ht : (xs.take i).length = i := by simp; omega
  simp only [List.getD_eq_getElem?_getD]
  by_cases h1 : r < i
  · rw [List.getElem?_append_left (by omega), if_neg (by omega), List.getElem?_take, if_pos h1]
  · rw [List.getElem?_append_right (by omega), ht]
    by_cases h2 : r < i + ys.length
    · rw [if_pos ⟨by omega, h2⟩, List.getElem?_append_left (by omega)]
    · rw [if_neg (by omega), List.getElem?_append_right (by omega), List.getElem?_drop]
      congr 2; omega
theorem colPut_at {a b c : Col} {i m : Nat} (h : colPut a i b = some c) (hb : b.len = m) (hfit : i + m ≤ a.len) : c.len = a.len ∧ ∀ r, colAt c r = if i ≤ r ∧ r < i + m then colAt b (r - i) else colAt a r := by
  have none' : ∀ ys : List AVal, b = .val ys → ys = [] → a = c → c.len = a.len ∧ ∀ r, colAt c r = if i ≤ r ∧ r < i + m then colAt b (r - i) else colAt a r := by
    rintro ys rfl rfl rfl
    have : m = 0 := by rw [← hb]; rfl
    subst this
    exact ⟨rfl, fun r => by rw [if_neg (by omega)]⟩
  have nothing : ∀ xs : List AVal, a = .val xs → xs = [] → a = c → c.len = a.len ∧ ∀ r, colAt c r = if i ≤ r ∧ r < i + m then colAt b (r - i) else colAt a r := by
    rintro xs rfl rfl rfl
    simp only [Col.len, List.length_nil] at hfit
    exact ⟨rfl, fun r => by rw [if_neg (by omega)]⟩
  cases a <;> cases b <;> simp only [colPut] at h <;> try (cases h; done)
  · rename_i k xs k' ys
    by_cases hk : k = k'
    · subst hk
      simp only [decide_true, Option.some.injEq] at h; subst h
      simp only [Col.len] at hb hfit
      subst hb
      refine ⟨(put_get xs ys i 0 0 hfit).1, fun r => ?_⟩
      simp only [colAt, (put_get xs ys i r 0 hfit).2]
      split <;> rfl
    · simp [hk] at h
  · rename_i k xs ys
    cases ys with
    | nil => exact none' [] rfl rfl (by simpa using h)
    | cons v ys => simp at h
  · rename_i xs ys
    simp only [Option.some.injEq] at h; subst h
    simp only [Col.len] at hb hfit
    subst hb
    refine ⟨(put_get xs ys i 0 false hfit).1, fun r => ?_⟩
    simp only [colAt, (put_get xs ys i r false hfit).2]
    split <;> rfl
  · rename_i xs ys
    cases ys with
    | nil => exact none' [] rfl rfl (by simpa using h)
    | cons v ys => simp at h
  · rename_i xs ys
    simp only [Option.some.injEq] at h; subst h
    simp only [Col.len] at hb hfit
    subst hb
    refine ⟨(put_get xs ys i 0 ByteArray.empty hfit).1, fun r => ?_⟩
    simp only [colAt, (put_get xs ys i r ByteArray.empty hfit).2]
    split <;> rfl
  · rename_i xs ys
    cases ys with
    | nil => exact none' [] rfl rfl (by simpa using h)
    | cons v ys => simp at h
  · rename_i xs k ys
    cases xs with
    | nil => exact nothing [] rfl rfl (by simpa using h)
    | cons v xs => simp at h
  · rename_i xs ys
    cases xs with
    | nil => exact nothing [] rfl rfl (by simpa using h)
    | cons v xs => simp at h
  · rename_i xs ys
    cases xs with
    | nil => exact nothing [] rfl rfl (by simpa using h)
    | cons v xs => simp at h
  · rename_i xs ys
    simp only [Option.some.injEq] at h; subst h
    simp only [Col.len] at hb hfit
    subst hb
    refine ⟨(put_get xs ys i 0 .undef hfit).1, fun r => ?_⟩
    simp only [colAt, (put_get xs ys i r .undef hfit).2]
  · rename_i xs m'
    cases xs with
    | nil => exact nothing [] rfl rfl (by simpa using h)
    | cons v xs => simp at h
  · rename_i n ys
    cases hn : allNils ys with
    | false => simp [hn] at h
    | true =>
      simp only [hn, Option.some.injEq] at h; subst h
      simp only [Col.len] at hb
      refine ⟨rfl, fun r => ?_⟩
      split
      · exact (allNils_at hn _ (by omega)).symm
      · rfl
  · simp only [Option.some.injEq] at h; subst h
    exact ⟨rfl, fun r => by split <;> rfl⟩
theorem colsPut_at : ∀ {a b c : List Col} {i n m : Nat}, colsPut a i b = some c → (∀ x ∈ a, x.len = n) → (∀ x ∈ b, x.len = m) → i + m ≤ n →
    c.length = a.length ∧ b.length = a.length ∧ (∀ x ∈ c, x.len = n) ∧ ∀ (k r : Nat), (c[k]?).map (colAt · r) = if i ≤ r ∧ r < i + m then (b[k]?).map (colAt · (r - i)) else (a[k]?).map (colAt · r)
  | [], [], c, i, n, m, h, _, _, _ => by simp only [colsPut, Option.some.injEq] at h; subst h; simp
  | [], _ :: _, c, i, n, m, h, _, _, _ => by simp [colsPut] at h
  | _ :: _, [], c, i, n, m, h, _, _, _ => by simp [colsPut] at h
  | x :: a, y :: b, c, i, n, m, h, ha, hb, hf => by
    simp only [colsPut] at h
    cases h1 : colPut x i y with
    | none => simp [h1] at h
    | some z =>
      cases h2 : colsPut a i b with
      | none => simp [h1, h2] at h
      | some cs =>
        simp only [h1, h2, Option.some.injEq] at h
        subst h
        have hx : x.len = n := ha x (by simp)
        have hy : y.len = m := hb y (by simp)
        obtain ⟨g1, g2⟩ := colPut_at h1 hy (by omega)
        obtain ⟨k1, k2, k3, k4⟩ := colsPut_at h2 (fun q hq => ha q (by simp [hq])) (fun q hq => hb q (by simp [hq])) hf
        refine ⟨by simp [k1], by simp [k2], fun q hq => ?_, fun k r => ?_⟩
        · simp only [List.mem_cons] at hq
          rcases hq with rfl | hq
          · omega
          · exact k3 q hq
        · cases k with
          | zero => simp only [List.getElem?_cons_zero, Option.map_some, g2]; split <;> rfl
          | succ k => simpa using k4 k r
def flatOf (n st : Nat) (cols : List Col) : List AVal := (List.range (n * st)).map fun j => (cellOf [{ n, st, cols }] j).getD .undef
theorem flatOf_rel {ι : Inj} {n sz : Nat} {cols : List Col} {vs : List Value} (h : RowsIn E ra ι n sz cols vs) : RelL E ra ι (flatOf n sz cols) vs := by
  refine RelL.of_get (by simp [flatOf, h.1]) fun i v x hi hx => ?_
  simp only [flatOf, List.getElem?_map] at hi
  have hlt : i < n * sz := by
    rcases Nat.lt_or_ge i (n * sz) with hh | hh
    · exact hh
    · rw [List.getElem?_eq_none (by simpa using hh)] at hi; simp at hi
  rw [List.getElem?_range hlt] at hi
  simp only [Option.map_some, Option.some.injEq] at hi
  obtain ⟨u, hu⟩ := cellOf_some (l := [{ n, st := sz, cols }]) (fun s hs => by simp only [List.mem_singleton] at hs; subst hs; exact ⟨h.2.1, h.2.2.1⟩) (j := i) (by simpa [total] using hlt)
  rw [hu] at hi
  simp only [Option.getD_some] at hi
  subst hi
  obtain ⟨y, hy, hr⟩ := h.2.2.2 i _ hu
  rw [hx] at hy
  simp only [Option.some.injEq] at hy
  subst hy; exact hr
theorem put_sets {s : Seg} {i m : Nat} {new cols : List Col} (hw : s.WF) (h : colsPut s.cols i new = some cols) (hn : ∀ c ∈ new, c.len = m) (hfit : i + m ≤ s.n) :
    Sets [s] [{ s with cols }] (i * s.st) (flatOf m s.st new) := by
  obtain ⟨k1, k2, k3, k4⟩ := colsPut_at h hw.2 hn hfit
  have hle : (i + m) * s.st ≤ s.n * s.st := Nat.mul_le_mul_right _ hfit
  rw [Nat.add_mul] at hle
  refine ⟨rfl, fun q hq => ?_, by simp only [total, flatOf, List.length_map, List.length_range]; omega, fun k => ?_⟩
  · simp only [List.mem_singleton] at hq; subst hq; exact ⟨by simp [k1, hw.1], by simpa using k3⟩
  · by_cases hk : k < s.n * s.st
    · have hp : 0 < s.st := by
        rcases Nat.eq_zero_or_pos s.st with h0 | h0
        · rw [h0] at hk; simp at hk
        · exact h0
      have e1 := rows_cell (n := s.n) (st := s.st) (cols := cols) hk
      have e2 := rows_cell (n := s.n) (st := s.st) (cols := s.cols) hk
      rw [show ([{ s with cols }] : List Seg) = [{ n := s.n, st := s.st, cols }] from rfl, e1, k4, show [s] = [{ n := s.n, st := s.st, cols := s.cols }] from rfl, e2]
      simp only [flatOf, List.length_map, List.length_range]
      by_cases hc : i * s.st ≤ k ∧ k < i * s.st + m * s.st
      · have hq1 : i ≤ k / s.st := (Nat.le_div_iff_mul_le hp).2 hc.1
        have hq2 : k / s.st < i + m := (Nat.div_lt_iff_lt_mul hp).2 (by rw [Nat.add_mul]; exact hc.2)
        rw [if_pos ⟨hq1, hq2⟩, if_pos hc]
        have hj : k - i * s.st < m * s.st := by omega
        rw [List.getElem?_map, List.getElem?_range hj, Option.map_some, rows_cell hj]
        have m1 : (k - i * s.st) % s.st = k % s.st := by
          conv => rhs; rw [show k = (k - i * s.st) + i * s.st by omega, Nat.add_mul_mod_self_right]
        have m2 : (k - i * s.st) / s.st = k / s.st - i := by
          have : k / s.st = (k - i * s.st) / s.st + i := by
            conv => lhs; rw [show k = (k - i * s.st) + i * s.st by omega, Nat.add_mul_div_right _ _ hp]
          omega
        rw [m1, m2]
        have hm : k % s.st < new.length := by rw [k2, hw.1]; exact Nat.mod_lt _ hp
        rw [List.getElem?_eq_getElem hm]; rfl
      · rw [if_neg hc, if_neg]
        rintro ⟨ha, hb⟩
        apply hc
        have ha' := (Nat.le_div_iff_mul_le hp).1 ha
        have hb' := (Nat.div_lt_iff_lt_mul hp).1 hb
        rw [Nat.add_mul] at hb'
        exact ⟨ha', hb'⟩
    · have n1 : cellOf [{ s with cols }] k = none := by
        cases hc : cellOf [{ s with cols }] k with
        | none => rfl
        | some v => have := cellOf_lt hc; simp only [total, Nat.add_zero] at this; exact absurd this hk
      have n2 : cellOf [s] k = none := by
        cases hc : cellOf [s] k with
        | none => rfl
        | some v => have := cellOf_lt hc; simp only [total, Nat.add_zero] at this; exact absurd this hk
      rw [n1, n2, if_neg]
      simp only [flatOf, List.length_map, List.length_range]
      omega
section
variable (P E)
def grownA (sz n : Nat) (cols : List Col) : AM AVal := .alloc (.segs [{ n, st := sz, cols }]) fun id => .pure (.slice (.own id 0 0 sz) n none)
def lenN : AVal → Option Nat
  | .nils => some 0
  | .slice _ n _ => some n
  | .str s => some s.size
  | _ => none
def newRowsA (sz n : Nat) (x : AVal) (like : List Col) : AM (List Col) :=
  match x with
  | .nils => .pure (like.map (colTake · 0 0))
  | x => rowsA E sz n x
def growA (sz bytes n : Nat) (s : AVal) (len : Nat) (x : AVal) : AM AVal :=
  .need (decide ((len + n) * bytes ≤ 35184372088832)) <| (rowsA E sz len s).bind fun old => (newRowsA E sz n x old).bind fun new => match colsApp old new with
    | some cols => grownA sz (len + n) cols
    | none => .fail
def appendB (sz bytes n : Nat) (s x : AVal) : AM AVal :=
  match s with
  | .nils => .br (Nat.beq n 0) (.pure .nils) (.need (decide (n * bytes ≤ 35184372088832)) ((rowsA E sz n x).bind fun new => grownA sz n (new.map nilCol)))
  | .slice a len (some cap) => .br (Nat.ble (len + n) cap)
      (match a with
      | .own id 0 i st => match Nat.beq st sz with
        | true => .read id fun b => match b with
          | .segs [s0] => match Nat.beq s0.st sz with
            | true => .need (decide (i + len + n ≤ s0.n)) <| (newRowsA E sz n x s0.cols).bind fun new => .need (new.all colCells) <| match colsPut s0.cols (i + len) new with
              | some cols => .upd id (some (.segs [{ s0 with cols }])) (.pure (.slice (.own id 0 i st) (len + n) (some cap)))
              | none => .fail
            | false => .fail
          | _ => .fail
        | false => .fail
      | _ => .fail)
      (growA E sz bytes n s len x)
  | .slice (.own id 0 i st) len none => match Nat.beq st sz with
    | true => .read id fun b => match b with
      | .segs [_] => .need (decide ((len + n) * bytes ≤ 35184372088832)) <| (rowsA E sz len (.slice (.own id 0 i st) len none)).bind fun old => (newRowsA E sz n x old).bind fun new => .need (new.all colCells) <| match colsApp old new with
        | some cols => .upd id none (grownA sz (len + n) cols)
        | none => .fail
      | _ => .fail
    | false => .fail
  | _ => .fail
def appendA (ts : Array TypeId) (s x : AVal) : AM AVal :=
  match ts[0]?, (ts[1]?).bind P.underlying with
  | some t, some u => match u with
    | .int _ => .fail
    | _ => match P.underlying t with
      | some (.slice e) => match P.info? e, (zeroA P e).bind cellsOfV with
        | some inf, some zc => match Nat.ble 1 inf.bytes && (Nat.ble 1 inf.size && Nat.beq zc.length inf.size), lenN x with
          | true, some n => appendB E inf.size inf.bytes n s x
          | _, _ => .fail
        | _, _ => .fail
      | _ => .fail
  | _, _ => .fail
end
theorem newRowsA_sound {ι : Inj} {h : Log} {w : World} (H : WRel E ra base ι h w) {sz n : Nat} {x : AVal} {x' : Value} (hx : Rel E ra ι x x') {like cols : List Col} {d : Log} {r : List Nat} (hr : (newRowsA E sz n x like).Runs h cols d r)
    (hn : lenN x = some n) (hl : like.length = sz) : d = [] ∧ ∃ vs, (∀ w₁ : World, w₁.heap = w.heap → (Builtin.firstCells sz n x').run P w₁ = .ok vs.toArray w₁) ∧ RowsIn E ra ι n sz cols vs := by
  unfold newRowsA at hr
  split at hr
  · cases hx
    simp only [lenN, Option.some.injEq] at hn
    subst hn
    simp only [AM.Runs] at hr
    obtain ⟨rfl, rfl, rfl⟩ := hr
    refine ⟨rfl, [], fun w₁ _ => by simp [Builtin.firstCells], by simp, by simp [hl], fun c hc => ?_, fun j v hv => ?_⟩
    · simp only [List.mem_map] at hc
      obtain ⟨q, _, rfl⟩ := hc
      exact (colTake_at (by omega)).1
    · have := cellOf_lt hv; simp [total] at this
  · exact rowsA_sound H hx hr (fun a l c e => by subst e; simp only [lenN, Option.some.injEq] at hn; omega)
structure AppTypes (P : Program) (ts : Array TypeId) (e : TypeId) (inf : TypeInfo) (z : Value) : Prop where
  slice : ∃ t, ts[0]? = some t ∧ P.underlying t = some (.slice e)
  other : ∃ u d, ts[1]? = some u ∧ P.underlying u = some d ∧ ∀ k, d ≠ .int k
  info : P.info? e = some inf
  zero : inf.zero = some z
  bytes : 1 ≤ inf.bytes
  size : 1 ≤ inf.size
  zsize : z.cells.size = inf.size
theorem run_append_in {w w' : World} {ts : Array TypeId} {ty e : TypeId} {inf : TypeInfo} {z : Value} (T : AppTypes P ts e inf z) {bs : Option Addr} {sLen sCap n : Nat} {x' : Value} {vs : List Value}
    (hl : (Builtin.lenOf x').run P w = .ok n w) (hc : (Builtin.firstCells inf.size n x').run P w = .ok vs.toArray w) (hfit : sLen + n ≤ sCap)
    (hst : (match bs with | some a => storeCells (a.add (sLen * inf.size)) vs | none => (pure () : Sem Unit)).run P w = .ok () w') :
    (Builtin.append_ ts ty #[.slice bs sLen sCap, x']).run P w = .ok (.slice bs (sLen + n) sCap) w' := by
  obtain ⟨⟨t, h1, h2⟩, ⟨u, d, h3, h4, h5⟩, h6, h7, h8, h9, h10⟩ := T
  cases bs with
  | none =>
    simp only [Sem.run_pure] at hst
    cases hst
    simp [Builtin.append_, h1, h3, run_underlying h2, run_underlying h4, run_sizeOf h6, hl, hfit, hc]
  | some a =>
    simp only at hst
    simp [Builtin.append_, h1, h3, run_underlying h2, run_underlying h4, run_sizeOf h6, hl, hfit, hc, hst]
theorem run_append_out {w : World} {ts : Array TypeId} {ty e : TypeId} {inf : TypeInfo} {z : Value} (T : AppTypes P ts e inf z) {bs : Option Addr} {sLen sCap n : Nat} {x' : Value} {vs os : List Value}
    (hl : (Builtin.lenOf x').run P w = .ok n w) (ho : ∀ w₁ : World, w₁.heap = w.heap → (Builtin.firstCells inf.size sLen (.slice bs sLen sCap)).run P w₁ = .ok os.toArray w₁) (hc : ∀ w₁ : World, w₁.heap = w.heap → (Builtin.firstCells inf.size n x').run P w₁ = .ok vs.toArray w₁) (hfit : sCap < sLen + n)
    (hby : (sLen + n) * inf.bytes ≤ 35184372088832) :
    ∃ (w' : World) (cap : Nat) (rest : Array Value), sLen + n ≤ cap ∧ rest.size = (cap - (sLen + n)) * z.cells.size ∧ (Builtin.append_ ts ty #[.slice bs sLen sCap, x']).run P w = .ok (.slice (some ⟨w.heap.size, 0, none⟩) (sLen + n) cap) w' ∧
      w'.heap = w.heap.push (.cells (os.toArray ++ vs.toArray ++ rest) e) ∧ w'.os = w.os ∧ w'.tape = w.tape ∧ w'.output = w.output := by
  obtain ⟨⟨t, h1, h2⟩, ⟨u, d, h3, h4, h5⟩, h6, h7, h8, h9, h10⟩ := T
  have hn : ¬ (sLen + n ≤ sCap) := by omega
  have hg := growslice_fits (need := sLen + n) (old := sCap) (bytes := inf.bytes) hfit (by omega)
  have hle : sLen + n ≤ (sLen + n) * inf.bytes := Nat.le_mul_of_pos_right _ h8
  have hmax : ¬ (((sLen + n : Nat) : Int) > IntKind.i64.max) := by
    have : IntKind.i64.max = 9223372036854775807 := rfl
    rw [this]; omega
  have hno : ¬ (281474976710656 < Builtin.nextslicecap (sLen + n) sCap * inf.bytes) := by omega
  let cap := (Question.appendCap (sLen + n) sCap e).cut (w.tape w.drawn (.appendCap (sLen + n) sCap e))
  let w1 : World := { w with drawn := w.drawn + 1 }
  have hcap : sLen + n ≤ cap := by simp [cap, Question.cut]
  have o1 := ho w1 rfl
  have c1 := hc w1 rfl
  have hzv : ∀ w₁ : World, (zeroValue e).run P w₁ = .ok z w₁ := fun w₁ => by simp [zeroValue, typeInfo, h6, h7]
  have hti : ∀ w₁ : World, (typeInfo e).run P w₁ = .ok inf w₁ := fun w₁ => by simp [typeInfo, h6]
  have hb0 : inf.bytes ≠ 0 := by omega
  refine ⟨{ w1 with heap := w.heap.push (.cells (os.toArray ++ vs.toArray ++ Builtin.zeroCells z.cells (cap - (sLen + n))) e) }, cap, Builtin.zeroCells z.cells (cap - (sLen + n)), hcap, size_zeroCells _ _, ?_, rfl, rfl, rfl, rfl⟩
  have hforced : (Question.appendCap (sLen + n) sCap e).forced = false := rfl
  have o2 : Sem.run P (Builtin.firstCells inf.size sLen (Value.slice bs sLen sCap)) w.drew = Result.ok os.toArray w.drew := o1
  have c2 : Sem.run P (Builtin.firstCells inf.size n x') w.drew = Result.ok vs.toArray w.drew := c1
  simp [Builtin.append_, h1, h3, run_underlying h2, run_underlying h4, run_sizeOf h6, hl, hn, hb0, hti, hno, hforced, hzv, newRow, o2, c2]
  constructor
  · rfl
  · show World.mk _ _ _ _ _ = World.mk _ _ _ _ _
    congr 2
    simp only [cap]
    congr 1
    apply Array.ext'
    simp
theorem lenN_run {ι : Inj} {w : World} {x : AVal} {x' : Value} {n : Nat} (hx : Rel E ra ι x x') (h : lenN x = some n) : (Builtin.lenOf x').run P w = .ok n w := by
  cases hx <;> simp only [lenN, Option.some.injEq] at h <;> first | (cases h; done) | (subst h; rfl)
theorem grown_sound {ι : Inj} {h : Log} {w w' : World} (H : WRel E ra base ι h w) {id sz a b : Nat} {old new cols : List Col} {os vs : List Value} {rest : Array Value} {el : TypeId} (hi : id ∉ ids h)
    (hc : colsApp old new = some cols) (ho : RowsIn E ra ι a sz old os) (hn : RowsIn E ra ι b sz new vs) (hh : w'.heap = w.heap.push (.cells (os.toArray ++ vs.toArray ++ rest) el)) (h1 : w'.os = w.os) (h2 : w'.tape = w.tape) (h3 : w'.output = w.output) :
    WRel E ra base (put ι id (w.heap.size, 0, (os.toArray ++ vs.toArray ++ rest).size)) ((id, some (.segs [{ n := a + b, st := sz, cols }])) :: h) w' ∧
      Keeps ι h w (put ι id (w.heap.size, 0, (os.toArray ++ vs.toArray ++ rest).size)) ((id, some (.segs [{ n := a + b, st := sz, cols }])) :: h) w' := by
  obtain ⟨k1, k2, k3, _, _⟩ := colsApp_at hc ho.2.2.1 hn.2.2.1
  refine alloc_sound H hi (fun s hs => by simp only [List.mem_singleton] at hs; subst hs; exact ⟨by simp [k1, ho.2.1], k3⟩) (by simp [total, ho.1, hn.1, Nat.add_mul]) (fun j v hv => ?_) hh h1 h2 h3
  have hj := cellOf_lt hv
  simp only [total, Nat.add_zero] at hj
  rw [app_cell hc ho.2.2.1 hn.2.2.1 hj] at hv
  by_cases hlt : j < a * sz
  · rw [if_pos hlt] at hv
    obtain ⟨x, hx, hr⟩ := ho.2.2.2 j v hv
    refine ⟨x, ?_, hr⟩
    rw [Array.getElem?_append_left (by simp [ho.1]; omega), Array.getElem?_append_left (by simp [ho.1]; omega)]
    simpa using hx
  · rw [if_neg hlt] at hv
    have hlt2 : j - a * sz < b * sz := by rw [Nat.add_mul] at hj; omega
    obtain ⟨x, hx, hr⟩ := hn.2.2.2 _ v hv
    refine ⟨x, ?_, hr⟩
    rw [Array.getElem?_append_left (by simp [ho.1, hn.1]; omega), Array.getElem?_append_right (by simp [ho.1]; omega)]
    simpa [ho.1] using hx
theorem grow_sound {ι : Inj} {h : Log} {w : World} (H : WRel E ra base ι h w) {ts : Array TypeId} {ty e : TypeId} {inf : TypeInfo} {z : Value} (T : AppTypes P ts e inf z) {id len n cap' : Nat} {bs : Option Addr} {x' : Value} {old new cols : List Col} {os vs : List Value}
    (hlx : (Builtin.lenOf x').run P w = .ok n w) (hid : id ∉ ids h) (hcols : colsApp old new = some cols) (ho : RowsIn E ra ι len inf.size old os) (hnw : RowsIn E ra ι n inf.size new vs)
    (fo : ∀ w₁ : World, w₁.heap = w.heap → (Builtin.firstCells inf.size len (.slice bs len cap')).run P w₁ = .ok os.toArray w₁) (fn : ∀ w₁ : World, w₁.heap = w.heap → (Builtin.firstCells inf.size n x').run P w₁ = .ok vs.toArray w₁)
    (hlt : cap' < len + n) (hby : (len + n) * inf.bytes ≤ 35184372088832) :
    ∃ v' w' ι', (Builtin.append_ ts ty #[.slice bs len cap', x']).run P w = .ok v' w' ∧ Rel E ra ι' (.slice (.own id 0 0 inf.size) (len + n) none) v' ∧
      WRel E ra base ι' ((id, some (.segs [{ n := len + n, st := inf.size, cols }])) :: h) w' ∧ Keeps ι h w ι' ((id, some (.segs [{ n := len + n, st := inf.size, cols }])) :: h) w' := by
  obtain ⟨w', cap, rest, g1, g2, g3, g4, g5, g6, g7⟩ := run_append_out T (ty := ty) hlx fo fn hlt hby
  obtain ⟨q1, q2⟩ := grown_sound (rest := rest) H hid hcols ho hnw g4 g5 g6 g7
  refine ⟨_, w', _, g3, .slice ⟨g1, fun c hc => by simp at hc, .inr ⟨w.heap.size, 0, (os.toArray ++ vs.toArray ++ rest).size, by simp [put], by simp, ?_⟩⟩ ⟨_, by simp [put]; rfl⟩, q1, q2⟩
  simp only [Array.size_append, List.size_toArray, ho.1, hnw.1, g2, T.zsize]
  have e1 : len * inf.size + n * inf.size + (cap - (len + n)) * inf.size = (len + n + (cap - (len + n))) * inf.size := by rw [Nat.add_mul, Nat.add_mul]
  rw [e1, show len + n + (cap - (len + n)) = cap by omega]
  simp
theorem nilCol_idem (c : Col) : nilCol (nilCol c) = nilCol c := by
  cases c with
  | val xs =>
    cases xs with
    | nil => rfl
    | cons v l =>
      cases v <;> try rfl
      simp only [nilCol]
      cases h : allNils l with
      | true => rfl
      | false => simp only [h]
  | _ => rfl
theorem colsApp_nil : ∀ l : List Col, colsApp ((l.map nilCol).map (colTake · 0 0)) (l.map nilCol) = some (l.map nilCol)
  | [] => rfl
  | c :: l => by
    have h : colApp (colTake (nilCol c) 0 0) (nilCol c) = some (nilCol c) := by
      have e := nilCol_idem c
      revert e
      cases nilCol c <;> intro e <;> simp [colTake, colApp, Col.len, e]
    simp only [List.map_cons, colsApp, colsApp_nil l, h]
theorem appendA_sound {ι : Inj} {h : Log} {w : World} (H : WRel E ra base ι h w) {ts : Array TypeId} {ty : TypeId} {s x : AVal} {s' x' : Value} (hs : Rel E ra ι s s') (hx : Rel E ra ι x x') :
    SoundAt P E ra base ι h w (appendA P E ts s x) (Builtin.append_ ts ty #[s', x']) := by
  intro v d r hr
  unfold appendA at hr
  split at hr
  case h_2 => simp [AM.Runs] at hr
  rename_i t u h1 h2
  cases hu1 : ts[1]? with
  | none => simp [hu1] at h2
  | some ut =>
  simp only [hu1, Option.bind_some] at h2
  split at hr
  · simp [AM.Runs] at hr
  rename_i hnint
  split at hr
  case h_2 => simp [AM.Runs] at hr
  rename_i e hu
  split at hr
  case h_2 => simp [AM.Runs] at hr
  rename_i inf zc hi hz
  split at hr
  case h_2 => simp [AM.Runs] at hr
  rename_i n hb hn
  simp only [Bool.and_eq_true] at hb
  cases hz0 : zeroA P e with
  | none => simp [hz0] at hz
  | some z =>
  simp only [hz0, Option.bind_some] at hz
  obtain ⟨z', i', hi', hiz, _, hzR⟩ := zeroA_sound (E := E) (ra := ra) (ι := ι) (w := w) hz0
  rw [hi] at hi'
  simp only [Option.some.injEq] at hi'
  subst hi'
  have hzl := (rel_cells hzR hz).length
  simp only [Array.length_toList] at hzl
  have T : AppTypes P ts e inf z' := ⟨⟨t, h1, hu⟩, ⟨ut, u, hu1, h2, fun k e => hnint k e⟩, hi, hiz, Nat.le_of_ble_eq_true hb.1, Nat.le_of_ble_eq_true hb.2.1, by rw [hzl]; exact Nat.eq_of_beq_eq_true hb.2.2⟩
  have hlx := lenN_run (P := P) (w := w) hx hn
  unfold appendB at hr
  split at hr
  · -- to the nil slice
    cases hs
    simp only [AM.Runs] at hr
    cases hn0 : Nat.beq n 0 with
    | true =>
      simp only [hn0] at hr
      obtain ⟨rfl, rfl, rfl⟩ := hr
      have := Nat.eq_of_beq_eq_true hn0
      subst this
      have hf0 : (Builtin.firstCells inf.size 0 x').run P w = .ok ([] : List Value).toArray w := by
        cases hx <;> simp only [lenN] at hn <;> first | (cases hn; done) | skip
        all_goals simp [Builtin.firstCells, loadCells, loadCellsFrom]
      exact ⟨.slice none 0 0, w, ι, run_append_in T (w' := w) hlx hf0 (Nat.le_refl _) (by simp), .nils, H, .refl _ _ _⟩
    | false =>
      simp only [hn0, AM.Runs, runs_bind, grownA] at hr
      obtain ⟨hby, new, d₁, r₁, d₂, r₂, g1, ⟨i, d', gi, rfl, rfl, rfl, rfl⟩, rfl, rfl⟩ := hr
      have hne : n ≠ 0 := fun e => by subst e; simp at hn0
      obtain ⟨rfl, vs, k1, k2⟩ := rowsA_sound (P := P) H hx g1 (fun a l c e => by subst e; simp only [lenN, Option.some.injEq] at hn; omega)
      have hcols := colsApp_nil new
      have k2' := rowsIn_nilCol k2
      have ho : RowsIn E ra ι 0 inf.size ((new.map nilCol).map (colTake · 0 0)) ([] : List Value) := ⟨by simp, by simp [k2.2.1], fun c hc => by
        simp only [List.mem_map] at hc
        obtain ⟨q, _, rfl⟩ := hc
        exact (colTake_at (by omega)).1, fun j v hv => by have := cellOf_lt hv; simp [total] at this⟩
      have := grow_sound (len := 0) (cap' := 0) (bs := none) (ty := ty) H T hlx (by simpa using gi) hcols ho k2' (fun w₁ _ => by simp [Builtin.firstCells]) k1 (by omega) (by simpa using of_decide_eq_true hby)
      simpa using this
  · -- of a known capacity
    rename_i a len cap
    cases hs with | slice hS hNm =>
    rename_i y cap'
    have hcap : cap' = cap := hS.2.1 cap rfl
    subst hcap
    simp only [AM.Runs] at hr
    cases hfit : Nat.ble (len + n) cap' with
    | true =>
      have hfit' := Nat.le_of_ble_eq_true hfit
      simp only [hfit] at hr
      split at hr
      case h_2 => simp [AM.Runs] at hr
      rename_i id i st
      cases hst : Nat.beq st inf.size with
      | false => simp [hst, AM.Runs] at hr
      | true =>
      have := Nat.eq_of_beq_eq_true hst
      subst this
      simp only [hst, AM.Runs] at hr
      obtain ⟨B, r', hv, rfl, hr⟩ := hr
      split at hr
      case h_2 => simp [AM.Runs] at hr
      rename_i s0
      cases hss : Nat.beq s0.st inf.size with
      | false => simp [hss, AM.Runs] at hr
      | true =>
      have hse := Nat.eq_of_beq_eq_true hss
      simp only [hss, AM.Runs, runs_bind] at hr
      obtain ⟨hrow, new, d₁, r₁, d₂, r₂, g1, ⟨hcc, hr⟩, rfl, rfl⟩ := hr
      have hrow' := of_decide_eq_true hrow
      obtain ⟨b, o, cs', el, fz, q1, q2, q3, q4, q5, q6, q7⟩ := H.own id _ hv
      have hwf : s0.WF := q6 s0 (by simp)
      obtain ⟨rfl, vs, k1, k2⟩ := newRowsA_sound (P := P) H hx g1 hn (by rw [hwf.1, hse])
      cases hp : colsPut s0.cols (i + len) new with
      | none => simp [hp, AM.Runs] at hr
      | some cols =>
      simp only [hp, AM.Runs] at hr
      obtain ⟨b', d', r3, _, rfl, rfl, rfl, rfl, rfl⟩ := hr
      have hsets := put_sets hwf hp k2.2.2.1 hrow'
      have hR := flatOf_rel k2
      rw [← hse] at hR
      have hone := rows_oneCell k2 hcc
      obtain ⟨w', t1, t2, t3⟩ := turn_sound (P := P) H hv q1 hsets hR hone
      refine ⟨.slice (some y) (len + n) cap', w', ι, run_append_in T (w' := w') hlx (k1 w rfl) hfit' ?_, .slice ⟨hfit', fun c hc => by simpa using hc, hS.2.2⟩ hNm, by simpa using t2, by simpa using t3⟩
      rcases hS.2.2 with hc0 | ⟨b2, o2, sz2, g4, rfl, g5⟩
      · have : n = 0 := by omega
        subst this
        have hvs : vs = [] := List.eq_nil_of_length_eq_zero (by rw [k2.1]; simp)
        subst hvs
        simp only [storeCells] at t1 ⊢
        exact t1
      · rw [q1] at g4
        simp only [Option.some.injEq, Prod.mk.injEq] at g4
        obtain ⟨rfl, rfl, rfl⟩ := g4
        simp only [addr_add]
        rw [← t1, hse]
        congr 3
        rw [Nat.add_mul]; omega
    | false =>
      have hfit' := ble_false hfit
      simp only [hfit, growA, AM.Runs, runs_bind] at hr
      obtain ⟨hby, old, d₁, r₁, d₂, r₂, g1, ⟨new, d₃, r₃, d₄, r₄, g2, hr, rfl, rfl⟩, rfl, rfl⟩ := hr
      obtain ⟨rfl, os, k1, k2⟩ := rowsA_sound (P := P) H (.slice hS hNm) g1 (fun a l c e => by simp only [AVal.slice.injEq] at e; omega)
      obtain ⟨rfl, vs, k3, k4⟩ := newRowsA_sound (P := P) H hx g2 hn k2.2.1
      cases hc : colsApp old new with
      | none => simp [hc, AM.Runs] at hr
      | some cols =>
      simp only [hc, grownA, AM.Runs] at hr
      obtain ⟨i, d', gi, rfl, rfl, rfl, rfl⟩ := hr
      have := grow_sound (ty := ty) H T hlx (by simpa using gi) hc k2 k4 k1 k3 hfit' (of_decide_eq_true hby)
      simpa using this
  · -- of an unknown one: the old row is given up
    rename_i id i st len
    cases hs with | slice hS hNm =>
    rename_i y cap'
    cases hst : Nat.beq st inf.size with
    | false => simp [hst, AM.Runs] at hr
    | true =>
    have := Nat.eq_of_beq_eq_true hst
    subst this
    simp only [hst, AM.Runs] at hr
    obtain ⟨B0, r0, hvB, rfl, hr⟩ := hr
    split at hr
    case h_2 => simp [AM.Runs] at hr
    rename_i s00
    simp only [AM.Runs, runs_bind] at hr
    obtain ⟨hby, old, d₁, r₁, d₂, r₂, g1, ⟨new, d₃, r₃, d₄, r₄, g2, ⟨hcc, hr⟩, rfl, rfl⟩, rfl, rfl⟩ := hr
    obtain ⟨rfl, os, k1, k2⟩ := rowsA_sound (P := P) H (.slice hS hNm) g1 (fun a l c e => by simp only [AVal.slice.injEq] at e; omega)
    obtain ⟨rfl, vs, k3, k4⟩ := newRowsA_sound (P := P) H hx g2 hn k2.2.1
    cases hc : colsApp old new with
    | none => simp [hc, AM.Runs] at hr
    | some cols =>
    simp only [hc, grownA, AM.Runs] at hr
    obtain ⟨b0, d', r5, hv, rfl, rfl, ⟨i2, d6, gi, rfl, rfl, rfl, rfl⟩⟩ := hr
    simp only [List.nil_append] at hv gi
    have gi' : i2 ∉ ids h := fun hh => gi (by simp only [ids, List.map_cons, List.mem_cons]; exact .inr hh)
    by_cases hfit : len + n ≤ cap'
    · -- in its place
      have hone := rows_oneCell k4 hcc
      -- the block that is given up
      have hblk : ∃ s0, b0 = .segs [s0] ∧ s0.st = inf.size ∧ i + len ≤ s0.n := by
        simp only [rowsA, hst, AM.Runs] at g1
        obtain ⟨B, r', hv', _, g1⟩ := g1
        rw [hv] at hv' hvB
        simp only [Option.some.injEq] at hv' hvB
        subst hv'; subst hvB
        have hso : segOff [s00] 0 = some s00 := rfl
        simp only [hso] at g1
        cases hss : Nat.beq s00.st inf.size with
        | false => simp [hss, AM.Runs] at g1
        | true =>
          simp only [hss, AM.Runs] at g1
          exact ⟨s00, rfl, Nat.eq_of_beq_eq_true hss, of_decide_eq_true g1.1⟩
      obtain ⟨s0, rfl, hse, hrows⟩ := hblk
      obtain ⟨b, o, cs', el, fz, q1, q2, q3, q4, q5, q6, q7⟩ := H.own id _ hv
      obtain ⟨c1, c2, c3, c4, c5⟩ := colsApp_at hc k2.2.2.1 k4.2.2.1
      have hi0 : o + i * inf.size ≤ cs'.size := by
        simp only [total, Nat.add_zero, hse] at q5
        have : i * inf.size ≤ s0.n * inf.size := Nat.mul_le_mul_right _ (by omega)
        omega
      have hroom : o + i * inf.size + (len + n) * inf.size ≤ cs'.size := by
        rcases hS.2.2 with hc0 | ⟨b2, o2, sz2, g4, _, g5⟩
        · have : len + n = 0 := by omega
          rw [this]; simpa using hi0
        · rw [q1] at g4
          simp only [Option.some.injEq, Prod.mk.injEq] at g4
          obtain ⟨rfl, rfl, rfl⟩ := g4
          have : (i + (len + n)) * inf.size ≤ (i + cap') * inf.size := Nat.mul_le_mul_right _ (by omega)
          rw [Nat.add_mul] at this; omega
      have hroom' : o + i * inf.size + len * inf.size + vs.length ≤ cs'.size := by rw [k4.1]; rw [Nat.add_mul] at hroom; omega
      obtain ⟨w', cs2, r1, r2, r3, r4, r5, r6, r7, r8, r9⟩ := run_storeCells' (P := P) el fz b (o + i * inf.size + len * inf.size) vs 0 w cs' q3 (by omega) q4 hone
      have hfresh := H.fresh gi'
      have hext := put_ext (x := (b, o + i * inf.size, cs'.size)) hfresh
      -- the old rows' cells, as they lie
      have hos : ∀ j, j < len * inf.size → cs'[o + i * inf.size + j]? = os[j]? := by
        intro j hj
        rcases hS.2.2 with hc0 | ⟨b2, o2, sz2, g4, rfl, g5⟩
        · have : len = 0 := by omega
          subst this; simp at hj
        · rw [q1] at g4
          simp only [Option.some.injEq, Prod.mk.injEq] at g4
          obtain ⟨rfl, rfl, rfl⟩ := g4
          have hl := k1 w rfl
          simp only [Builtin.firstCells] at hl
          have hl2 := run_loadCells' (P := P) (w := w) (b := b) (x := o + 0 + i * inf.size) (n := len * inf.size) (vs := (List.range (len * inf.size)).map fun k => cs'[o + i * inf.size + k]?.getD undef) (by simp) (fun k hk => by
            rw [cell_at q3]
            have hlt : o + 0 + i * inf.size + k < cs'.size := by rw [Nat.add_mul] at hroom; omega
            rw [Array.getElem?_eq_getElem hlt]
            simp only [List.getElem?_map, List.getElem?_range hk, Option.map_some, Option.some.injEq]
            have e : o + i * inf.size + k = o + 0 + i * inf.size + k := by omega
            rw [e, Array.getElem?_eq_getElem hlt]; rfl)
          rw [hl2] at hl
          simp only [Result.ok.injEq, and_true] at hl
          have hl3 := congrArg Array.toList hl
          simp only at hl3
          rw [← hl3]
          have hlt : o + i * inf.size + j < cs'.size := by rw [Nat.add_mul] at hroom; omega
          simp [hj, Array.getElem?_eq_getElem hlt]
      have hB : BlkRel E ra base (put ι i2 (b, o + i * inf.size, cs'.size)) w' i2 (.segs [{ n := len + n, st := inf.size, cols }]) := by
        refine ⟨b, o + i * inf.size, cs2, el, fz, by rw [r3]; simp [put], q2, r2, by rw [r3]; exact q4, by rw [r3]; simp only [total]; omega, fun q hq => ?_, fun j u hj => ?_⟩
        · simp only [List.mem_singleton] at hq; subst hq
          exact ⟨by simp [c1, k2.2.1], c3⟩
        · have hlt := cellOf_lt hj
          simp only [total, Nat.add_zero] at hlt
          rw [app_cell hc k2.2.2.1 k4.2.2.1 hlt] at hj
          rw [r4]
          by_cases hjl : j < len * inf.size
          · rw [if_pos hjl] at hj
            obtain ⟨x0, hx0, hr0⟩ := k2.2.2.2 j u hj
            rw [if_neg (by omega), hos j hjl]
            exact ⟨x0, hx0, hr0.mono hext⟩
          · rw [if_neg hjl] at hj
            obtain ⟨x0, hx0, hr0⟩ := k4.2.2.2 _ u hj
            have hlt2 : j - len * inf.size < vs.length := by rw [k4.1]; rw [Nat.add_mul] at hlt; omega
            rw [if_pos (by omega)]
            refine ⟨x0, ?_, hr0.mono hext⟩
            rw [← hx0]; congr 1; omega
      obtain ⟨t1, t2⟩ := H.take (w' := w') (y := (o + i * inf.size, cs'.size)) hv q1 gi' r5 r6 r7 r8 r9 hB
      refine ⟨.slice (some y) (len + n) cap', w', put ι i2 (b, o + i * inf.size, cs'.size), run_append_in T (w' := w') hlx (k3 w rfl) hfit ?_, .slice ⟨hfit, fun c hc => by simp at hc, ?_⟩ ⟨(b, o + i * inf.size, cs'.size), by simp [put]⟩, by simpa using t1, by simpa using t2⟩
      · rcases hS.2.2 with hc0 | ⟨b2, o2, sz2, g4, rfl, g5⟩
        · have hn0 : n = 0 := by omega
          subst hn0
          have hvs : vs = [] := List.eq_nil_of_length_eq_zero (by rw [k4.1]; simp)
          subst hvs
          simp only [storeCells] at r1 ⊢
          exact r1
        · rw [q1] at g4
          simp only [Option.some.injEq, Prod.mk.injEq] at g4
          obtain ⟨rfl, rfl, rfl⟩ := g4
          simp only [addr_add]
          rw [← r1]
          rfl
      · rcases hS.2.2 with hc0 | ⟨b2, o2, sz2, g4, rfl, g5⟩
        · exact .inl hc0
        · rw [q1] at g4
          simp only [Option.some.injEq, Prod.mk.injEq] at g4
          obtain ⟨rfl, rfl, rfl⟩ := g4
          exact .inr ⟨b, o + i * inf.size, cs'.size, by simp [put], by simp, by rw [Nat.add_mul] at g5; simp; omega⟩
    · -- elsewhere
      obtain ⟨D1, D2⟩ := H.drop id
      have := grow_sound (ty := ty) D1 T hlx gi hc k2 k4 k1 k3 (by omega) (of_decide_eq_true hby)
      obtain ⟨v', w', ι', e1, e2, e3, e4⟩ := this
      exact ⟨v', w', ι', e1, e2, by simpa using e3, by simpa using D2.trans e4⟩
  · simp [AM.Runs] at hr
end Go.Proofs.Ytgkejpfahpbnkaa.Ab

namespace Go.Proofs.Ytgkejpfahpbnkaa.Ab
variable {P : Program} {E : Nat → Nat → Seg} {ra : Nat → Nat → Nat × Nat} {base : Nat}
section
variable (P E)
def copyA (ts : Array TypeId) (d x : AVal) : AM AVal :=
  match (ts[0]?).bind P.underlying with
  | some (.slice e) => match P.info? e, lenN d, lenN x with
    | some inf, some dl, some xl => match d with
      | .nils => .pure (.int .i64 0)
      | .slice (.own id 0 i st) _ _ => match Nat.beq st inf.size with
        | true => .read id fun b => match b with
          | .segs [s0] => match Nat.beq s0.st inf.size with
            | true => .need (decide (i + min xl dl ≤ s0.n)) <| (newRowsA E inf.size (min xl dl) x s0.cols).bind fun new => .need (new.all colCells) <| match colsPut s0.cols i new with
              | some cols => .upd id (some (.segs [{ s0 with cols }])) (.pure (.int .i64 (min xl dl : Nat)))
              | none => .fail
            | false => .fail
          | _ => .fail
        | false => .fail
      | _ => .fail
    | _, _, _ => .fail
  | _ => .fail
def toBytesA (s : ByteArray) : AM AVal :=
  .need (decide (s.size ≤ 4294967296)) <| .alloc (.segs [{ n := s.size, st := 1, cols := [.int .u8 (s.data.toList.map fun b => (b.toNat : Int))] }]) fun id => .pure (.slice (.own id 0 0 1) s.size none)
def toTextA (id i len : Nat) : AM AVal :=
  .read id fun b => match b with
    | .segs [s0] => match Nat.beq s0.st 1, s0.cols with
      | true, [.int .u8 xs] => .need (decide (i + len ≤ s0.n)) (.pure (.str (strOfNums ((xs.drop i).take len))))
      | _, _ => .fail
    | _ => .fail
def convA (src dst : TypeId) (x : AVal) : AM AVal :=
  match P.underlying src, P.underlying dst with
  | some s, some d => match d, x with
    | .int k, .int _ n => .pure (.int k (wr k n))
    | .string, .str t => .pure (.str t)
    | .slice e, .str t => match P.underlying e with
      | some (.int .u8) => toBytesA t
      | _ => .fail
    | .string, .nils => match s with
      | .slice e => match P.underlying e with
        | some (.int .u8) => .pure (.str ByteArray.empty)
        | _ => .fail
      | _ => .fail
    | .string, .slice (.own id 0 i 1) len _ => match s with
      | .slice e => match P.underlying e with
        | some (.int .u8) => toTextA id i len
        | _ => .fail
      | _ => .fail
    | _, _ => .fail
  | _, _ => .fail
end
theorem newRowsA_sound' {ι : Inj} {h : Log} {w : World} (H : WRel E ra base ι h w) {sz n m : Nat} {x : AVal} {x' : Value} (hx : Rel E ra ι x x') {like cols : List Col} {d : Log} {r : List Nat} (hr : (newRowsA E sz n x like).Runs h cols d r)
    (hm : lenN x = some m) (hnm : n ≤ m) (hl : like.length = sz) : d = [] ∧ ∃ vs, (∀ w₁ : World, w₁.heap = w.heap → (Builtin.firstCells sz n x').run P w₁ = .ok vs.toArray w₁) ∧ RowsIn E ra ι n sz cols vs := by
  unfold newRowsA at hr
  split at hr
  · have : n = m := by simp only [lenN, Option.some.injEq] at hm; omega
    subst this
    exact newRowsA_sound H hx (by unfold newRowsA; exact hr) hm hl
  · exact rowsA_sound H hx hr (fun a l c e => by subst e; simp only [lenN, Option.some.injEq] at hm; omega)
theorem copyA_sound {ι : Inj} {h : Log} {w : World} (H : WRel E ra base ι h w) {ts : Array TypeId} {ty : TypeId} {s x : AVal} {s' x' : Value} (hs : Rel E ra ι s s') (hx : Rel E ra ι x x') :
    SoundAt P E ra base ι h w (copyA P E ts s x) (Builtin.copy_ ts ty #[s', x']) := by
  intro v d r hr
  unfold copyA at hr
  split at hr
  case h_2 => simp [AM.Runs] at hr
  rename_i e hu
  cases ht : ts[0]? with
  | none => simp [ht] at hu
  | some t =>
  simp only [ht, Option.bind_some] at hu
  split at hr
  case h_2 => simp [AM.Runs] at hr
  rename_i inf dl xl hi hd hxl
  have hlx := lenN_run (P := P) (w := w) hx hxl
  split at hr
  · cases hs
    simp only [lenN, Option.some.injEq] at hd
    subst hd
    simp only [AM.Runs] at hr
    obtain ⟨rfl, rfl, rfl⟩ := hr
    have hf0 : (Builtin.firstCells inf.size 0 x').run P w = .ok ([] : List Value).toArray w := by
      cases hx <;> simp only [lenN] at hxl <;> first | (cases hxl; done) | skip
      all_goals simp [Builtin.firstCells, loadCells, loadCellsFrom]
    refine ⟨.int .i64 0, w, ι, ?_, .int _ _, H, .refl _ _ _⟩
    simp [Builtin.copy_, ht, run_underlying hu, hlx, run_sizeOf hi, hf0, goInt]
  · rename_i id i st len cap
    cases hs with | slice hS hNm =>
    rename_i y cap'
    simp only [lenN, Option.some.injEq] at hd
    subst hd
    cases hst : Nat.beq st inf.size with
    | false => simp [hst, AM.Runs] at hr
    | true =>
    have := Nat.eq_of_beq_eq_true hst
    subst this
    simp only [hst, AM.Runs] at hr
    obtain ⟨B, r', hv, rfl, hr⟩ := hr
    split at hr
    case h_2 => simp [AM.Runs] at hr
    rename_i s0
    cases hss : Nat.beq s0.st inf.size with
    | false => simp [hss, AM.Runs] at hr
    | true =>
    have hse := Nat.eq_of_beq_eq_true hss
    simp only [hss, AM.Runs, runs_bind] at hr
    obtain ⟨hrow, new, d₁, r₁, d₂, r₂, g1, ⟨hcc, hr⟩, rfl, rfl⟩ := hr
    have hrow' := of_decide_eq_true hrow
    obtain ⟨b, o, cs', el, fz, q1, q2, q3, q4, q5, q6, q7⟩ := H.own id _ hv
    have hwf : s0.WF := q6 s0 (by simp)
    obtain ⟨rfl, vs, k1, k2⟩ := newRowsA_sound' (P := P) H hx g1 hxl (Nat.min_le_left _ _) (by rw [hwf.1, hse])
    cases hp : colsPut s0.cols i new with
    | none => simp [hp, AM.Runs] at hr
    | some cols =>
    simp only [hp, AM.Runs] at hr
    obtain ⟨b', d', r3, _, rfl, rfl, rfl, rfl, rfl⟩ := hr
    have hsets := put_sets hwf hp k2.2.2.1 hrow'
    have hR := flatOf_rel k2
    rw [← hse] at hR
    have hone := rows_oneCell k2 hcc
    obtain ⟨w', t1, t2, t3⟩ := turn_sound (P := P) H hv q1 hsets hR hone
    refine ⟨.int .i64 (min xl len : Nat), w', ι, ?_, .int _ _, by simpa using t2, by simpa using t3⟩
    have hstore : (storeCells y vs).run P w = .ok () w' := by
      rcases hS.2.2 with hc0 | ⟨b2, o2, sz2, g4, rfl, g5⟩
      · have h0 : min xl len = 0 := by have := hS.1; omega
        have hvs : vs = [] := List.eq_nil_of_length_eq_zero (by rw [k2.1, h0]; simp)
        subst hvs
        simp only [storeCells] at t1 ⊢
        exact t1
      · rw [q1] at g4
        simp only [Option.some.injEq, Prod.mk.injEq] at g4
        obtain ⟨rfl, rfl, rfl⟩ := g4
        rw [← t1, hse]; rfl
    have hmin : Nat.min xl len = min xl len := rfl
    simp [Builtin.copy_, ht, run_underlying hu, hlx, run_sizeOf hi, hmin, k1 w rfl, hstore, goInt]
  · simp [AM.Runs] at hr
theorem toBytesA_sound {ι : Inj} {h : Log} {w : World} (H : WRel E ra base ι h w) {e : TypeId} {s : ByteArray} : SoundAt P E ra base ι h w (toBytesA s) (Conv.stringToBytes e s) := by
  intro v d r hr
  simp only [toBytesA, AM.Runs] at hr
  obtain ⟨hn, i, d', hi, rfl, rfl, rfl, rfl⟩ := hr
  have hn' := of_decide_eq_true hn
  let cap := (Question.appendCap s.size 0 e).cut (w.tape w.drawn (.appendCap s.size 0 e))
  have hcap : s.size ≤ cap := by simp [cap, Question.cut]
  let cells : Array Value := (s.data.map fun b => Value.int .u8 b.toNat) ++ Array.replicate (cap - s.size) (.int .u8 0)
  have hsz : cells.size = cap := by simp [cells]; show s.size + _ = _; omega
  let w' : World := { w with drawn := w.drawn + 1, heap := w.heap.push (.cells cells e (cells.size, cells.size + 1)) }
  have hrun : (Conv.stringToBytes e s).run P w = .ok (.slice (some ⟨w.heap.size, 0, none⟩) s.size cap) w' := by
    have hforced : (Question.appendCap s.size 0 e).forced = false := rfl
    have hshape : ∀ o : Obj, ∀ x n, (match o with | .cells c el _ => some (el, c.size) | _ => none) = some (x, n) → ({ w with drawn := w.drawn + 1, heap := w.heap.push o } : World).shape? w.heap.size = some (x, n) := by
      intro o x n ho
      simp only [World.shape?]
      rw [show (w.heap.push o)[w.heap.size]? = some o by simp]
      cases o <;> simp_all
    simp only [Conv.stringToBytes, Sem.run_bind, run_choose, hforced, Bool.false_eq_true, if_false, Result.andThen_ok, newRow, run_newObj, Sem.run_pure, markStringish, run_shape]
    rw [hshape (.cells cells e) e cells.size rfl]
    simp only [run_freeze, Result.andThen_ok]
    congr 1
    show World.mk _ _ _ _ _ = World.mk _ _ _ _ _
    congr 1
    apply Array.ext_getElem?
    intro k
    rw [Array.getElem?_modify, Array.getElem?_push, Array.getElem?_push]
    by_cases hk : k = w.heap.size
    · subst hk; simp [cells, cap]
    · rw [if_neg (Ne.symm hk), if_neg hk, if_neg hk]
  have hlen : (s.data.toList.map fun b => (b.toNat : Int)).length = s.size := by simp
  have := alloc_sound_mark (w' := w') (l := [{ n := s.size, st := 1, cols := [.int .u8 (s.data.toList.map fun b => (b.toNat : Int))] }]) H hi (fun q hq => by
      simp only [List.mem_singleton] at hq; subst hq
      exact ⟨rfl, fun c hc => by simp only [List.mem_singleton] at hc; subst hc; exact hlen⟩) (cells := cells) (el := e) (by simp only [total]; omega) (fun j y hy => by
      have hj := cellOf_lt hy
      simp only [total, Nat.mul_one, Nat.add_zero] at hj
      rw [rows_cell (by simpa using hj)] at hy
      simp only [Nat.mod_one, List.getElem?_cons_zero, Nat.div_one, Option.map_some, Option.some.injEq] at hy
      subst hy
      have hjl : j < s.data.size := hj
      refine ⟨.int .u8 (s.data[j].toNat : Int), ?_, ?_⟩
      · simp only [cells]
        rw [Array.getElem?_append_left (by simpa using hjl), Array.getElem?_map, Array.getElem?_eq_getElem hjl]; rfl
      · simp only [colAt, List.getD_eq_getElem?_getD, List.getElem?_map]
        rw [List.getElem?_eq_getElem (by simpa using hjl)]
        exact .int _ _) rfl rfl rfl rfl
  exact ⟨_, w', _, hrun, .slice ⟨hcap, fun c hc => by simp at hc, .inr ⟨w.heap.size, 0, cells.size, by simp [put], by simp, by rw [hsz]; simp⟩⟩ ⟨_, by simp [put]; rfl⟩, this⟩
theorem convA_sound {ι : Inj} {h : Log} {w : World} (H : WRel E ra base ι h w) {src dst : TypeId} {x : AVal} {x' : Value} (hx : Rel E ra ι x x') : SoundAt P E ra base ι h w (convA P src dst x) (convert src dst x') := by
  intro v d r hr
  unfold convA at hr
  split at hr
  case h_2 => simp [AM.Runs] at hr
  rename_i s dd hs hd
  split at hr
  · cases hx
    simp only [AM.Runs] at hr
    obtain ⟨rfl, rfl, rfl⟩ := hr
    exact ⟨_, w, ι, by simp [convert, run_underlying hs, run_underlying hd, Conv.intToInt, wr_eq], .int _ _, H, .refl _ _ _⟩
  · cases hx
    simp only [AM.Runs] at hr
    obtain ⟨rfl, rfl, rfl⟩ := hr
    exact ⟨_, w, ι, by simp [convert, run_underlying hs, run_underlying hd], .str _, H, .refl _ _ _⟩
  · rename_i e t
    cases hx
    split at hr
    · rename_i he
      obtain ⟨v', w', ι', h1, h2⟩ := toBytesA_sound (P := P) (e := e) H v d r hr
      exact ⟨v', w', ι', by simp [convert, run_underlying hs, run_underlying hd, run_underlying he, h1], h2⟩
    · simp [AM.Runs] at hr
  · split at hr
    · rename_i e
      split at hr
      · rename_i he
        cases hx
        simp only [AM.Runs] at hr
        obtain ⟨rfl, rfl, rfl⟩ := hr
        exact ⟨_, w, ι, run_convert_bytes_nil w src e hs he 0 0 dst hd, .str _, H, .refl _ _ _⟩
      · simp [AM.Runs] at hr
    · simp [AM.Runs] at hr
  · rename_i id i len cap
    split at hr
    · rename_i e
      split at hr
      · rename_i he
        cases hx with | slice hS hNm =>
        rename_i y cap'
        simp only [toTextA, AM.Runs] at hr
        obtain ⟨B, r', hv, rfl, hr⟩ := hr
        split at hr
        · rename_i s0
          split at hr
          · rename_i xs hst hcols
            have hse := Nat.eq_of_beq_eq_true hst
            simp only [AM.Runs] at hr
            obtain ⟨hn, rfl, rfl, rfl⟩ := hr
            have hn' := of_decide_eq_true hn
            obtain ⟨b, o, cs', el, fz, q1, q2, q3, q4, q5, q6, q7⟩ := H.own id _ hv
            have hwf : s0.WF := q6 s0 (by simp)
            have hxl : xs.length = s0.n := by have := hwf.2 (.int .u8 xs) (by rw [hcols]; simp); simpa [Col.len] using this
            have hlen : ((xs.drop i).take len).length = len := by simp; omega
            refine ⟨.string (strOfNums ((xs.drop i).take len)), w, ι, ?_, .str _, H, .refl _ _ _⟩
            rcases hS.2.2 with hc0 | ⟨b2, o2, sz2, g4, rfl, g5⟩
            · have hl0 : len = 0 := by have := hS.1; omega
              subst hl0
              obtain ⟨yb, yo, ys⟩ := y
              have : (loadCells ⟨yb, yo, ys⟩ 0).run P w = .ok (([] : List Int).map (Value.int .u8)).toArray w := by simp [loadCells, loadCellsFrom]
              rw [run_convert_bytes_string w src dst e _ 0 cap' hs he hd, run_bytesToString w _ 0 cap' [] this]
              rfl
            · rw [q1] at g4
              simp only [Option.some.injEq, Prod.mk.injEq] at g4
              obtain ⟨rfl, rfl, rfl⟩ := g4
              refine run_convert_bytes_arg w src e hs he b (o + 0 + i * 1) len cap' _ hlen (fun k hk => ?_) dst hd
              have hj : i + k < s0.n := by omega
              have hcell := seg_cell (s := s0) (l := []) (i := i + k) (c := 0) hj (by omega)
              rw [hcols] at hcell
              simp only [List.getElem?_cons_zero, Option.map_some, Nat.zero_add, hse, Nat.mul_one] at hcell
              obtain ⟨c, hc1, hc2⟩ := q7 _ _ hcell
              rw [cell_at q3]
              simp only [colAt] at hc2
              cases hc2
              rw [show o + 0 + i * 1 + k = o + (i + k) by omega, hc1]
              congr 2
              simp [hk, List.getElem?_drop]
          · simp [AM.Runs] at hr
        · simp [AM.Runs] at hr
      · simp [AM.Runs] at hr
    · simp [AM.Runs] at hr
  · simp [AM.Runs] at hr
end Go.Proofs.Ytgkejpfahpbnkaa.Ab

namespace Go.Proofs.Ytgkejpfahpbnkaa.Ab
variable {P : Program} {E : Nat → Nat → Seg} {ra : Nat → Nat → Nat × Nat} {base : Nat}
def findI (j : IntKind) (a : Int) : List (AVal × AVal) → Nat → Option (Option (Nat × AVal))
  | [], _ => some none
  | (.int k b, v) :: l, i => match decide (j = k) with
    | true => match decide (a = b) with
      | true => some (some (i, v))
      | false => findI j a l (i + 1)
    | false => none
  | _ :: _, _ => none
section
variable (P)
def makeMapA (r : Option AVal) : AM AVal :=
  match r with
  | none => .alloc (.map []) fun id => .pure (.mapv id)
  | some _ => .fail
def intKey (t : TypeId) (j : IntKind) : Bool :=
  match P.underlying t with
  | some (.map k _) => match P.underlying k with
    | some (.int q) => decide (j = q)
    | _ => false
  | _ => false
def mapUpA (t : TypeId) (m k x : AVal) : AM AVal :=
  match m, k with
  | .mapv id, .int j a => match intKey P t j with
    | true => .read id fun B => match B with
      | .map es => match findI j a es 0 with
        | some none => .upd id (some (.map (es ++ [(.int j a, x)]))) (.pure .undef)
        | _ => .fail
      | _ => .fail
    | false => .fail
  | _, _ => .fail
def lookA (t : TypeId) (x k : AVal) (ok : Bool) : AM AVal :=
  match x, k with
  | .mapv id, .int j a => match intKey P t j with
    | true => .read id fun B => match B with
      | .map es => match findI j a es 0 with
        | some (some (_, v)) => .pure (match ok with
          | true => .tup [v, .bool true]
          | false => v)
        | some none => match P.underlying t with
          | some (.map _ e) => match zeroA P e with
            | some z => .pure (match ok with
              | true => .tup [z, .bool false]
              | false => z)
            | none => .fail
          | _ => .fail
        | none => .fail
      | _ => .fail
    | false => .fail
  | _, _ => .fail
def clearA (ts : Array TypeId) (x : AVal) : AM AVal :=
  match (ts[0]?).bind P.underlying with
  | some (.slice e) => match x with
    | .nils => .pure (.tup [])
    | .slice (.own id 0 i st) n _ => .br (Nat.beq n 0) (.pure (.tup [])) (match P.info? e, (zeroA P e).bind cellsOfV with
        | some inf, some z => match Nat.beq st inf.size && Nat.beq z.length inf.size with
          | true => .read id fun b => match b with
            | .segs [s0] => match Nat.beq s0.st inf.size with
              | true => .need (decide (i + n ≤ s0.n)) <| .need ((z.map (colOf n)).all colCells) <| match colsPut s0.cols i (z.map (colOf n)) with
                | some cols => .upd id (some (.segs [{ s0 with cols }])) (.pure (.tup []))
                | none => .fail
              | false => .fail
            | _ => .fail
          | false => .fail
        | _, _ => .fail)
    | _ => .fail
  | _ => .fail
end
theorem intKey_spec {t : TypeId} {j : IntKind} (h : intKey P t j = true) : ∃ k e, P.underlying t = some (.map k e) ∧ P.underlying k = some (.int j) := by
  unfold intKey at h
  split at h
  · rename_i k e hk
    split at h
    · rename_i q hq
      have := of_decide_eq_true h
      subst this
      exact ⟨k, e, hk, hq⟩
    · cases h
  · cases h
theorem findI_sound {ι : Inj} {j : IntKind} {a : Int} : ∀ {es : List (AVal × AVal)} {ms : List MapEntry} {i : Nat} {o : Option (Nat × AVal)},
    RelL E ra ι (es.map (·.1)) (ms.map (·.key)) → RelL E ra ι (es.map (·.2)) (ms.map (·.val)) → findI j a es i = some o →
    (o = none ∧ Instr.findNow (.int j) (.int j a) ms i = some none) ∨ ∃ n v x, o = some (n, v) ∧ Instr.findNow (.int j) (.int j a) ms i = some (some (n, x)) ∧ Rel E ra ι v x
  | [], [], i, o, _, _, h => by
    simp only [findI, Option.some.injEq] at h
    exact .inl ⟨h.symm, rfl⟩
  | [], _ :: _, _, _, hk, _, _ => by cases hk
  | (k, v) :: es, [], _, _, hk, _, _ => by cases hk
  | (k, v) :: es, m :: ms, i, o, hk, hv, h => by
    cases k <;> try (cases h; done)
    rename_i q b
    simp only [List.map_cons] at hk hv
    cases hk with | cons hk hks =>
    cases hv with | cons hv hvs =>
    generalize hm : m.key = mk at hk
    cases hk
    have h : (match decide (j = q) with
      | true => match decide (a = b) with
        | true => some (some (i, v))
        | false => findI j a es (i + 1)
      | false => none) = some o := h
    by_cases hq : j = q
    · subst hq
      rw [decide_eq_true rfl] at h
      by_cases ha : a = b
      · subst ha
        rw [decide_eq_true rfl] at h
        simp only [Option.some.injEq] at h
        exact .inr ⟨i, v, m.val, h.symm, by simp [Instr.findNow, hm, Instr.sameNow], hv⟩
      · rw [decide_eq_false ha] at h
        have e : Instr.findNow (.int j) (.int j a) (m :: ms) i = Instr.findNow (.int j) (.int j a) ms (i + 1) := by
          have e1 : (a == b) = false := beq_false_of_ne ha
          simp only [Instr.findNow, hm, Instr.sameNow, if_true, e1]
        rw [e]
        exact findI_sound hks hvs h
    · rw [decide_eq_false hq] at h
      cases h
theorem makeMapA_sound {ι : Inj} {h : Log} {w : World} (H : WRel E ra base ι h w) {t : TypeId} {r : Option AVal} {r' : Option Value} (hr' : r = none → r' = none) :
    SoundAt P E ra base ι h w (makeMapA r) (Instr.makeMap t r') := by
  intro v d rr hr
  unfold makeMapA at hr
  cases r with
  | some x => simp [AM.Runs] at hr
  | none =>
    have e := hr' rfl
    subst e
    obtain ⟨i, d', hi, rfl, rfl, rfl, rfl⟩ := hr
    have := H.alloc (w' := { w with heap := w.heap.push (.map #[] 0) }) hi (.map #[] 0) rfl rfl rfl rfl (.map []) (0, 0) ⟨w.heap.size, 0, 0, #[], 0, by simp [put], fun hr => absurd (H.le _ hr) (Nat.lt_irrefl _), by simp, .nil, .nil⟩
    exact ⟨.map (some w.heap.size), _, _, by simp [Instr.makeMap], .mapv (o := 0) (sz := 0) (by simp [put]), this⟩
theorem map_at {ι : Inj} {h : Log} {w : World} (H : WRel E ra base ι h w) {id : Nat} {es : List (AVal × AVal)} (hv : view h id = some (.map es)) {b o sz : Nat} (hb : ι id = some (b, o, sz)) :
    ∃ ms clock, w.heap[b]? = some (.map ms clock) ∧ ¬ Ro base b ∧ RelL E ra ι (es.map (·.1)) (ms.toList.map (·.key)) ∧ RelL E ra ι (es.map (·.2)) (ms.toList.map (·.val)) := by
  obtain ⟨b', o', sz', ms, clock, h1, h2, h3, h4⟩ := H.own id _ hv
  rw [hb] at h1
  simp only [Option.some.injEq, Prod.mk.injEq] at h1
  obtain ⟨rfl, rfl, rfl⟩ := h1
  exact ⟨ms, clock, h3, h2, h4⟩
theorem mapUpA_sound {ι : Inj} {h : Log} {w : World} (H : WRel E ra base ι h w) {t : TypeId} {m k x : AVal} {m' k' x' : Value} (hm : Rel E ra ι m m') (hk : Rel E ra ι k k') (hx : Rel E ra ι x x') {v : AVal} {d : Log} {r : List Nat}
    (hr : (mapUpA P t m k x).Runs h v d r) : v = .undef ∧ ∃ w', (Instr.mapUpdate t m' k' x').run P w = .ok () w' ∧ WRel E ra base ι (d ++ h) w' ∧ Keeps ι h w ι (d ++ h) w' := by
  unfold mapUpA at hr
  split at hr
  · rename_i id j a
    cases hm with | mapv hb =>
    rename_i b o sz
    cases hk
    cases hik : intKey P t j with
    | false => simp [hik, AM.Runs] at hr
    | true =>
      obtain ⟨kt, et, hu, hd⟩ := intKey_spec hik
      simp only [hik] at hr
      obtain ⟨B, r', hv, rfl, hr⟩ := hr
      dsimp only at hr
      split at hr
      · rename_i es
        split at hr
        · rename_i hf
          obtain ⟨b', d', r3, _, rfl, rfl, rfl, rfl, rfl⟩ := hr
          obtain ⟨ms, clock, g1, g2, g3, g4⟩ := map_at H hv hb
          rcases findI_sound g3 g4 hf with ⟨_, e⟩ | ⟨n, y, z, e, _⟩
          · have hkey : MapKept.IsKey (.int j) (.int j a) := rfl
            have hlt : b < w.heap.size := (Array.getElem?_eq_some_iff.1 g1).1
            refine ⟨rfl, { w with heap := w.heap.setIfInBounds b (.map (ms.push { key := .int j a, val := x', born := clock }) (clock + 1)) }, ?_, ?_⟩
            · simp [Instr.mapUpdate, run_underlying hu, MapKept.run_getObj_map g1, MapKept.run_checkKey hd hkey, MapKept.run_findKey hd e, MapKept.run_setObj_map _ g1, Result.andThen]
            · refine H.turn hv hb (fun q hq => (MapKept.heap_set g1).2 q hq) (by simp) rfl rfl rfl ⟨b, o, sz, _, _, hb, g2, (MapKept.heap_set g1).1, ?_, ?_⟩
              · simp only [List.map_append, Array.toList_push]
                exact g3.append (.cons (.int _ _) .nil)
              · simp only [List.map_append, Array.toList_push]
                exact g4.append (.cons hx .nil)
          · cases e
        · simp [AM.Runs] at hr
      · simp [AM.Runs] at hr
  · simp [AM.Runs] at hr
theorem lookA_sound {ι : Inj} {h : Log} {w : World} (H : WRel E ra base ι h w) {t : TypeId} {x k : AVal} {x' k' : Value} (hx : Rel E ra ι x x') (hk : Rel E ra ι k k') {ok : Bool} :
    SoundAt P E ra base ι h w (lookA P t x k ok) (Instr.lookup t x' k' ok) := by
  refine .of_pure H fun v d r hr => ?_
  unfold lookA at hr
  split at hr
  · rename_i id j a
    cases hx with | mapv hb =>
    rename_i b o sz
    cases hk
    cases hik : intKey P t j with
    | false => simp [hik, AM.Runs] at hr
    | true =>
      obtain ⟨kt, et, hu, hd⟩ := intKey_spec hik
      simp only [hik] at hr
      obtain ⟨B, r', hv, rfl, hr⟩ := hr
      dsimp only at hr
      split at hr
      · rename_i es
        obtain ⟨ms, clock, g1, g2, g3, g4⟩ := map_at H hv hb
        have hkey : MapKept.IsKey (.int j) (.int j a) := rfl
        split at hr
        · rename_i n v' hf
          simp only [AM.Runs] at hr
          obtain ⟨rfl, rfl, rfl⟩ := hr
          rcases findI_sound g3 g4 hf with ⟨e, _⟩ | ⟨n2, y, z, e, e2, hz⟩
          · cases e
          · simp only [Option.some.injEq, Prod.mk.injEq] at e
            obtain ⟨rfl, rfl⟩ := e
            refine ⟨rfl, (if ok then .tuple #[z, .bool true] else z), ?_, ?_⟩
            · simp [Instr.lookup, run_underlying hu, MapKept.run_getObj_map g1, MapKept.run_checkKey hd hkey, MapKept.run_findKey hd e2, Result.andThen]
              try rfl
            · cases ok with
              | true => simpa using Rel.tup (.cons hz (.cons (.bool true) .nil))
              | false => simpa using hz
        · rename_i hf
          split at hr
          · rename_i kt2 e3 hu2
            rw [hu] at hu2
            simp only [Option.some.injEq, TypeDesc.map.injEq] at hu2
            obtain ⟨rfl, rfl⟩ := hu2
            cases hzA : zeroA P et with
            | none => simp [hzA, AM.Runs] at hr
            | some z =>
              obtain ⟨z', i, _, _, hzr, hzR⟩ := zeroA_sound (E := E) (ra := ra) (ι := ι) (w := w) hzA
              simp only [hzA, AM.Runs] at hr
              obtain ⟨rfl, rfl, rfl⟩ := hr
              rcases findI_sound g3 g4 hf with ⟨_, e2⟩ | ⟨n2, y, z, e, _⟩
              · refine ⟨rfl, (if ok then .tuple #[z', .bool false] else z'), ?_, ?_⟩
                · simp [Instr.lookup, run_underlying hu, MapKept.run_getObj_map g1, MapKept.run_checkKey hd hkey, MapKept.run_findKey hd e2, hzr, Result.andThen]
                  try rfl
                · cases ok with
                  | true => simpa using Rel.tup (.cons hzR (.cons (.bool false) .nil))
                  | false => simpa using hzR
              · cases e
          · simp [AM.Runs] at hr
        · simp [AM.Runs] at hr
      · simp [AM.Runs] at hr
  · simp [AM.Runs] at hr
theorem clearA_sound {ι : Inj} {h : Log} {w : World} (H : WRel E ra base ι h w) {ts : Array TypeId} {ty : TypeId} {x : AVal} {x' : Value} (hx : Rel E ra ι x x') :
    SoundAt P E ra base ι h w (clearA P ts x) (Builtin.clear_ ts ty #[x']) := by
  intro v d r hr
  unfold clearA at hr
  split at hr
  case h_2 => simp [AM.Runs] at hr
  rename_i e hu
  cases ht : ts[0]? with
  | none => simp [ht] at hu
  | some t =>
  simp only [ht, Option.bind_some] at hu
  split at hr
  · cases hx
    simp only [AM.Runs] at hr
    obtain ⟨rfl, rfl, rfl⟩ := hr
    exact ⟨.tuple #[], w, ι, by simp [Builtin.clear_, ht, run_underlying hu], by simpa using Rel.tup (E := E) (ra := ra) (ι := ι) .nil, H, .refl _ _ _⟩
  · rename_i id i st n cap
    cases hx with | slice hS hNm =>
    rename_i y cap'
    cases n with
    | zero =>
      have hr : (AM.pure (.tup []) : AM AVal).Runs h v d r := hr
      simp only [AM.Runs] at hr
      obtain ⟨rfl, rfl, rfl⟩ := hr
      exact ⟨.tuple #[], w, ι, by simp [Builtin.clear_, ht, run_underlying hu], by simpa using Rel.tup (E := E) (ra := ra) (ι := ι) .nil, H, .refl _ _ _⟩
    | succ n =>
      have hne : Nat.beq (n + 1) 0 = false := rfl
      simp only [AM.Runs, hne] at hr
      split at hr
      case h_2 => simp [AM.Runs] at hr
      rename_i inf z e1 e2
      cases hb : Nat.beq st inf.size && Nat.beq z.length inf.size with
      | false => simp [hb, AM.Runs] at hr
      | true =>
      simp only [hb] at hr
      rw [Bool.and_eq_true] at hb
      have hst := Nat.eq_of_beq_eq_true hb.1
      have hzl := Nat.eq_of_beq_eq_true hb.2
      subst hst
      obtain ⟨B, r', hv, rfl, hr⟩ := hr
      dsimp only at hr
      split at hr
      case h_2 => simp [AM.Runs] at hr
      rename_i s0
      cases hss : Nat.beq s0.st inf.size with
      | false => simp [hss, AM.Runs] at hr
      | true =>
      have hse := Nat.eq_of_beq_eq_true hss
      simp only [hss, AM.Runs] at hr
      obtain ⟨hrow, hcc, hr⟩ := hr
      have hrow' := of_decide_eq_true hrow
      cases hp : colsPut s0.cols i (z.map (colOf (n + 1))) with
      | none => simp [hp, AM.Runs] at hr
      | some cols =>
      simp only [hp, AM.Runs] at hr
      obtain ⟨b', d', r3, _, rfl, rfl, rfl, rfl, rfl⟩ := hr
      obtain ⟨b, o, cs', el, fz, q1, q2, q3, q4, q5, q6, q7⟩ := H.own id _ hv
      have hwf : s0.WF := q6 s0 (by simp)
      cases hz : zeroA P e with
      | none => simp [hz] at e2
      | some zv =>
      simp only [hz, Option.bind_some] at e2
      obtain ⟨z', i', hi', hiz, hzr, hzR⟩ := zeroA_sound (E := E) (ra := ra) (ι := ι) (w := w) hz
      have hcells := rel_cells hzR e2
      have hlen := hcells.length
      simp only [Array.length_toList] at hlen
      have hzs : z'.cells.size = inf.size := by omega
      have hlens : ∀ c ∈ z.map (colOf (n + 1)), c.len = n + 1 := fun c hc => by
        simp only [List.mem_map] at hc
        obtain ⟨v, _, rfl⟩ := hc
        exact (colOf_at _ v).1
      have k2 : RowsIn E ra ι (n + 1) inf.size (z.map (colOf (n + 1))) (Builtin.zeroCells z'.cells (n + 1)).toList := by
        refine ⟨by simp [Builtin.zeroCells, hzs], by simp [hzl], hlens, fun j v hj => ?_⟩
        have hlt := cellOf_lt hj
        simp only [total, Nat.add_zero] at hlt
        have hp0 : 0 < inf.size := by
          rcases Nat.eq_zero_or_pos inf.size with hh | hh
          · rw [hh] at hlt; simp at hlt
          · exact hh
        have hm : j % inf.size < inf.size := Nat.mod_lt _ hp0
        have hq : j / inf.size < n + 1 := Nat.div_lt_of_lt_mul (by rw [Nat.mul_comm]; exact hlt)
        rw [rows_cell hlt] at hj
        simp only [List.getElem?_map, List.getElem?_eq_getElem (show j % inf.size < z.length by omega), Option.map_some, Option.some.injEq] at hj
        rw [(colOf_at _ _).2 _ hq] at hj
        subst hj
        obtain ⟨y, hy, hyr⟩ := hcells.get (i := j % inf.size) (v := z[j % inf.size]) (by simp)
        refine ⟨y, ?_, hyr⟩
        simp only [Array.getElem?_toList] at hy
        rw [Array.getElem?_eq_getElem (by omega)] at hy
        simp only [Option.some.injEq] at hy
        simp only [Builtin.zeroCells, Array.getElem?_toList, Array.getElem?_map, Array.getElem?_range, hzs, hlt, if_true, Option.map_some, Option.some.injEq]
        rw [getElem!_pos _ _ (by omega)]
        exact hy
      have hsets := put_sets hwf hp hlens hrow'
      have hR := flatOf_rel k2
      rw [← hse] at hR
      have hone := rows_oneCell k2 hcc
      obtain ⟨w', t1, t2, t3⟩ := turn_sound (P := P) H hv q1 hsets hR hone
      refine ⟨.tuple #[], w', ι, ?_, by simpa using Rel.tup (E := E) (ra := ra) (ι := ι) .nil, by simpa using t2, by simpa using t3⟩
      have hstore : (storeCells y (Builtin.zeroCells z'.cells (n + 1)).toList).run P w = .ok () w' := by
        rcases hS.2.2 with hc0 | ⟨b2, o2, sz2, g4, rfl, g5⟩
        · have := hS.1; omega
        · rw [q1] at g4
          simp only [Option.some.injEq, Prod.mk.injEq] at g4
          obtain ⟨rfl, rfl, rfl⟩ := g4
          rw [← t1, hse]; rfl
      simp [Builtin.clear_, ht, run_underlying hu, hzr, hstore]
  · simp [AM.Runs] at hr
abbrev Tmps := List AVal
def evalA (ts : Tmps) : Operand → AVal
  | .tmp t => ts.getD t .undef
  | .const v => absV v
  | .global _ => .undef
  | .func f => .fn f []
def putA (ts : Tmps) (dst : Option Tmp) (v : AVal) : Tmps :=
  match dst with
  | some d => ts.set d v
  | none => ts
def pickA (c a b : AVal) : AM AVal :=
  match c with
  | .bool c => match a, b with
    | .bool x, .bool y => .pure (.bool (bif c then x else y))
    | a, b => .br c (.pure a) (.pure b)
  | _ => .fail
def nilA (x : AVal) : AM AVal :=
  match x with
  | .ptr a => .pure (.ptr a)
  | .fn f cs => .pure (.fn f cs)
  | .iface t v => .pure (.iface t v)
  | _ => .fail
def funcA (fn : Fn) (first : Array Operand) (cs : List AVal) : AM AVal :=
  match fn, first.toList with
  | .func f, [] => .pure (.fn f cs)
  | _, _ => .fail
section
variable (P E)
def ifaceA (t : TypeId) (x : AVal) : AM AVal :=
  match P.underlying t with
  | some (.interface _) => .fail
  | some _ => .pure (.iface t x)
  | none => .fail
def assertA (x : AVal) (t : TypeId) (ok : Bool) : AM AVal :=
  match P.underlying t with
  | some (.interface _) => .fail
  | some _ => match x, ok with
    | .iface u v, true => match Nat.beq u t with
      | true => .pure (.tup [v, .bool true])
      | false => match zeroA P t with
        | some z => .pure (.tup [z, .bool false])
        | none => .fail
    | .iface u v, false => match Nat.beq u t with
      | true => .pure v
      | false => .fail
    | .nili, true => match zeroA P t with
        | some z => .pure (.tup [z, .bool false])
        | none => .fail
    | _, _ => .fail
  | none => .fail
def builtinA (b : Builtin) (ts : Array TypeId) (args : List AVal) : AM AVal :=
  match b, args with
  | .len, [x] => liftO (lenA P ts x)
  | .cap, [x] => liftO (capA P ts x)
  | .min, x :: r => liftO (foldA minA x r)
  | .max, x :: r => liftO (foldA maxA x r)
  | .append, [s, x] => appendA P E ts s x
  | .copy, [d, x] => copyA P E ts d x
  | .clear, [x] => clearA P ts x
  | _, _ => .fail
def aop (o : Op) (ρ : Operand → AVal) : AM AVal :=
  match o with
  | .move x => .pure (ρ x)
  | .assign x => .pure (ρ x)
  | .pick c a b => pickA (ρ c) (ρ a) (ρ b)
  | .alloc t => allocA P t
  | .box t x => newVarA P t (ρ x)
  | .build t parts => liftO (buildA P t (parts.toList.map fun p => (p.1, ρ p.2)))
  | .buildSlice t len parts => buildSliceA P t len (parts.toList.map fun p => (p.1, ρ p.2))
  | .load t a => loadA P E t (ρ a)
  | .store t a x => storeA P t (ρ a) (ρ x)
  | .nilCheck x => nilA (ρ x)
  | .binOp op t x y _ => binA P op t x y (ρ x) (ρ y)
  | .unOp op _ x => unA op (ρ x)
  | .convert s d x => convA P s d (ρ x)
  | .makeInterface t x => ifaceA P t (ρ x)
  | .makeFunc fn first captured => funcA fn first (captured.toList.map ρ)
  | .makeSlice t l c => makeSliceA P t (ρ l) (ρ c)
  | .slice t x lo hi mx => sliceA P E t (ρ x) (lo.map ρ) (hi.map ρ) (mx.map ρ)
  | .fieldAddr s x f => fieldAddrA P s (ρ x) f
  | .field t x f => fieldA P t (ρ x) f
  | .indexAddr t x ix => indexAddrA P E t (ρ x) (ρ ix)
  | .index t x ix => indexA P t (ρ x) (ρ ix)
  | .extract t ix => extractA (ρ t) ix
  | .makeMap _ r => makeMapA (r.map ρ)
  | .mapUpdate t m k x => mapUpA P t (ρ m) (ρ k) (ρ x)
  | .insert t m k x => mapUpA P t (ρ m) (ρ k) (ρ x)
  | .lookup t x ix ok => lookA P t (ρ x) (ρ ix) ok
  | .typeAssert x _ t ok => assertA P (ρ x) t ok
  | .call c => match c.callee with
    | .builtin b => builtinA P E b c.argTypes (c.args.toList.map ρ)
    | _ => .fail
  | _ => .fail
end
theorem map_congr' {α β : Type} {f g : α → β} {l : List α} (h : ∀ x ∈ l, f x = g x) : l.map f = l.map g := List.map_congr_left h
theorem aop_congr {o : Op} {ρ ρ' : Operand → AVal} (h : ∀ x ∈ o.operands, ρ x = ρ' x) : aop P E o ρ = aop P E o ρ' := by
  cases o <;> simp only [aop, Op.operands] at h ⊢ <;> try rfl
  case build t parts => congr 2; exact map_congr' fun p hp => by rw [h p.2 (by simp; exact ⟨p.1, by simpa using hp⟩)]
  case buildSlice t len parts => congr 1; exact map_congr' fun p hp => by rw [h p.2 (by simp; exact ⟨p.1, by simpa using hp⟩)]
  case makeFunc fn first captured => congr 1; exact map_congr' fun x hx => h x (by simp; exact .inr (by simpa using hx))
  case slice t x lo hi mx =>
    rw [h x (by simp)]
    have e1 : lo.map ρ = lo.map ρ' := by cases lo with | none => rfl | some y => simp [h y (by simp)]
    have e2 : hi.map ρ = hi.map ρ' := by cases hi with | none => rfl | some y => simp [h y (by simp)]
    have e3 : mx.map ρ = mx.map ρ' := by cases mx with | none => rfl | some y => simp [h y (by simp)]
    rw [e1, e2, e3]
  case makeMap t r =>
    have e1 : r.map ρ = r.map ρ' := by cases r with | none => rfl | some y => simp [h y (by simp)]
    rw [e1]
  case call c =>
    split
    · congr 1; exact map_congr' fun x hx => h x (by rename_i b hb; simp [Call.operands, hb]; simpa using hx)
    · rfl
  all_goals (first
    | (rw [h _ (by simp)]; done)
    | (rw [h _ (by simp), h _ (by simp)]; done)
    | (rename_i c a b; rw [h c (by simp), h a (by simp), h b (by simp)])
    | (rename_i c a b; rw [h a (by simp), h b (by simp)])
    | (rename_i op t x y t2; rw [h x (by simp), h y (by simp)]))
def OpSound (P : Program) (E : Nat → Nat → Seg) (ra : Nat → Nat → Nat × Nat) (base : Nat) (ι : Inj) (h : Log) (w : World) (s : Sem Next) (v : AVal) (d : Log) : Prop :=
  ∃ w' ι', ((∃ v', s.run P w = .ok (.value v') w' ∧ Rel E ra ι' v v') ∨ (s.run P w = .ok .skip w' ∧ v = .undef)) ∧ WRel E ra base ι' (d ++ h) w' ∧ Keeps ι h w ι' (d ++ h) w'
theorem OpSound.of {ι : Inj} {h : Log} {w : World} {m : AM AVal} {s : Sem Value} (hs : SoundAt P E ra base ι h w m s) {v : AVal} {d : Log} {r : List Nat} (hr : m.Runs h v d r) :
    OpSound P E ra base ι h w (do pure (.value (← s))) v d := by
  obtain ⟨v', w', ι', h1, h2, h3, h4⟩ := hs v d r hr
  exact ⟨w', ι', .inl ⟨v', by simp [h1], h2⟩, h3, h4⟩
theorem SoundAt.lift {ι : Inj} {h : Log} {w : World} {o : Option AVal} {s : Sem Value} (H : WRel E ra base ι h w) (hs : ∀ v, o = some v → ∃ v', s.run P w = .ok v' w ∧ Rel E ra ι v v') : SoundAt P E ra base ι h w (liftO o) s :=
  .of_pure H fun v d r hr => by
    rw [runs_liftO] at hr
    obtain ⟨h1, rfl, rfl⟩ := hr
    exact ⟨rfl, hs v h1⟩
theorem relL_map {ι : Inj} {ρ : Operand → AVal} {ρ' : Operand → Value} (hρ : ∀ x, Rel E ra ι (ρ x) (ρ' x)) : ∀ l : List Operand, RelL E ra ι (l.map ρ) (l.map ρ')
  | [] => .nil
  | x :: l => .cons (hρ x) (relL_map hρ l)
theorem relL_parts {ι : Inj} {ρ : Operand → AVal} {ρ' : Operand → Value} (hρ : ∀ x, Rel E ra ι (ρ x) (ρ' x)) : ∀ l : List (Nat × Operand), RelL E ra ι ((l.map fun p => (p.1, ρ p.2)).map (·.2)) ((l.map fun p => (p.1, ρ' p.2)).map (·.2))
  | [] => .nil
  | x :: l => .cons (hρ x.2) (relL_parts hρ l)
theorem pickA_sound {ι : Inj} {h : Log} {w : World} (H : WRel E ra base ι h w) {c a b : AVal} {c' a' b' : Value} (hc : Rel E ra ι c c') (ha : Rel E ra ι a a') (hb : Rel E ra ι b b') :
    SoundAt P E ra base ι h w (pickA c a b) (do pure (if ← asBool c' then a' else b')) := by
  refine .of_pure H fun v d r hr => ?_
  unfold pickA at hr
  split at hr
  · rename_i q
    cases hc
    split at hr
    · cases ha; cases hb
      simp only [AM.Runs] at hr
      obtain ⟨rfl, rfl, rfl⟩ := hr
      refine ⟨rfl, _, by simp [asBool]; rfl, ?_⟩
      cases q <;> exact .bool _
    · simp only [AM.Runs] at hr
      cases q <;> (obtain ⟨rfl, rfl, rfl⟩ := hr; exact ⟨rfl, _, by simp [asBool]; rfl, by assumption⟩)
  · simp [AM.Runs] at hr
theorem assertA_sound {ι : Inj} {h : Log} {w : World} (H : WRel E ra base ι h w) {x : AVal} {x' : Value} (hx : Rel E ra ι x x') {xt t : TypeId} {ok : Bool} :
    SoundAt P E ra base ι h w (assertA P x t ok) (Instr.typeAssert x' xt t ok) := by
  refine .of_pure H fun v d r hr => ?_
  unfold assertA at hr
  split at hr
  · simp [AM.Runs] at hr
  · rename_i td hni hu
    split at hr
    · rename_i u y
      cases hx with | iface hy =>
      rename_i y'
      cases hb : Nat.beq u t with
      | true =>
        have := Nat.eq_of_beq_eq_true hb
        subst this
        simp only [hb, AM.Runs] at hr
        obtain ⟨rfl, rfl, rfl⟩ := hr
        refine ⟨rfl, .tuple #[y', .bool true], ?_, by simpa using Rel.tup (.cons hy (.cons (.bool true) .nil))⟩
        simp [Instr.typeAssert, run_underlying hu]
      | false =>
        have hne : u ≠ t := fun e => by subst e; simp at hb
        simp only [hb] at hr
        cases hz : zeroA P t with
        | none => simp [hz, AM.Runs] at hr
        | some z =>
          obtain ⟨z', i, _, _, hzr, hzR⟩ := zeroA_sound (E := E) (ra := ra) (ι := ι) (w := w) hz
          simp only [hz, AM.Runs] at hr
          obtain ⟨rfl, rfl, rfl⟩ := hr
          refine ⟨rfl, .tuple #[z', .bool false], ?_, by simpa using Rel.tup (.cons hzR (.cons (.bool false) .nil))⟩
          simp [Instr.typeAssert, run_underlying hu, hne, hzr]
    · rename_i u y
      cases hx with | iface hy =>
      rename_i y'
      cases hb : Nat.beq u t with
      | true =>
        have := Nat.eq_of_beq_eq_true hb
        subst this
        simp only [hb, AM.Runs] at hr
        obtain ⟨rfl, rfl, rfl⟩ := hr
        exact ⟨rfl, y', by simp [Instr.typeAssert, run_underlying hu], hy⟩
      | false => simp [hb, AM.Runs] at hr
    · cases hx
      cases hz : zeroA P t with
      | none => simp [hz, AM.Runs] at hr
      | some z =>
        obtain ⟨z', i, _, _, hzr, hzR⟩ := zeroA_sound (E := E) (ra := ra) (ι := ι) (w := w) hz
        simp only [hz, AM.Runs] at hr
        obtain ⟨rfl, rfl, rfl⟩ := hr
        refine ⟨rfl, .tuple #[z', .bool false], ?_, by simpa using Rel.tup (.cons hzR (.cons (.bool false) .nil))⟩
        simp [Instr.typeAssert, run_underlying hu, hzr]
    · simp [AM.Runs] at hr
  · simp [AM.Runs] at hr
theorem builtinA_sound {ι : Inj} {h : Log} {w : World} (H : WRel E ra base ι h w) {b : Builtin} {ts : Array TypeId} {ty : TypeId} {cs : Array Bool} {args : List AVal} {args' : List Value} (ha : RelL E ra ι args args') {v : AVal} {d : Log} {r : List Nat}
    (hr : (builtinA P E b ts args).Runs h v d r) : OpSound P E ra base ι h w (builtin b ts ty cs args'.toArray) v d := by
  cases b <;> (try (exact (hr : False).elim))
  case append =>
    cases ha with
    | nil => exact (hr : False).elim
    | cons hx ht => cases ht with
      | nil => exact (hr : False).elim
      | cons hy ht => cases ht with
        | cons _ _ => exact (hr : False).elim
        | nil => exact .of (appendA_sound H hx hy) hr
  case cap =>
    cases ha with
    | nil => exact (hr : False).elim
    | cons hx ht => cases ht with
      | cons _ _ => exact (hr : False).elim
      | nil => exact .of (SoundAt.lift H fun u hu => capA_sound hx hu) hr
  case copy =>
    cases ha with
    | nil => exact (hr : False).elim
    | cons hx ht => cases ht with
      | nil => exact (hr : False).elim
      | cons hy ht => cases ht with
        | cons _ _ => exact (hr : False).elim
        | nil => exact .of (copyA_sound H hx hy) hr
  case clear =>
    cases ha with
    | nil => exact (hr : False).elim
    | cons hx ht => cases ht with
      | cons _ _ => exact (hr : False).elim
      | nil => exact .of (clearA_sound H hx) hr
  case len =>
    cases ha with
    | nil => exact (hr : False).elim
    | cons hx ht => cases ht with
      | cons _ _ => exact (hr : False).elim
      | nil => exact .of (SoundAt.lift H fun u hu => lenA_sound hx hu) hr
  case min =>
    cases ha with
    | nil => exact (hr : False).elim
    | cons hx ht =>
      refine .of (s := Builtin.min_ ts ty _) (SoundAt.lift H fun u hu => ?_) hr
      obtain ⟨v', h1, h2⟩ := foldA_sound (P := P) (w := w) (f := minA) (g := Builtin.min2) (fun a b v a' b' ha hb hf => minA_sound ha hb hf) _ _ _ _ _ hx ht hu
      exact ⟨v', by simpa [Builtin.min_] using h1, h2⟩
  case max =>
    cases ha with
    | nil => exact (hr : False).elim
    | cons hx ht =>
      refine .of (s := Builtin.max_ ts ty _) (SoundAt.lift H fun u hu => ?_) hr
      obtain ⟨v', h1, h2⟩ := foldA_sound (P := P) (w := w) (f := maxA) (g := Builtin.max2) (fun a b v a' b' ha hb hf => maxA_sound ha hb hf) _ _ _ _ _ hx ht hu
      exact ⟨v', by simpa [Builtin.max_] using h1, h2⟩
theorem opBuild {ι : Inj} {h : Log} {w : World} (H : WRel E ra base ι h w) {ρ : Operand → AVal} {ρ' : Operand → Value} (hρ : ∀ x, Rel E ra ι (ρ x) (ρ' x)) (t : TypeId) (parts : Array (Nat × Operand)) :
    SoundAt P E ra base ι h w (liftO (buildA P t (parts.toList.map fun p => (p.1, ρ p.2)))) (Instr.build t (parts.map fun p => (p.1, ρ' p.2))) := by
  refine SoundAt.lift H fun u hu => ?_
  have e : (parts.map fun p => (p.1, ρ' p.2)).toList = parts.toList.map fun p => (p.1, ρ' p.2) := by simp
  refine buildA_sound ?_ ?_ hu
  · rw [e]; simp
  · rw [e]; exact relL_parts hρ parts.toList
theorem opBuildSlice {ι : Inj} {h : Log} {w : World} (H : WRel E ra base ι h w) {ρ : Operand → AVal} {ρ' : Operand → Value} (hρ : ∀ x, Rel E ra ι (ρ x) (ρ' x)) (t : TypeId) (n : Nat) (parts : Array (Nat × Operand)) :
    SoundAt P E ra base ι h w (buildSliceA P t n (parts.toList.map fun p => (p.1, ρ p.2))) (Instr.buildSlice t n (parts.map fun p => (p.1, ρ' p.2))) := by
  have e : (parts.map fun p => (p.1, ρ' p.2)).toList = parts.toList.map fun p => (p.1, ρ' p.2) := by simp
  refine buildSliceA_sound H ?_ ?_
  · rw [e]; simp
  · rw [e]; exact relL_parts hρ parts.toList
theorem aop_sound {ι : Inj} {h : Log} {w : World} (H : WRel E ra base ι h w) {ρ : Operand → AVal} {ρ' : Operand → Value} (hρ : ∀ x, Rel E ra ι (ρ x) (ρ' x)) {o : Oper} {v : AVal} {d : Log} {r : List Nat}
    (hr : (aop P E o.op ρ).Runs h v d r) : OpSound P E ra base ι h w (execOp ρ' o) v d := by
  unfold execOp
  cases ho : o.op <;> simp only [ho, aop] at hr ⊢ <;> try (simp [AM.Runs] at hr; done)
  case move x => obtain ⟨rfl, rfl, rfl⟩ := hr; exact ⟨w, ι, .inl ⟨_, rfl, hρ x⟩, H, .refl _ _ _⟩
  case assign x => obtain ⟨rfl, rfl, rfl⟩ := hr; exact ⟨w, ι, .inl ⟨_, rfl, hρ x⟩, H, .refl _ _ _⟩
  case pick c a b =>
    obtain ⟨v', w', ι', h1, h2⟩ := pickA_sound (P := P) H (hρ c) (hρ a) (hρ b) v d r hr
    refine ⟨w', ι', .inl ⟨v', ?_, h2.1⟩, h2.2⟩
    simp only [Sem.run_bind] at h1 ⊢
    revert h1
    cases Sem.run P (asBool (ρ' c)) w with
    | ok q w1 => intro h1; simp only [Result.andThen_ok, Sem.run_pure, Result.ok.injEq] at h1 ⊢; simp [h1]
    | halt x w1 => intro h1; simp [Result.andThen] at h1
  case alloc t => exact .of (allocA_sound H) hr
  case box t x => exact .of (boxA_sound H (hρ x)) hr
  case build t parts => exact OpSound.of (opBuild H hρ t parts) hr
  case buildSlice t len parts => exact OpSound.of (opBuildSlice H hρ t len parts) hr
  case load t a => exact .of (loadA_sound H (hρ a)) hr
  case store t a x =>
    obtain ⟨rfl, w', h1, h2, h3⟩ := storeA_sound H (hρ a) (hρ x) hr
    exact ⟨w', ι, .inr ⟨by simp [h1], rfl⟩, h2, h3⟩
  case nilCheck x =>
    unfold nilA at hr
    have hx := hρ x
    split at hr
    · rename_i a e
      rw [e] at hx
      obtain ⟨rfl, rfl, rfl⟩ := hr
      generalize ρ' x = y at hx
      cases hx with | ptr hA => exact ⟨w, ι, .inl ⟨_, rfl, .ptr hA⟩, H, .refl _ _ _⟩
    · rename_i f cs e
      rw [e] at hx
      obtain ⟨rfl, rfl, rfl⟩ := hr
      generalize ρ' x = y at hx
      cases hx with | fn hL => exact ⟨w, ι, .inl ⟨_, rfl, .fn hL⟩, H, .refl _ _ _⟩
    · rename_i t u e
      rw [e] at hx
      obtain ⟨rfl, rfl, rfl⟩ := hr
      generalize ρ' x = y at hx
      cases hx with | iface hI => exact ⟨w, ι, .inl ⟨_, rfl, .iface hI⟩, H, .refl _ _ _⟩
    · simp [AM.Runs] at hr
  case binOp op t x y t2 => exact .of (binA_sound H (hρ x) (hρ y)) hr
  case unOp op t x => exact .of (unA_sound H (hρ x)) hr
  case convert s dd x => exact .of (convA_sound H (hρ x)) hr
  case makeInterface t x =>
    refine .of (s := Instr.makeInterface t (ρ' x)) (.of_pure H fun u d r hr => ?_) hr
    unfold ifaceA at hr
    split at hr
    · simp [AM.Runs] at hr
    · rename_i td hni hu
      obtain ⟨rfl, rfl, rfl⟩ := hr
      refine ⟨rfl, .iface t (ρ' x), ?_, .iface (hρ x)⟩
      simp only [Instr.makeInterface, Sem.run_bind, run_underlying hu, Result.andThen_ok]
      cases td <;> first | rfl | exact absurd hu (by simpa using hni _)
    · simp [AM.Runs] at hr
  case makeFunc fn first captured =>
    refine .of (s := Instr.makeFunc fn (first.map ρ') (captured.map ρ')) (.of_pure H fun u d r hr => ?_) hr
    unfold funcA at hr
    split at hr
    · rename_i f e _
      obtain ⟨rfl, rfl, rfl⟩ := hr
      have hf : first = #[] := by
        obtain ⟨l⟩ := first
        cases e; rfl
      subst hf
      refine ⟨rfl, _, rfl, ?_⟩
      have := Rel.fn (E := E) (ra := ra) (ι := ι) (f := f) (relL_map hρ captured.toList)
      have e : (captured.map ρ') = (captured.toList.map ρ').toArray := by apply Array.ext'; simp
      rw [e]; simpa using this
    · simp [AM.Runs] at hr
  case makeSlice t l c => exact .of (makeSliceA_sound H (hρ l) (hρ c)) hr
  case slice t x lo hi mx =>
    exact .of (sliceA_sound H (hρ x) (fun v hv => by cases lo with | none => simp at hv | some y => simp only [Option.map_some, Option.some.injEq] at hv; subst hv; exact ⟨_, rfl, hρ y⟩) (fun hn => by cases lo <;> simp_all)
      (fun v hv => by cases hi with | none => simp at hv | some y => simp only [Option.map_some, Option.some.injEq] at hv; subst hv; exact ⟨_, rfl, hρ y⟩) (fun hn => by cases hi <;> simp_all)
      (fun v hv => by cases mx with | none => simp at hv | some y => simp only [Option.map_some, Option.some.injEq] at hv; subst hv; exact ⟨_, rfl, hρ y⟩) (fun hn => by cases mx <;> simp_all)) hr
  case fieldAddr s x f => exact .of (fieldAddrA_sound H (hρ x)) hr
  case field t x f => exact .of (fieldA_sound H (hρ x)) hr
  case indexAddr t x ix => exact .of (indexAddrA_sound H (hρ x) (hρ ix)) hr
  case index t x ix => exact .of (indexA_sound H (hρ x) (hρ ix)) hr
  case extract t ix => exact .of (extractA_sound H (hρ t)) hr
  case makeMap t rs => exact .of (makeMapA_sound H fun e => by cases rs with | none => rfl | some y => simp at e) hr
  case mapUpdate t m k x =>
    obtain ⟨rfl, w', h1, h2, h3⟩ := mapUpA_sound H (hρ m) (hρ k) (hρ x) hr
    exact ⟨w', ι, .inr ⟨by simp [h1], rfl⟩, h2, h3⟩
  case insert t m k x =>
    obtain ⟨rfl, w', h1, h2, h3⟩ := mapUpA_sound H (hρ m) (hρ k) (hρ x) hr
    exact ⟨w', ι, .inr ⟨by simp [h1], rfl⟩, h2, h3⟩
  case lookup t x ix ok => exact .of (lookA_sound H (hρ x) (hρ ix)) hr
  case typeAssert x xt t ok => exact .of (assertA_sound H (hρ x)) hr
  case call c =>
    split at hr
    · rename_i b hb
      have := builtinA_sound (P := P) (ty := o.type) (cs := c.args.map fun | .const _ => true | _ => false) H (relL_map hρ c.args.toList) hr
      obtain ⟨w', ι', h1, h2⟩ := this
      refine ⟨w', ι', ?_, h2⟩
      have e : (c.args.map ρ') = (c.args.toList.map ρ').toArray := by apply Array.ext'; simp
      simp only [resolve, hb, Sem.run_bind, Sem.run_pure, Result.andThen_ok, invoke, e]
      exact h1
    · simp [AM.Runs] at hr
end Go.Proofs.Ytgkejpfahpbnkaa.Ab

namespace Go.Proofs.Ytgkejpfahpbnkaa.Ab
variable {P : Program} {E : Nat → Nat → Seg} {ra : Nat → Nat → Nat × Nat} {base : Nat}
inductive AExit
  | normal
  | exit (id : Nat)
  | ret
def AExit.toExit : AExit → Exit
  | .normal => .normal
  | .exit id => .exit id
  | .ret => .ret
def AExit.jump : AExit → Option Code
  | .normal => none
  | .exit id => some (.exit id)
  | .ret => some .ret
abbrev Sums := FuncId → Option (List AVal → AM AVal)
abbrev Exts := FuncId → Option (List AVal → AM AVal)
abbrev Walk := FuncId → List Bool → Bool → Code → Tmps → AM (AExit × Tmps)
abbrev Loops := FuncId → List Bool → Option (Tmps → AM (AExit × Tmps))
def noF : FuncId := 1000000
section defs
variable (P E)
def oneA (ts : Tmps) : ResultVar → AM AVal
  | .tmp t => .pure (ts.getD t .undef)
  | .cell a t => loadA P E t (ts.getD a .undef)
def allA (ts : Tmps) : List ResultVar → AM (List AVal)
  | [] => .pure []
  | r :: rs => (oneA P E ts r).bind fun v => (allA ts rs).bind fun vs => .pure (v :: vs)
def resA (fn : Func) (ts : Tmps) : AM AVal :=
  match fn.results.toList with
  | [r] => oneA P E ts r
  | rs => (allA P E ts rs).bind fun vs => .pure (.tup vs)
variable (S : Sums) (X : Exts) (L : Loops) (R : Walk)
def endA (fn : Func) (p : AExit × Tmps) : AM AVal :=
  match p.1 with
  | .exit _ => .fail
  | _ => resA P E fn p.2
def callB (f : FuncId) (as : List AVal) : AM AVal :=
  match S f with
  | some s => s as
  | none => match P.funcs[f]? with
    | some fn => match fn.body with
      | some c => (R f [] false c (as ++ List.replicate (fn.ntmps - as.length) .undef)).bind (endA P E fn)
      | none => .fail
    | none => .fail
def callA (f : FuncId) (as : List AVal) : AM AVal :=
  match X f with
  | some x => x as
  | none => callB P E S R f as
def setAllA (ts : Tmps) : List Tmp → List AVal → Tmps
  | p :: ps, v :: vs => setAllA (ts.set p v) ps vs
  | _, _ => ts
def endRoundA (id : Nat) (p : AExit × Tmps) : AM AVal :=
  .read id fun b => match b with
    | .loop ts ps as bd .busy _ => .upd id (some (.loop ts ps as bd (match p.1 with | .normal => .ready | _ => .done) p.1.jump)) (.pure (.bool (match p.1 with | .normal => true | _ => false)))
    | _ => .fail
def busyA (id : Nat) (c : Code) (t₁ : Tmps) : AM AVal :=
  .read id fun b => match b with
    | .loop ts ps as bd .ready pend => .upd id (some (.loop ts ps as bd .busy pend)) ((R noF [] true c t₁).bind (endRoundA id))
    | _ => .fail
def beginA (id : Nat) (c : Code) (p : AExit × Tmps) : AM AVal :=
  match p.1 with
  | .normal => busyA R id c p.2
  | _ => .fail
def yieldA (id : Nat) (args : List AVal) : AM AVal :=
  .read id fun b => match b with
    | .loop ts ps as bd _ _ => .need (Nat.beq ps.length args.length) ((R noF [] true as (setAllA ts ps args)).bind (beginA R id bd))
    | _ => .fail
def opA (o : Oper) (ρ : Operand → AVal) : AM AVal :=
  match o.op with
  | .call c => match c.callee with
    | .value f => match ρ f with
      | .fn g cap => callA P E S X R g (c.args.toList.map ρ ++ cap)
      | .yld id => yieldA R id (c.args.toList.map ρ)
      | _ => .fail
    | .builtin _ => aop P E o.op ρ
    | .invoke _ _ => .fail
  | op => aop P E op ρ
def gstepA (all : List Oper) (o : Oper) (ts : Tmps) : AM Tmps :=
  match o.guard with
  | none => (opA P E S X R o (evalA ts)).bind fun v => .pure (putA ts o.dst v)
  | some (j, want) => match all[j]? with
    | some oj => match oj.dst with
      | some d => match ts.getD d .undef with
        | .bool b => .br b
          (match want with
            | true => (opA P E S X R o (evalA (ts.set d (.bool true)))).bind fun v => .pure (putA (ts.set d (.bool true)) o.dst v)
            | false => .pure (putA (ts.set d (.bool true)) o.dst (.tup [])))
          (match want with
            | true => .pure (putA (ts.set d (.bool false)) o.dst (.tup []))
            | false => (opA P E S X R o (evalA (ts.set d (.bool false)))).bind fun v => .pure (putA (ts.set d (.bool false)) o.dst v))
        | .tup [] => .pure (putA ts o.dst (.tup []))
        | _ => .fail
      | none => .fail
    | none => .fail
def opsA (all : List Oper) : List Oper → Tmps → AM (AExit × Tmps)
  | [], ts => .pure (.normal, ts)
  | o :: l, ts => (gstepA P E S X R all o ts).bind fun ts => opsA all l ts
def apartL (a b : List Nat) : Bool := a.all fun i => b.all fun j => !(Nat.beq i j)
def before : List Oper → List Nat → List Nat
  | [], acc => acc
  | o :: l, acc => before l (acc ++ [o.after.toList.foldl (fun s e => bif Region.binds .any e then s ||| 2 ^ e.on ||| acc.getD e.on 0 else s) 0])
def footOk (all : List Oper) (bef : List Nat) (i : Nat) (r w : List Nat) (f : Nat × List Nat × List Nat) : Bool :=
  (bef.getD i 0).testBit f.1 || (apartL w f.2.2 && apartL w f.2.1 && apartL r f.2.2 &&
    match all[i]?, all[f.1]? with
    | some a, some b => b.apart all.toArray a
    | _, _ => false)
def foots (all : List Oper) (bef : List Nat) : List (Nat × List Nat × List Nat) → Bool
  | [] => true
  | (i, r, w) :: l => l.all (footOk all bef i r w) && foots all bef l
def edgesOk : Nat → List Oper → Bool
  | _, [] => true
  | i, o :: l => o.after.toList.all (fun e => !Region.binds .any e || Nat.blt e.on i) && edgesOk (i + 1) l
def drawA (all : List Oper) (bef : List Nat) : Nat → List Oper → Tmps → List (Nat × List Nat × List Nat) → AM (AExit × Tmps)
  | _, [], ts, fs => .need (foots all bef fs && Region.noSelect all.toArray && edgesOk 0 all) (.pure (.normal, ts))
  | i, o :: l, ts, fs => .trace (gstepA P E S X R all o ts) fun ts r w => drawA all bef (i + 1) l ts ((i, r, w) :: fs)
def thenA (f : Tmps → AM (AExit × Tmps)) (p : AExit × Tmps) : AM (AExit × Tmps) :=
  match p.1 with
  | .normal => f p.2
  | _ => .pure p
def blockA (id : Nat) (p : AExit × Tmps) : AExit × Tmps :=
  match p.1 with
  | .exit i => match Nat.beq i id with
    | true => (.normal, p.2)
    | false => p
  | _ => p
def endLoopA (id : Nat) (ts : Tmps) : AM (AExit × Tmps) :=
  .read id fun b => match b with
    | .loop ls ps as bd st pend => .need (match st with | .busy => false | _ => true) (.upd id (some (.loop ls ps as bd .exhausted pend))
      (match pend with
        | none => .pure (.normal, ts)
        | some .ret => .pure (.ret, ts)
        | some (.exit i) => .pure (.exit i, ts)
        | _ => .fail))
    | _ => .fail
def loopA (f : FuncId) (p : List Bool) (rd : Bool) (c : Code) : Nat → Tmps → AM (AExit × Tmps)
  | 0, _ => .fail
  | n + 1, ts => (R f (false :: p) rd c ts).bind (thenA (loopA f p rd c n))
def execF (n : Nat) (f : FuncId) (p : List Bool) (rd : Bool) (c : Code) (ts : Tmps) : AM (AExit × Tmps) :=
  match c with
  | .skip | .label _ => .pure (.normal, ts)
  | .region _ ops draw => match draw with
    | false => opsA P E S X R ops.toList ops.toList ts
    | true => drawA P E S X R ops.toList (before ops.toList []) 0 ops.toList ts []
  | .seq a b => (R f (false :: p) rd a ts).bind (thenA (R f (true :: p) rd b))
  | .cond c a b => match evalA ts c with
    | .bool t => .br t (R f (false :: p) rd a ts) (R f (true :: p) rd b ts)
    | _ => .fail
  | .block id a => (R f (false :: p) rd a ts).bind fun p => .pure (blockA id p)
  | .loop a => match rd, L f p with
    | false, some m => m ts
    | _, _ => loopA R f p rd a n ts
  | .rangeFunc g ps as bd => match rd, evalA ts g with
    | false, .fn g cap => .alloc (.loop ts ps.toList as bd .ready none) fun id => (callB P E S R g (.yld id :: cap)).bind fun _ => endLoopA id ts
    | _, _ => .fail
  | .exit id => .pure (.exit id, ts)
  | .scope a => R f (false :: p) rd a ts
  | .ret => .pure (.ret, ts)
  | _ => .fail
def exec : Nat → Walk
  | 0, _, _, _, _, _ => .fail
  | n + 1, f, p, rd, c, ts => execF P E S X L (exec n) n f p rd c ts
end defs
def DefOK (ι : Inj) (h : Log) (w : World) (nb : Nat) (ds : List Deferred) : Prop :=
  (∀ d ∈ ds, ∃ r, d.target = .collected r ∧ nb ≤ r ∧ w.heap[r]? = some (.deferred (some [])) ∧ ¬ Live ι h r) ∧ ds.Pairwise fun x y => x.target ≠ y.target
theorem lt_of_heap {w : World} {r : Nat} {o : Obj} (h : w.heap[r]? = some o) : r < w.heap.size := by
  rcases Nat.lt_or_ge r w.heap.size with h' | h'
  · exact h'
  · simp [Array.getElem?_eq_none h'] at h
theorem DefOK.keeps {ι ι' : Inj} {h h' : Log} {w w' : World} {nb : Nat} {ds : List Deferred} (hd : DefOK ι h w nb ds) (k : Keeps ι h w ι' h' w') : DefOK ι' h' w' nb ds :=
  ⟨fun d hm => let ⟨r, h1, h2, h3, h4⟩ := hd.1 d hm
    ⟨r, h1, h2, by rw [k.block r (lt_of_heap h3) h4]; exact h3, fun hl => h4 (k.live r (lt_of_heap h3) hl)⟩, hd.2⟩
theorem DefOK.nil (ι : Inj) (h : Log) (w : World) (nb : Nat) : DefOK ι h w nb [] := ⟨fun _ hm => by simp at hm, .nil⟩
structure Fit (E : Nat → Nat → Seg) (ra : Nat → Nat → Nat × Nat) (base : Nat) (ι : Inj) (h : Log) (w : World) (nb : Nat) (ts : Tmps) (a : Act) : Prop where
  rel : WRel E ra base ι h w
  tmps : RelL E ra ι ts a.tmps.toList
  defs : DefOK ι h w nb a.defers
  size : nb ≤ w.heap.size
theorem evalA_sound {ι : Inj} {ts : Tmps} {a : Act} (h : RelL E ra ι ts a.tmps.toList) (x : Operand) : Rel E ra ι (evalA ts x) (a.eval x) := by
  cases x with
  | tmp t =>
    have := h.getD t undef
    have e : a.tmps.toList.getD t undef = a.tmps.getD t undef := by
      rw [Array.getD_eq_getD_getElem?, List.getD_eq_getElem?_getD, Array.getElem?_toList]
    rw [e] at this
    exact this
  | const v => exact rel_absV ι v
  | global g => exact .undef _
  | func f => exact .fn .nil
theorem put_rel {ι : Inj} {ts : Tmps} {a : Act} (h : RelL E ra ι ts a.tmps.toList) (dst : Option Tmp) {v : AVal} {v' : Value} (hv : Rel E ra ι v v') : RelL E ra ι (putA ts dst v) (a.put dst v').tmps.toList := by
  cases dst with
  | none => exact h
  | some d => simpa [putA, Act.put] using h.set d hv
theorem put_defers (a : Act) (dst : Option Tmp) (v : Value) : (a.put dst v).defers = a.defers := by cases dst <;> rfl
theorem Fit.put {ι ι' : Inj} {h h' : Log} {w w' : World} {nb : Nat} {ts : Tmps} {a : Act} (f : Fit E ra base ι h w nb ts a) (H : WRel E ra base ι' h' w') (k : Keeps ι h w ι' h' w') (dst : Option Tmp) {v : AVal} {v' : Value} (hv : Rel E ra ι' v v') :
    Fit E ra base ι' h' w' nb (putA ts dst v) (a.put dst v') :=
  ⟨H, put_rel (f.tmps.mono k.ext) dst hv, by rw [put_defers]; exact f.defs.keeps k, Nat.le_trans f.size k.size⟩
theorem Fit.move {ι ι' : Inj} {h h' : Log} {w w' : World} {nb : Nat} {ts : Tmps} {a : Act} (f : Fit E ra base ι h w nb ts a) (H : WRel E ra base ι' h' w') (k : Keeps ι h w ι' h' w') : Fit E ra base ι' h' w' nb ts a :=
  ⟨H, f.tmps.mono k.ext, f.defs.keeps k, Nat.le_trans f.size k.size⟩
theorem loadVar_sound {ι : Inj} {h : Log} {w : World} (H : WRel E ra base ι h w) {t : TypeId} {a : AVal} {a' : Value} (ha : Rel E ra ι a a') {v : AVal} {d : Log} {r : List Nat} (hr : (loadA P E t a).Runs h v d r) :
    d = [] ∧ ∃ x v', a' = .pointer (some x) ∧ (loadVar t x).run P w = .ok v' w ∧ Rel E ra ι v v' := by
  simp only [loadA] at hr
  cases hi : P.info? t with
  | none => simp [hi, AM.Runs] at hr
  | some inf =>
    simp only [hi, runs_bind] at hr
    obtain ⟨cs, d₁, r₁, d₂, r₂, h1, h2, rfl, rfl⟩ := hr
    obtain ⟨rfl, b, x, vs, rfl, hl, hR, hc⟩ := cellsA_sound H ha h1
    have hlen := hR.length
    cases hu : P.underlying t with
    | none => simp [shapeA, hu, AM.Runs] at h2
    | some td =>
      have hagg := run_isAgg hu w
      have hsz := run_sizeOf hi w
      cases hag : aggB td with
      | true =>
        rw [hag] at hagg
        simp only [shapeA, hu, hag] at h2
        obtain ⟨rfl, rfl, rfl⟩ := h2
        refine ⟨rfl, _, .agg vs.toArray, rfl, ?_, .agg hR⟩
        simp [loadVar, hagg, hsz, run_loadCells' hl hc]
      | false =>
        rw [hag] at hagg
        simp only [shapeA, hu, hag] at h2
        match cs, vs, hR, hlen, h2 with
        | [v₀], [y], hR, _, h2 =>
          obtain ⟨rfl, rfl, rfl⟩ := h2
          refine ⟨rfl, _, y, rfl, ?_, ?_⟩
          · have hc0 := hc 0 (by simp at hl; omega)
            simp only [Nat.add_zero, List.getElem?_cons_zero] at hc0
            simp [loadVar, hagg, hc0]
          · cases hR with | cons h _ => exact h
        | [], _, _, _, h2 => simp [one1, AM.Runs] at h2
        | _ :: _ :: _, _, _, _, h2 => simp [one1, AM.Runs] at h2
def oneS (tmps : Array Value) : ResultVar → Sem Value
  | .tmp t => pure (tmps.getD t undef)
  | .cell a t => do loadVar t (← asAddr (tmps.getD a undef))
theorem oneA_sound {ι : Inj} {h : Log} {w : World} (H : WRel E ra base ι h w) {ts : Tmps} {tmps : Array Value} (ht : RelL E ra ι ts tmps.toList) (r : ResultVar) {v : AVal} {d : Log} {rs : List Nat} (hr : (oneA P E ts r).Runs h v d rs) :
    d = [] ∧ ∃ v', (oneS tmps r).run P w = .ok v' w ∧ Rel E ra ι v v' := by
  have hev : ∀ t, Rel E ra ι (ts.getD t .undef) (tmps.getD t undef) := fun t => by
    have := ht.getD t undef
    rwa [show tmps.toList.getD t undef = tmps.getD t undef by rw [Array.getD_eq_getD_getElem?, List.getD_eq_getElem?_getD, Array.getElem?_toList]] at this
  cases r with
  | tmp t =>
    obtain ⟨rfl, rfl, rfl⟩ := hr
    exact ⟨rfl, _, rfl, hev t⟩
  | cell a t =>
    simp only [oneA] at hr
    obtain ⟨h1, x, v', h2, h3, h4⟩ := loadVar_sound (P := P) H (hev a) hr
    exact ⟨h1, v', by simp [oneS, h2, asAddr, h3], h4⟩
theorem allA_sound {ι : Inj} {h : Log} {w : World} (H : WRel E ra base ι h w) {ts : Tmps} {tmps : Array Value} (ht : RelL E ra ι ts tmps.toList) : ∀ (l : List ResultVar) {vs : List AVal} {d : Log} {rs : List Nat}, (allA P E ts l).Runs h vs d rs →
    d = [] ∧ ∃ f : ResultVar → Value, (∀ x ∈ l, (oneS tmps x).run P w = .ok (f x) w) ∧ RelL E ra ι vs (l.map f) := by
  let f : ResultVar → Value := fun x => match (oneS tmps x).run P w with
    | .ok v _ => v
    | .halt _ _ => undef
  have key : ∀ (l : List ResultVar) {vs : List AVal} {d : Log} {rs : List Nat}, (allA P E ts l).Runs h vs d rs → d = [] ∧ (∀ x ∈ l, (oneS tmps x).run P w = .ok (f x) w) ∧ RelL E ra ι vs (l.map f) := by
    intro l
    induction l with
    | nil =>
      rintro vs d rs ⟨rfl, rfl, rfl⟩
      exact ⟨rfl, fun _ hx => by simp at hx, .nil⟩
    | cons r l ih =>
      intro vs d rs hr
      simp only [allA, runs_bind] at hr
      obtain ⟨v, d₁, r₁, d₂, r₂, h1, ⟨us, d₃, r₃, d₄, r₄, h2, ⟨rfl, rfl, rfl⟩, rfl, rfl⟩, rfl, rfl⟩ := hr
      obtain ⟨rfl, v', g1, g2⟩ := oneA_sound H ht r h1
      obtain ⟨rfl, g3, g4⟩ := ih h2
      have hf : f r = v' := by simp only [f, g1]
      refine ⟨rfl, fun x hx => ?_, ?_⟩
      · rcases List.mem_cons.1 hx with rfl | hx
        · rw [hf]; exact g1
        · exact g3 x hx
      · rw [List.map_cons, hf]; exact .cons g2 g4
  exact fun l vs d rs hr => let ⟨h1, h2, h3⟩ := key l hr; ⟨h1, f, h2, h3⟩
theorem resA_sound {ι : Inj} {h : Log} {w : World} (H : WRel E ra base ι h w) {ts : Tmps} {tmps : Array Value} (ht : RelL E ra ι ts tmps.toList) {fn : Func} {v : AVal} {d : Log} {rs : List Nat} (hr : (resA P E fn ts).Runs h v d rs) :
    d = [] ∧ ∃ v', (results fn tmps).run P w = .ok v' w ∧ Rel E ra ι v v' := by
  have hres : ∀ f : ResultVar → Value, (∀ x ∈ fn.results.toList, (oneS tmps x).run P w = .ok (f x) w) →
      (results fn tmps).run P w = .ok (if h : (fn.results.map f).size = 1 then (fn.results.map f)[0] else .tuple (fn.results.map f)) w := by
    intro f hf
    have hm := run_mapM (P := P) (w := w) (oneS tmps) f fn.results hf
    have e : results fn tmps = (do let vs ← fn.results.mapM (oneS tmps); pure (if h : vs.size = 1 then vs[0] else .tuple vs)) := rfl
    rw [e, Sem.run_bind, hm]
    rfl
  unfold resA at hr
  split at hr
  · rename_i r hl
    obtain ⟨h1, v', h2, h3⟩ := oneA_sound H ht r hr
    have := hres (fun _ => v') (fun x hx => by rw [hl] at hx; simp at hx; subst hx; exact h2)
    refine ⟨h1, v', ?_, h3⟩
    rw [this]
    have hs : fn.results.size = 1 := by rw [← Array.length_toList, hl]; rfl
    simp [hs]
  · rename_i hne
    simp only [runs_bind] at hr
    obtain ⟨vs, d₁, r₁, d₂, r₂, h1, ⟨rfl, rfl, rfl⟩, rfl, rfl⟩ := hr
    obtain ⟨rfl, f, h2, h3⟩ := allA_sound H ht _ h1
    refine ⟨rfl, _, hres f h2, ?_⟩
    have hs : (fn.results.map f).size ≠ 1 := by
      intro he
      simp only [← Array.length_toList] at he
      match hh : fn.results.toList with
      | [r] => exact hne r hh
      | [] => simp [hh] at he
      | _ :: _ :: _ => simp [hh] at he
    rw [dif_neg hs]
    have : fn.results.map f = (fn.results.toList.map f).toArray := by apply Array.ext'; simp
    rw [this]
    exact .tup h3
end Go.Proofs.Ytgkejpfahpbnkaa.Ab
