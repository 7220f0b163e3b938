/- append, copy; texts and bytes; conversions: against the model's. -/
import Derived.Test.YtbpcfjhnkjobaaaE10
namespace Go.Proofs.Ytbpcfjhnkjobaaa.Ab

variable {P : Program} {E : Nat → Nat → Seg} {ra : Nat → Nat → Nat × Nat} {base : Nat}

def colPut (a : Col) (i : Nat) (b : Col) : Option Col :=
  match a, b with
  | .int k xs, .int k' ys => match decide (k = k') with
    | true => some (.int k (xs.take i ++ (ys ++ xs.drop (i + ys.length))))
    | false => none
  | .bool xs, .bool ys => some (.bool (xs.take i ++ (ys ++ xs.drop (i + ys.length))))
  | .str xs, .str ys => some (.str (xs.take i ++ (ys ++ xs.drop (i + ys.length))))
  | .val xs, .val ys => some (.val (xs.take i ++ (ys ++ xs.drop (i + ys.length))))
  | _, _ => none

def colsPut : List Col → Nat → List Col → Option (List Col)
  | [], _, [] => some []
  | a :: l, i, b :: r => match colPut a i b, colsPut l i r with
    | some c, some cs => some (c :: cs)
    | _, _ => none
  | _, _, _ => none

theorem put_get {α : Type} (xs ys : List α) (i r : Nat) (d : α) (h : i + ys.length ≤ xs.length) :
    (xs.take i ++ (ys ++ xs.drop (i + ys.length))).length = xs.length ∧ (xs.take i ++ (ys ++ xs.drop (i + ys.length))).getD r d = if i ≤ r ∧ r < i + ys.length then ys.getD (r - i) d else xs.getD r d := by
  refine ⟨by simp; omega, ?_⟩
  have ht : (xs.take i).length = i := by simp; omega
  simp only [List.getD_eq_getElem?_getD]
  by_cases h1 : r < i
  · rw [List.getElem?_append_left (by omega), if_neg (by omega), List.getElem?_take, if_pos h1]
  · rw [List.getElem?_append_right (by omega), ht]
    by_cases h2 : r < i + ys.length
    · rw [if_pos ⟨by omega, h2⟩, List.getElem?_append_left (by omega)]
    · rw [if_neg (by omega), List.getElem?_append_right (by omega), List.getElem?_drop]
      congr 2; omega

theorem colPut_at {a b c : Col} {i m : Nat} (h : colPut a i b = some c) (hb : b.len = m) (hfit : i + m ≤ a.len) : c.len = a.len ∧ ∀ r, colAt c r = if i ≤ r ∧ r < i + m then colAt b (r - i) else colAt a r := by
  cases a <;> cases b <;> simp only [colPut] at h <;> try (cases h; done)
  · rename_i k xs k' ys
    by_cases hk : k = k'
    · subst hk
      simp only [decide_true, Option.some.injEq] at h; subst h
      simp only [Col.len] at hb hfit
      subst hb
      refine ⟨(put_get xs ys i 0 0 hfit).1, fun r => ?_⟩
      simp only [colAt, (put_get xs ys i r 0 hfit).2]
      split <;> rfl
    · simp [hk] at h
  · rename_i xs ys
    simp only [Option.some.injEq] at h; subst h
    simp only [Col.len] at hb hfit
    subst hb
    refine ⟨(put_get xs ys i 0 false hfit).1, fun r => ?_⟩
    simp only [colAt, (put_get xs ys i r false hfit).2]
    split <;> rfl
  · rename_i xs ys
    simp only [Option.some.injEq] at h; subst h
    simp only [Col.len] at hb hfit
    subst hb
    refine ⟨(put_get xs ys i 0 ByteArray.empty hfit).1, fun r => ?_⟩
    simp only [colAt, (put_get xs ys i r ByteArray.empty hfit).2]
    split <;> rfl
  · rename_i xs ys
    simp only [Option.some.injEq] at h; subst h
    simp only [Col.len] at hb hfit
    subst hb
    refine ⟨(put_get xs ys i 0 .undef hfit).1, fun r => ?_⟩
    simp only [colAt, (put_get xs ys i r .undef hfit).2]

theorem colsPut_at : ∀ {a b c : List Col} {i n m : Nat}, colsPut a i b = some c → (∀ x ∈ a, x.len = n) → (∀ x ∈ b, x.len = m) → i + m ≤ n →
    c.length = a.length ∧ b.length = a.length ∧ (∀ x ∈ c, x.len = n) ∧ ∀ (k r : Nat), (c[k]?).map (colAt · r) = if i ≤ r ∧ r < i + m then (b[k]?).map (colAt · (r - i)) else (a[k]?).map (colAt · r)
  | [], [], c, i, n, m, h, _, _, _ => by simp only [colsPut, Option.some.injEq] at h; subst h; simp
  | [], _ :: _, c, i, n, m, h, _, _, _ => by simp [colsPut] at h
  | _ :: _, [], c, i, n, m, h, _, _, _ => by simp [colsPut] at h
  | x :: a, y :: b, c, i, n, m, h, ha, hb, hf => by
    simp only [colsPut] at h
    cases h1 : colPut x i y with
    | none => simp [h1] at h
    | some z =>
      cases h2 : colsPut a i b with
      | none => simp [h1, h2] at h
      | some cs =>
        simp only [h1, h2, Option.some.injEq] at h
        subst h
        have hx : x.len = n := ha x (by simp)
        have hy : y.len = m := hb y (by simp)
        obtain ⟨g1, g2⟩ := colPut_at h1 hy (by omega)
        obtain ⟨k1, k2, k3, k4⟩ := colsPut_at h2 (fun q hq => ha q (by simp [hq])) (fun q hq => hb q (by simp [hq])) hf
        refine ⟨by simp [k1], by simp [k2], fun q hq => ?_, fun k r => ?_⟩
        · simp only [List.mem_cons] at hq
          rcases hq with rfl | hq
          · omega
          · exact k3 q hq
        · cases k with
          | zero => simp only [List.getElem?_cons_zero, Option.map_some, g2]; split <;> rfl
          | succ k => simpa using k4 k r

def flatOf (n st : Nat) (cols : List Col) : List AVal := (List.range (n * st)).map fun j => (cellOf [{ n, st, cols }] j).getD .undef

theorem flatOf_rel {ι : Inj} {n sz : Nat} {cols : List Col} {vs : List Value} (h : RowsIn E ra ι n sz cols vs) : RelL E ra ι (flatOf n sz cols) vs := by
  refine RelL.of_get (by simp [flatOf, h.1]) fun i v x hi hx => ?_
  simp only [flatOf, List.getElem?_map] at hi
  have hlt : i < n * sz := by
    rcases Nat.lt_or_ge i (n * sz) with hh | hh
    · exact hh
    · rw [List.getElem?_eq_none (by simpa using hh)] at hi; simp at hi
  rw [List.getElem?_range hlt] at hi
  simp only [Option.map_some, Option.some.injEq] at hi
  obtain ⟨u, hu⟩ := cellOf_some (l := [{ n, st := sz, cols }]) (fun s hs => by simp only [List.mem_singleton] at hs; subst hs; exact ⟨h.2.1, h.2.2.1⟩) (j := i) (by simpa [total] using hlt)
  rw [hu] at hi
  simp only [Option.getD_some] at hi
  subst hi
  obtain ⟨y, hy, hr⟩ := h.2.2.2 i _ hu
  rw [hx] at hy
  simp only [Option.some.injEq] at hy
  subst hy; exact hr

/-- rows laid over rows -/
theorem put_sets {s : Seg} {i m : Nat} {new cols : List Col} (hw : s.WF) (h : colsPut s.cols i new = some cols) (hn : ∀ c ∈ new, c.len = m) (hfit : i + m ≤ s.n) :
    Sets [s] [{ s with cols }] (i * s.st) (flatOf m s.st new) := by
  obtain ⟨k1, k2, k3, k4⟩ := colsPut_at h hw.2 hn hfit
  have hle : (i + m) * s.st ≤ s.n * s.st := Nat.mul_le_mul_right _ hfit
  rw [Nat.add_mul] at hle
  refine ⟨rfl, fun q hq => ?_, by simp only [total, flatOf, List.length_map, List.length_range]; omega, fun k => ?_⟩
  · simp only [List.mem_singleton] at hq; subst hq; exact ⟨by simp [k1, hw.1], by simpa using k3⟩
  · by_cases hk : k < s.n * s.st
    · have hp : 0 < s.st := by
        rcases Nat.eq_zero_or_pos s.st with h0 | h0
        · rw [h0] at hk; simp at hk
        · exact h0
      have e1 := rows_cell (n := s.n) (st := s.st) (cols := cols) hk
      have e2 := rows_cell (n := s.n) (st := s.st) (cols := s.cols) hk
      rw [show ([{ s with cols }] : List Seg) = [{ n := s.n, st := s.st, cols }] from rfl, e1, k4, show [s] = [{ n := s.n, st := s.st, cols := s.cols }] from rfl, e2]
      simp only [flatOf, List.length_map, List.length_range]
      by_cases hc : i * s.st ≤ k ∧ k < i * s.st + m * s.st
      · have hq1 : i ≤ k / s.st := (Nat.le_div_iff_mul_le hp).2 hc.1
        have hq2 : k / s.st < i + m := (Nat.div_lt_iff_lt_mul hp).2 (by rw [Nat.add_mul]; exact hc.2)
        rw [if_pos ⟨hq1, hq2⟩, if_pos hc]
        have hj : k - i * s.st < m * s.st := by omega
        rw [List.getElem?_map, List.getElem?_range hj, Option.map_some, rows_cell hj]
        have m1 : (k - i * s.st) % s.st = k % s.st := by
          conv => rhs; rw [show k = (k - i * s.st) + i * s.st by omega, Nat.add_mul_mod_self_right]
        have m2 : (k - i * s.st) / s.st = k / s.st - i := by
          have : k / s.st = (k - i * s.st) / s.st + i := by
            conv => lhs; rw [show k = (k - i * s.st) + i * s.st by omega, Nat.add_mul_div_right _ _ hp]
          omega
        rw [m1, m2]
        have hm : k % s.st < new.length := by rw [k2, hw.1]; exact Nat.mod_lt _ hp
        rw [List.getElem?_eq_getElem hm]; rfl
      · rw [if_neg hc, if_neg]
        rintro ⟨ha, hb⟩
        apply hc
        have ha' := (Nat.le_div_iff_mul_le hp).1 ha
        have hb' := (Nat.div_lt_iff_lt_mul hp).1 hb
        rw [Nat.add_mul] at hb'
        exact ⟨ha', hb'⟩
    · have n1 : cellOf [{ s with cols }] k = none := by
        cases hc : cellOf [{ s with cols }] k with
        | none => rfl
        | some v => have := cellOf_lt hc; simp only [total, Nat.add_zero] at this; exact absurd this hk
      have n2 : cellOf [s] k = none := by
        cases hc : cellOf [s] k with
        | none => rfl
        | some v => have := cellOf_lt hc; simp only [total, Nat.add_zero] at this; exact absurd this hk
      rw [n1, n2, if_neg]
      simp only [flatOf, List.length_map, List.length_range]
      omega

/-! ### append -/
section
variable (P E)
def grownA (sz n : Nat) (cols : List Col) : AM AVal := .alloc (.segs [{ n, st := sz, cols }]) fun id => .pure (.slice (.own id 0 0 sz) n none)

def lenN : AVal → Option Nat
  | .nils => some 0
  | .slice _ n _ => some n
  | .str s => some s.size
  | _ => none

def newRowsA (sz n : Nat) (x : AVal) (like : List Col) : AM (List Col) :=
  match x with
  | .nils => .pure (like.map (colTake · 0 0))
  | x => rowsA E sz n x

def growA (sz bytes n : Nat) (s : AVal) (len : Nat) (x : AVal) : AM AVal :=
  .need (decide ((len + n) * bytes ≤ 35184372088832)) <| (rowsA E sz len s).bind fun old => (newRowsA E sz n x old).bind fun new => match colsApp old new with
    | some cols => grownA sz (len + n) cols
    | none => .fail

def appendB (sz bytes n : Nat) (s x : AVal) : AM AVal :=
  match s with
  | .nils => .br (Nat.beq n 0) (.pure .nils) (.need (decide (n * bytes ≤ 35184372088832)) ((rowsA E sz n x).bind fun new => grownA sz n new))
  | .slice a len (some cap) => .br (Nat.ble (len + n) cap)
      (match a with
      | .own id 0 i st => match Nat.beq st sz with
        | true => .read id fun b => match b with
          | .segs [s0] => match Nat.beq s0.st sz with
            | true => .need (decide (i + len + n ≤ s0.n)) <| (newRowsA E sz n x s0.cols).bind fun new => .need (new.all colCells) <| match colsPut s0.cols (i + len) new with
              | some cols => .upd id (some (.segs [{ s0 with cols }])) (.pure (.slice (.own id 0 i st) (len + n) (some cap)))
              | none => .fail
            | false => .fail
          | _ => .fail
        | false => .fail
      | _ => .fail)
      (growA E sz bytes n s len x)
  | .slice (.own id 0 i st) len none => match Nat.beq st sz with
    | true => .read id fun b => match b with
      | .segs [_] => .need (decide ((len + n) * bytes ≤ 35184372088832)) <| (rowsA E sz len (.slice (.own id 0 i st) len none)).bind fun old => (newRowsA E sz n x old).bind fun new => .need (new.all colCells) <| match colsApp old new with
        | some cols => .upd id none (grownA sz (len + n) cols)
        | none => .fail
      | _ => .fail
    | false => .fail
  | _ => .fail

def appendA (ts : Array TypeId) (s x : AVal) : AM AVal :=
  match ts[0]?, (ts[1]?).bind P.underlying with
  | some t, some u => match u with
    | .int _ => .fail
    | _ => match P.underlying t with
      | some (.slice e) => match P.info? e, (zeroA P e).bind cellsOfV with
        | some inf, some zc => match Nat.ble 1 inf.bytes && (Nat.ble 1 inf.size && Nat.beq zc.length inf.size), lenN x with
          | true, some n => appendB E inf.size inf.bytes n s x
          | _, _ => .fail
        | _, _ => .fail
      | _ => .fail
  | _, _ => .fail
end

theorem newRowsA_sound {ι : Inj} {h : Log} {w : World} (H : WRel E ra base ι h w) {sz n : Nat} {x : AVal} {x' : Value} (hx : Rel E ra ι x x') {like cols : List Col} {d : Log} {r : List Nat} (hr : (newRowsA E sz n x like).Runs h cols d r)
    (hn : lenN x = some n) (hl : like.length = sz) : d = [] ∧ ∃ vs, (∀ w₁ : World, w₁.heap = w.heap → (Builtin.firstCells sz n x').run P w₁ = .ok vs.toArray w₁) ∧ RowsIn E ra ι n sz cols vs := by
  unfold newRowsA at hr
  split at hr
  · cases hx
    simp only [lenN, Option.some.injEq] at hn
    subst hn
    simp only [AM.Runs] at hr
    obtain ⟨rfl, rfl, rfl⟩ := hr
    refine ⟨rfl, [], fun w₁ _ => by simp [Builtin.firstCells], by simp, by simp [hl], fun c hc => ?_, fun j v hv => ?_⟩
    · simp only [List.mem_map] at hc
      obtain ⟨q, _, rfl⟩ := hc
      exact (colTake_at (by omega)).1
    · have := cellOf_lt hv; simp [total] at this
  · exact rowsA_sound H hx hr (fun a l c e => by subst e; simp only [lenN, Option.some.injEq] at hn; omega)

/-- the facts on the types of an append -/
structure AppTypes (P : Program) (ts : Array TypeId) (e : TypeId) (inf : TypeInfo) (z : Value) : Prop where
  slice : ∃ t, ts[0]? = some t ∧ P.underlying t = some (.slice e)
  other : ∃ u d, ts[1]? = some u ∧ P.underlying u = some d ∧ ∀ k, d ≠ .int k
  info : P.info? e = some inf
  zero : inf.zero = some z
  bytes : 1 ≤ inf.bytes
  size : 1 ≤ inf.size
  zsize : z.cells.size = inf.size

theorem run_append_in {w w' : World} {ts : Array TypeId} {ty e : TypeId} {inf : TypeInfo} {z : Value} (T : AppTypes P ts e inf z) {bs : Option Addr} {sLen sCap n : Nat} {x' : Value} {vs : List Value}
    (hl : (Builtin.lenOf x').run P w = .ok n w) (hc : (Builtin.firstCells inf.size n x').run P w = .ok vs.toArray w) (hfit : sLen + n ≤ sCap)
    (hst : (match bs with | some a => storeCells (a.add (sLen * inf.size)) vs | none => (pure () : Sem Unit)).run P w = .ok () w') :
    (Builtin.append_ ts ty #[.slice bs sLen sCap, x']).run P w = .ok (.slice bs (sLen + n) sCap) w' := by
  obtain ⟨⟨t, h1, h2⟩, ⟨u, d, h3, h4, h5⟩, h6, h7, h8, h9, h10⟩ := T
  cases bs with
  | none =>
    simp only [Sem.run_pure] at hst
    cases hst
    simp [Builtin.append_, h1, h3, run_underlying h2, run_underlying h4, run_sizeOf h6, hl, hfit, hc]
  | some a =>
    simp only at hst
    simp [Builtin.append_, h1, h3, run_underlying h2, run_underlying h4, run_sizeOf h6, hl, hfit, hc, hst]

theorem run_append_out {w : World} {ts : Array TypeId} {ty e : TypeId} {inf : TypeInfo} {z : Value} (T : AppTypes P ts e inf z) {bs : Option Addr} {sLen sCap n : Nat} {x' : Value} {vs os : List Value}
    (hl : (Builtin.lenOf x').run P w = .ok n w) (ho : ∀ w₁ : World, w₁.heap = w.heap → (Builtin.firstCells inf.size sLen (.slice bs sLen sCap)).run P w₁ = .ok os.toArray w₁) (hc : ∀ w₁ : World, w₁.heap = w.heap → (Builtin.firstCells inf.size n x').run P w₁ = .ok vs.toArray w₁) (hfit : sCap < sLen + n)
    (hby : (sLen + n) * inf.bytes ≤ 35184372088832) :
    ∃ (w' : World) (cap : Nat) (rest : Array Value), sLen + n ≤ cap ∧ rest.size = (cap - (sLen + n)) * z.cells.size ∧ (Builtin.append_ ts ty #[.slice bs sLen sCap, x']).run P w = .ok (.slice (some ⟨w.heap.size, 0, none⟩) (sLen + n) cap) w' ∧
      w'.heap = w.heap.push (.cells (os.toArray ++ vs.toArray ++ rest) e) ∧ w'.os = w.os ∧ w'.tape = w.tape ∧ w'.output = w.output := by
  obtain ⟨⟨t, h1, h2⟩, ⟨u, d, h3, h4, h5⟩, h6, h7, h8, h9, h10⟩ := T
  have hn : ¬ (sLen + n ≤ sCap) := by omega
  have hg := growslice_fits (need := sLen + n) (old := sCap) (bytes := inf.bytes) hfit (by omega)
  have hle : sLen + n ≤ (sLen + n) * inf.bytes := Nat.le_mul_of_pos_right _ h8
  have hmax : ¬ (((sLen + n : Nat) : Int) > IntKind.i64.max) := by
    have : IntKind.i64.max = 9223372036854775807 := rfl
    rw [this]; omega
  have hno : ¬ (281474976710656 < Builtin.nextslicecap (sLen + n) sCap * inf.bytes) := by omega
  let cap := (Question.appendCap (sLen + n) sCap e).cut (w.tape w.drawn (.appendCap (sLen + n) sCap e))
  let w1 : World := { w with drawn := w.drawn + 1 }
  have hcap : sLen + n ≤ cap := by simp [cap, Question.cut]
  have o1 := ho w1 rfl
  have c1 := hc w1 rfl
  have hzv : ∀ w₁ : World, (zeroValue e).run P w₁ = .ok z w₁ := fun w₁ => by simp [zeroValue, typeInfo, h6, h7]
  have hti : ∀ w₁ : World, (typeInfo e).run P w₁ = .ok inf w₁ := fun w₁ => by simp [typeInfo, h6]
  have hb0 : inf.bytes ≠ 0 := by omega
  refine ⟨{ w1 with heap := w.heap.push (.cells (os.toArray ++ vs.toArray ++ Builtin.zeroCells z.cells (cap - (sLen + n))) e) }, cap, Builtin.zeroCells z.cells (cap - (sLen + n)), hcap, size_zeroCells _ _, ?_, rfl, rfl, rfl, rfl⟩
  have hforced : (Question.appendCap (sLen + n) sCap e).forced = false := rfl
  have o2 : Sem.run P (Builtin.firstCells inf.size sLen (Value.slice bs sLen sCap)) w.drew = Result.ok os.toArray w.drew := o1
  have c2 : Sem.run P (Builtin.firstCells inf.size n x') w.drew = Result.ok vs.toArray w.drew := c1
  simp [Builtin.append_, h1, h3, run_underlying h2, run_underlying h4, run_sizeOf h6, hl, hn, hb0, hti, hno, hforced, hzv, newRow, o2, c2]
  constructor
  · rfl
  · show World.mk _ _ _ _ _ = World.mk _ _ _ _ _
    congr 2
    simp only [cap]
    congr 1
    apply Array.ext'
    simp

theorem lenN_run {ι : Inj} {w : World} {x : AVal} {x' : Value} {n : Nat} (hx : Rel E ra ι x x') (h : lenN x = some n) : (Builtin.lenOf x').run P w = .ok n w := by
  cases hx <;> simp only [lenN, Option.some.injEq] at h <;> first | (cases h; done) | (subst h; rfl)

/-- A new row behind an append. -/
theorem grown_sound {ι : Inj} {h : Log} {w w' : World} (H : WRel E ra base ι h w) {id sz a b : Nat} {old new cols : List Col} {os vs : List Value} {rest : Array Value} {el : TypeId} (hi : id ∉ ids h)
    (hc : colsApp old new = some cols) (ho : RowsIn E ra ι a sz old os) (hn : RowsIn E ra ι b sz new vs) (hh : w'.heap = w.heap.push (.cells (os.toArray ++ vs.toArray ++ rest) el)) (h1 : w'.os = w.os) (h2 : w'.tape = w.tape) (h3 : w'.output = w.output) :
    WRel E ra base (put ι id (w.heap.size, 0, (os.toArray ++ vs.toArray ++ rest).size)) ((id, some (.segs [{ n := a + b, st := sz, cols }])) :: h) w' ∧
      Keeps ι h w (put ι id (w.heap.size, 0, (os.toArray ++ vs.toArray ++ rest).size)) ((id, some (.segs [{ n := a + b, st := sz, cols }])) :: h) w' := by
  obtain ⟨k1, k2, k3, _, _⟩ := colsApp_at hc ho.2.2.1 hn.2.2.1
  refine alloc_sound H hi (fun s hs => by simp only [List.mem_singleton] at hs; subst hs; exact ⟨by simp [k1, ho.2.1], k3⟩) (by simp [total, ho.1, hn.1, Nat.add_mul]) (fun j v hv => ?_) hh h1 h2 h3
  have hj := cellOf_lt hv
  simp only [total, Nat.add_zero] at hj
  rw [app_cell hc ho.2.2.1 hn.2.2.1 hj] at hv
  by_cases hlt : j < a * sz
  · rw [if_pos hlt] at hv
    obtain ⟨x, hx, hr⟩ := ho.2.2.2 j v hv
    refine ⟨x, ?_, hr⟩
    rw [Array.getElem?_append_left (by simp [ho.1]; omega), Array.getElem?_append_left (by simp [ho.1]; omega)]
    simpa using hx
  · rw [if_neg hlt] at hv
    have hlt2 : j - a * sz < b * sz := by rw [Nat.add_mul] at hj; omega
    obtain ⟨x, hx, hr⟩ := hn.2.2.2 _ v hv
    refine ⟨x, ?_, hr⟩
    rw [Array.getElem?_append_left (by simp [ho.1, hn.1]; omega), Array.getElem?_append_right (by simp [ho.1]; omega)]
    simpa [ho.1] using hx

theorem ids_append (a b : Log) : ids (a ++ b) = ids a ++ ids b := by simp [ids]

theorem grow_sound {ι : Inj} {h : Log} {w : World} (H : WRel E ra base ι h w) {ts : Array TypeId} {ty e : TypeId} {inf : TypeInfo} {z : Value} (T : AppTypes P ts e inf z) {id len n cap' : Nat} {bs : Option Addr} {x' : Value} {old new cols : List Col} {os vs : List Value}
    (hlx : (Builtin.lenOf x').run P w = .ok n w) (hid : id ∉ ids h) (hcols : colsApp old new = some cols) (ho : RowsIn E ra ι len inf.size old os) (hnw : RowsIn E ra ι n inf.size new vs)
    (fo : ∀ w₁ : World, w₁.heap = w.heap → (Builtin.firstCells inf.size len (.slice bs len cap')).run P w₁ = .ok os.toArray w₁) (fn : ∀ w₁ : World, w₁.heap = w.heap → (Builtin.firstCells inf.size n x').run P w₁ = .ok vs.toArray w₁)
    (hlt : cap' < len + n) (hby : (len + n) * inf.bytes ≤ 35184372088832) :
    ∃ v' w' ι', (Builtin.append_ ts ty #[.slice bs len cap', x']).run P w = .ok v' w' ∧ Rel E ra ι' (.slice (.own id 0 0 inf.size) (len + n) none) v' ∧
      WRel E ra base ι' ((id, some (.segs [{ n := len + n, st := inf.size, cols }])) :: h) w' ∧ Keeps ι h w ι' ((id, some (.segs [{ n := len + n, st := inf.size, cols }])) :: h) w' := by
  obtain ⟨w', cap, rest, g1, g2, g3, g4, g5, g6, g7⟩ := run_append_out T (ty := ty) hlx fo fn hlt hby
  obtain ⟨q1, q2⟩ := grown_sound (rest := rest) H hid hcols ho hnw g4 g5 g6 g7
  refine ⟨_, w', _, g3, .slice ⟨g1, fun c hc => by simp at hc, .inr ⟨w.heap.size, 0, (os.toArray ++ vs.toArray ++ rest).size, by simp [put], by simp, ?_⟩⟩ ⟨_, by simp [put]; rfl⟩, q1, q2⟩
  simp only [Array.size_append, List.size_toArray, ho.1, hnw.1, g2, T.zsize]
  have e1 : len * inf.size + n * inf.size + (cap - (len + n)) * inf.size = (len + n + (cap - (len + n))) * inf.size := by rw [Nat.add_mul, Nat.add_mul]
  rw [e1, show len + n + (cap - (len + n)) = cap by omega]
  simp

theorem colsApp_nil : ∀ l : List Col, colsApp (l.map (colTake · 0 0)) l = some l
  | [] => rfl
  | c :: l => by
    have h : colApp (colTake c 0 0) c = some c := by cases c <;> simp [colTake, colApp]
    simp only [List.map_cons, colsApp, colsApp_nil l, h]

theorem appendA_sound {ι : Inj} {h : Log} {w : World} (H : WRel E ra base ι h w) {ts : Array TypeId} {ty : TypeId} {s x : AVal} {s' x' : Value} (hs : Rel E ra ι s s') (hx : Rel E ra ι x x') :
    SoundAt P E ra base ι h w (appendA P E ts s x) (Builtin.append_ ts ty #[s', x']) := by
  intro v d r hr
  unfold appendA at hr
  split at hr
  case h_2 => simp [AM.Runs] at hr
  rename_i t u h1 h2
  cases hu1 : ts[1]? with
  | none => simp [hu1] at h2
  | some ut =>
  simp only [hu1, Option.bind_some] at h2
  split at hr
  · simp [AM.Runs] at hr
  rename_i hnint
  split at hr
  case h_2 => simp [AM.Runs] at hr
  rename_i e hu
  split at hr
  case h_2 => simp [AM.Runs] at hr
  rename_i inf zc hi hz
  split at hr
  case h_2 => simp [AM.Runs] at hr
  rename_i n hb hn
  simp only [Bool.and_eq_true] at hb
  cases hz0 : zeroA P e with
  | none => simp [hz0] at hz
  | some z =>
  simp only [hz0, Option.bind_some] at hz
  obtain ⟨z', i', hi', hiz, _, hzR⟩ := zeroA_sound (E := E) (ra := ra) (ι := ι) (w := w) hz0
  rw [hi] at hi'
  simp only [Option.some.injEq] at hi'
  subst hi'
  have hzl := (rel_cells hzR hz).length
  simp only [Array.length_toList] at hzl
  have T : AppTypes P ts e inf z' := ⟨⟨t, h1, hu⟩, ⟨ut, u, hu1, h2, fun k e => hnint k e⟩, hi, hiz, Nat.le_of_ble_eq_true hb.1, Nat.le_of_ble_eq_true hb.2.1, by rw [hzl]; exact Nat.eq_of_beq_eq_true hb.2.2⟩
  have hlx := lenN_run (P := P) (w := w) hx hn
  unfold appendB at hr
  split at hr
  · -- to the nil slice
    cases hs
    simp only [AM.Runs] at hr
    cases hn0 : Nat.beq n 0 with
    | true =>
      simp only [hn0] at hr
      obtain ⟨rfl, rfl, rfl⟩ := hr
      have := Nat.eq_of_beq_eq_true hn0
      subst this
      have hf0 : (Builtin.firstCells inf.size 0 x').run P w = .ok ([] : List Value).toArray w := by
        cases hx <;> simp only [lenN] at hn <;> first | (cases hn; done) | skip
        all_goals simp [Builtin.firstCells, loadCells, loadCellsFrom]
      exact ⟨.slice none 0 0, w, ι, run_append_in T (w' := w) hlx hf0 (Nat.le_refl _) (by simp), .nils, H, .refl _ _ _⟩
    | false =>
      simp only [hn0, AM.Runs, runs_bind, grownA] at hr
      obtain ⟨hby, new, d₁, r₁, d₂, r₂, g1, ⟨i, d', gi, rfl, rfl, rfl, rfl⟩, rfl, rfl⟩ := hr
      have hne : n ≠ 0 := fun e => by subst e; simp at hn0
      obtain ⟨rfl, vs, k1, k2⟩ := rowsA_sound (P := P) H hx g1 (fun a l c e => by subst e; simp only [lenN, Option.some.injEq] at hn; omega)
      have hcols := colsApp_nil new
      have ho : RowsIn E ra ι 0 inf.size (new.map (colTake · 0 0)) ([] : List Value) := ⟨by simp, by simp [k2.2.1], fun c hc => by
        simp only [List.mem_map] at hc
        obtain ⟨q, _, rfl⟩ := hc
        exact (colTake_at (by omega)).1, fun j v hv => by have := cellOf_lt hv; simp [total] at this⟩
      have := grow_sound (len := 0) (cap' := 0) (bs := none) (ty := ty) H T hlx (by simpa using gi) hcols ho k2 (fun w₁ _ => by simp [Builtin.firstCells]) k1 (by omega) (by simpa using of_decide_eq_true hby)
      simpa using this
  · -- of a known capacity
    rename_i a len cap
    cases hs with | slice hS hNm =>
    rename_i y cap'
    have hcap : cap' = cap := hS.2.1 cap rfl
    subst hcap
    simp only [AM.Runs] at hr
    cases hfit : Nat.ble (len + n) cap' with
    | true =>
      have hfit' := Nat.le_of_ble_eq_true hfit
      simp only [hfit] at hr
      split at hr
      case h_2 => simp [AM.Runs] at hr
      rename_i id i st
      cases hst : Nat.beq st inf.size with
      | false => simp [hst, AM.Runs] at hr
      | true =>
      have := Nat.eq_of_beq_eq_true hst
      subst this
      simp only [hst, AM.Runs] at hr
      obtain ⟨B, r', hv, rfl, hr⟩ := hr
      split at hr
      case h_2 => simp [AM.Runs] at hr
      rename_i s0
      cases hss : Nat.beq s0.st inf.size with
      | false => simp [hss, AM.Runs] at hr
      | true =>
      have hse := Nat.eq_of_beq_eq_true hss
      simp only [hss, AM.Runs, runs_bind] at hr
      obtain ⟨hrow, new, d₁, r₁, d₂, r₂, g1, ⟨hcc, hr⟩, rfl, rfl⟩ := hr
      have hrow' := of_decide_eq_true hrow
      obtain ⟨b, o, cs', el, fz, q1, q2, q3, q4, q5, q6, q7⟩ := H.own id _ hv
      have hwf : s0.WF := q6 s0 (by simp)
      obtain ⟨rfl, vs, k1, k2⟩ := newRowsA_sound (P := P) H hx g1 hn (by rw [hwf.1, hse])
      cases hp : colsPut s0.cols (i + len) new with
      | none => simp [hp, AM.Runs] at hr
      | some cols =>
      simp only [hp, AM.Runs] at hr
      obtain ⟨b', d', r3, _, rfl, rfl, rfl, rfl, rfl⟩ := hr
      have hsets := put_sets hwf hp k2.2.2.1 hrow'
      have hR := flatOf_rel k2
      rw [← hse] at hR
      have hone := rows_oneCell k2 hcc
      obtain ⟨w', t1, t2, t3⟩ := turn_sound (P := P) H hv q1 hsets hR hone
      refine ⟨.slice (some y) (len + n) cap', w', ι, run_append_in T (w' := w') hlx (k1 w rfl) hfit' ?_, .slice ⟨hfit', fun c hc => by simpa using hc, hS.2.2⟩ hNm, by simpa using t2, by simpa using t3⟩
      rcases hS.2.2 with hc0 | ⟨b2, o2, sz2, g4, rfl, g5⟩
      · have : n = 0 := by omega
        subst this
        have hvs : vs = [] := List.eq_nil_of_length_eq_zero (by rw [k2.1]; simp)
        subst hvs
        simp only [storeCells] at t1 ⊢
        exact t1
      · rw [q1] at g4
        simp only [Option.some.injEq, Prod.mk.injEq] at g4
        obtain ⟨rfl, rfl, rfl⟩ := g4
        simp only [addr_add]
        rw [← t1, hse]
        congr 3
        rw [Nat.add_mul]; omega
    | false =>
      have hfit' := ble_false hfit
      simp only [hfit, growA, AM.Runs, runs_bind] at hr
      obtain ⟨hby, old, d₁, r₁, d₂, r₂, g1, ⟨new, d₃, r₃, d₄, r₄, g2, hr, rfl, rfl⟩, rfl, rfl⟩ := hr
      obtain ⟨rfl, os, k1, k2⟩ := rowsA_sound (P := P) H (.slice hS hNm) g1 (fun a l c e => by simp only [AVal.slice.injEq] at e; omega)
      obtain ⟨rfl, vs, k3, k4⟩ := newRowsA_sound (P := P) H hx g2 hn k2.2.1
      cases hc : colsApp old new with
      | none => simp [hc, AM.Runs] at hr
      | some cols =>
      simp only [hc, grownA, AM.Runs] at hr
      obtain ⟨i, d', gi, rfl, rfl, rfl, rfl⟩ := hr
      have := grow_sound (ty := ty) H T hlx (by simpa using gi) hc k2 k4 k1 k3 hfit' (of_decide_eq_true hby)
      simpa using this
  · -- of an unknown one: the old row is given up
    rename_i id i st len
    cases hs with | slice hS hNm =>
    rename_i y cap'
    cases hst : Nat.beq st inf.size with
    | false => simp [hst, AM.Runs] at hr
    | true =>
    have := Nat.eq_of_beq_eq_true hst
    subst this
    simp only [hst, AM.Runs] at hr
    obtain ⟨B0, r0, hvB, rfl, hr⟩ := hr
    split at hr
    case h_2 => simp [AM.Runs] at hr
    rename_i s00
    simp only [AM.Runs, runs_bind] at hr
    obtain ⟨hby, old, d₁, r₁, d₂, r₂, g1, ⟨new, d₃, r₃, d₄, r₄, g2, ⟨hcc, hr⟩, rfl, rfl⟩, rfl, rfl⟩ := hr
    obtain ⟨rfl, os, k1, k2⟩ := rowsA_sound (P := P) H (.slice hS hNm) g1 (fun a l c e => by simp only [AVal.slice.injEq] at e; omega)
    obtain ⟨rfl, vs, k3, k4⟩ := newRowsA_sound (P := P) H hx g2 hn k2.2.1
    cases hc : colsApp old new with
    | none => simp [hc, AM.Runs] at hr
    | some cols =>
    simp only [hc, grownA, AM.Runs] at hr
    obtain ⟨b0, d', r5, hv, rfl, rfl, ⟨i2, d6, gi, rfl, rfl, rfl, rfl⟩⟩ := hr
    simp only [List.nil_append] at hv gi
    have gi' : i2 ∉ ids h := fun hh => gi (by simp only [ids, List.map_cons, List.mem_cons]; exact .inr hh)
    by_cases hfit : len + n ≤ cap'
    · -- in its place
      have hone := rows_oneCell k4 hcc
      -- the block that is given up
      have hblk : ∃ s0, b0 = .segs [s0] ∧ s0.st = inf.size ∧ i + len ≤ s0.n := by
        simp only [rowsA, hst, AM.Runs] at g1
        obtain ⟨B, r', hv', _, g1⟩ := g1
        rw [hv] at hv' hvB
        simp only [Option.some.injEq] at hv' hvB
        subst hv'; subst hvB
        have hso : segOff [s00] 0 = some s00 := rfl
        simp only [hso] at g1
        cases hss : Nat.beq s00.st inf.size with
        | false => simp [hss, AM.Runs] at g1
        | true =>
          simp only [hss, AM.Runs] at g1
          exact ⟨s00, rfl, Nat.eq_of_beq_eq_true hss, of_decide_eq_true g1.1⟩
      obtain ⟨s0, rfl, hse, hrows⟩ := hblk
      obtain ⟨b, o, cs', el, fz, q1, q2, q3, q4, q5, q6, q7⟩ := H.own id _ hv
      obtain ⟨c1, c2, c3, c4, c5⟩ := colsApp_at hc k2.2.2.1 k4.2.2.1
      have hi0 : o + i * inf.size ≤ cs'.size := by
        simp only [total, Nat.add_zero, hse] at q5
        have : i * inf.size ≤ s0.n * inf.size := Nat.mul_le_mul_right _ (by omega)
        omega
      have hroom : o + i * inf.size + (len + n) * inf.size ≤ cs'.size := by
        rcases hS.2.2 with hc0 | ⟨b2, o2, sz2, g4, _, g5⟩
        · have : len + n = 0 := by omega
          rw [this]; simpa using hi0
        · rw [q1] at g4
          simp only [Option.some.injEq, Prod.mk.injEq] at g4
          obtain ⟨rfl, rfl, rfl⟩ := g4
          have : (i + (len + n)) * inf.size ≤ (i + cap') * inf.size := Nat.mul_le_mul_right _ (by omega)
          rw [Nat.add_mul] at this; omega
      have hroom' : o + i * inf.size + len * inf.size + vs.length ≤ cs'.size := by rw [k4.1]; rw [Nat.add_mul] at hroom; omega
      obtain ⟨w', cs2, r1, r2, r3, r4, r5, r6, r7, r8, r9⟩ := run_storeCells' (P := P) el fz b (o + i * inf.size + len * inf.size) vs 0 w cs' q3 (by omega) q4 hone
      have hfresh := H.fresh gi'
      have hext := put_ext (x := (b, o + i * inf.size, cs'.size)) hfresh
      -- the old rows' cells, as they lie
      have hos : ∀ j, j < len * inf.size → cs'[o + i * inf.size + j]? = os[j]? := by
        intro j hj
        rcases hS.2.2 with hc0 | ⟨b2, o2, sz2, g4, rfl, g5⟩
        · have : len = 0 := by omega
          subst this; simp at hj
        · rw [q1] at g4
          simp only [Option.some.injEq, Prod.mk.injEq] at g4
          obtain ⟨rfl, rfl, rfl⟩ := g4
          have hl := k1 w rfl
          simp only [Builtin.firstCells] at hl
          have hl2 := run_loadCells' (P := P) (w := w) (b := b) (x := o + 0 + i * inf.size) (n := len * inf.size) (vs := (List.range (len * inf.size)).map fun k => cs'[o + i * inf.size + k]?.getD undef) (by simp) (fun k hk => by
            rw [cell_at q3]
            have hlt : o + 0 + i * inf.size + k < cs'.size := by rw [Nat.add_mul] at hroom; omega
            rw [Array.getElem?_eq_getElem hlt]
            simp only [List.getElem?_map, List.getElem?_range hk, Option.map_some, Option.some.injEq]
            have e : o + i * inf.size + k = o + 0 + i * inf.size + k := by omega
            rw [e, Array.getElem?_eq_getElem hlt]; rfl)
          rw [hl2] at hl
          simp only [Result.ok.injEq, and_true] at hl
          have hl3 := congrArg Array.toList hl
          simp only at hl3
          rw [← hl3]
          have hlt : o + i * inf.size + j < cs'.size := by rw [Nat.add_mul] at hroom; omega
          simp [hj, Array.getElem?_eq_getElem hlt]
      have hB : BlkRel E ra base (put ι i2 (b, o + i * inf.size, cs'.size)) w' i2 (.segs [{ n := len + n, st := inf.size, cols }]) := by
        refine ⟨b, o + i * inf.size, cs2, el, fz, by rw [r3]; simp [put], q2, r2, by rw [r3]; exact q4, by rw [r3]; simp only [total]; omega, fun q hq => ?_, fun j u hj => ?_⟩
        · simp only [List.mem_singleton] at hq; subst hq
          exact ⟨by simp [c1, k2.2.1], c3⟩
        · have hlt := cellOf_lt hj
          simp only [total, Nat.add_zero] at hlt
          rw [app_cell hc k2.2.2.1 k4.2.2.1 hlt] at hj
          rw [r4]
          by_cases hjl : j < len * inf.size
          · rw [if_pos hjl] at hj
            obtain ⟨x0, hx0, hr0⟩ := k2.2.2.2 j u hj
            rw [if_neg (by omega), hos j hjl]
            exact ⟨x0, hx0, hr0.mono hext⟩
          · rw [if_neg hjl] at hj
            obtain ⟨x0, hx0, hr0⟩ := k4.2.2.2 _ u hj
            have hlt2 : j - len * inf.size < vs.length := by rw [k4.1]; rw [Nat.add_mul] at hlt; omega
            rw [if_pos (by omega)]
            refine ⟨x0, ?_, hr0.mono hext⟩
            rw [← hx0]; congr 1; omega
      obtain ⟨t1, t2⟩ := H.take (w' := w') (y := (o + i * inf.size, cs'.size)) hv q1 gi' r5 r6 r7 r8 r9 hB
      refine ⟨.slice (some y) (len + n) cap', w', put ι i2 (b, o + i * inf.size, cs'.size), run_append_in T (w' := w') hlx (k3 w rfl) hfit ?_, .slice ⟨hfit, fun c hc => by simp at hc, ?_⟩ ⟨(b, o + i * inf.size, cs'.size), by simp [put]⟩, by simpa using t1, by simpa using t2⟩
      · rcases hS.2.2 with hc0 | ⟨b2, o2, sz2, g4, rfl, g5⟩
        · have hn0 : n = 0 := by omega
          subst hn0
          have hvs : vs = [] := List.eq_nil_of_length_eq_zero (by rw [k4.1]; simp)
          subst hvs
          simp only [storeCells] at r1 ⊢
          exact r1
        · rw [q1] at g4
          simp only [Option.some.injEq, Prod.mk.injEq] at g4
          obtain ⟨rfl, rfl, rfl⟩ := g4
          simp only [addr_add]
          rw [← r1]
          rfl
      · rcases hS.2.2 with hc0 | ⟨b2, o2, sz2, g4, rfl, g5⟩
        · exact .inl hc0
        · rw [q1] at g4
          simp only [Option.some.injEq, Prod.mk.injEq] at g4
          obtain ⟨rfl, rfl, rfl⟩ := g4
          exact .inr ⟨b, o + i * inf.size, cs'.size, by simp [put], by simp, by rw [Nat.add_mul] at g5; simp; omega⟩
    · -- elsewhere
      obtain ⟨D1, D2⟩ := H.drop id
      have := grow_sound (ty := ty) D1 T hlx gi hc k2 k4 k1 k3 (by omega) (of_decide_eq_true hby)
      obtain ⟨v', w', ι', e1, e2, e3, e4⟩ := this
      exact ⟨v', w', ι', e1, e2, by simpa using e3, by simpa using D2.trans e4⟩
  · simp [AM.Runs] at hr

end Go.Proofs.Ytbpcfjhnkjobaaa.Ab
