/- Operations that make no memory and write none: what they give, against the model's. -/
import Derived.Test.YtbpcfjhnkjobaaaE03
import Derived.Laws.StructEq
import Derived.Laws.Strings3
import Derived.Laws.Slices
namespace Go.Proofs.Ytbpcfjhnkjobaaa.Ab

def liftO {α : Type} : Option α → AM α
  | some a => .pure a
  | none => .fail

theorem runs_liftO {α : Type} {o : Option α} {h : Log} {a : α} {d : Log} {r : List Nat} : (liftO o).Runs h a d r ↔ o = some a ∧ d = [] ∧ r = [] := by
  cases o with
  | none => simp [liftO, AM.Runs]
  | some x => simp only [liftO, AM.Runs, Option.some.injEq]; constructor <;> (rintro ⟨rfl, h2, h3⟩; exact ⟨rfl, h2, h3⟩)

/-- the cells of a value -/
def cellsOfV : AVal → Option (List AVal)
  | .undef => none
  | .tup _ => none
  | .agg cs => some cs
  | v => some [v]

def isCell : AVal → Bool
  | .undef | .agg _ | .tup _ => false
  | _ => true

/-- a constant -/
def absC : Value → AVal
  | .bool b => .bool b
  | .int k n => .int k n
  | .string s => .str s
  | .pointer a => match a with
    | none => .nilp
    | some _ => .undef
  | .slice a l c => match a with
    | none => match Nat.beq l 0 && Nat.beq c 0 with
      | true => .nils
      | false => .undef
    | some _ => .undef
  | .map a => match a with
    | none => .nilm
    | some _ => .undef
  | .nilFunc => .nilf
  | .nilIface => .nili
  | .func fn a b => match fn with
    | .func f => match a.toList with
      | [] => match b.toList with
        | [] => .fn f []
        | _ => .undef
      | _ => .undef
    | _ => .undef
  | _ => .undef

def aggB : TypeDesc → Bool
  | .struct _ | .array _ _ => true
  | _ => false

def absV : Value → AVal
  | .agg cs => .agg (cs.toList.map absC)
  | v => absC v

variable {P : Program} {E : Nat → Nat → Seg} {ra : Nat → Nat → Nat × Nat} {base : Nat}

theorem rel_absC (ι : Inj) (v : Value) : Rel E ra ι (absC v) v := by
  cases v with
  | bool b => exact .bool _
  | int k n => exact .int _ _
  | string s => exact .str _
  | pointer a => cases a with | none => exact .nilp | some a => exact .undef _
  | slice a l c =>
    cases a with
    | none =>
      simp only [absC]
      cases h : Nat.beq l 0 && Nat.beq c 0 with
      | true =>
        simp only [Bool.and_eq_true] at h
        have h1 := Nat.eq_of_beq_eq_true h.1
        have h2 := Nat.eq_of_beq_eq_true h.2
        subst h1; subst h2
        exact .nils
      | false => exact .undef _
    | some a => exact .undef _
  | map a => cases a with | none => exact .nilm | some a => exact .undef _
  | nilFunc => exact .nilf
  | nilIface => exact .nili
  | func fn a b =>
    cases fn with
    | func f =>
      obtain ⟨a⟩ := a
      obtain ⟨b⟩ := b
      cases a with
      | nil => cases b with | nil => exact .fn (vs := []) .nil | cons => exact .undef _
      | cons => exact .undef _
    | _ => exact .undef _
  | _ => exact .undef _

theorem relL_absC (ι : Inj) : ∀ l : List Value, RelL E ra ι (l.map absC) l
  | [] => .nil
  | v :: l => .cons (rel_absC ι v) (relL_absC ι l)

theorem rel_absV (ι : Inj) (v : Value) : Rel E ra ι (absV v) v := by
  unfold absV
  split
  · rename_i cs
    have := Rel.agg (relL_absC (E := E) (ra := ra) ι cs.toList)
    simpa using this
  · exact rel_absC ι v

theorem rel_cells {ι : Inj} {v : AVal} {x : Value} {cs : List AVal} (h : Rel E ra ι v x) (hc : cellsOfV v = some cs) : RelL E ra ι cs x.cells.toList := by
  cases h <;> simp only [cellsOfV, Option.some.injEq] at hc <;> try (cases hc; done)
  case agg vs hl => subst hc; simpa [Value.cells] using hl
  all_goals (subst hc; first
    | exact .cons (.bool _) .nil | exact .cons (.int _ _) .nil | exact .cons (.str _) .nil | exact .cons .nilp .nil | exact .cons .nils .nil | exact .cons .nilf .nil | exact .cons .nili .nil | exact .cons .nilm .nil
    | exact .cons (.ptr ‹_›) .nil | exact .cons (.slice ‹_› ‹_›) .nil | exact .cons (.fn ‹_›) .nil | exact .cons (.yld ‹_›) .nil | exact .cons (.iface ‹_›) .nil | exact .cons (.mapv ‹_›) .nil)

theorem rel_oneCell {ι : Inj} {v : AVal} {x : Value} (h : Rel E ra ι v x) (hc : isCell v = true) : x.oneCell' = true := by
  cases h <;> simp_all [isCell, Value.oneCell']

/-! ### The form of what is shown -/

/-- An abstract operation's run has its like in the world. -/
def SoundAt (P : Program) (E : Nat → Nat → Seg) (ra : Nat → Nat → Nat × Nat) (base : Nat) (ι : Inj) (h : Log) (w : World) (m : AM AVal) (s : Sem Value) : Prop :=
  ∀ v d r, m.Runs h v d r → ∃ v' w' ι', s.run P w = .ok v' w' ∧ Rel E ra ι' v v' ∧ WRel E ra base ι' (d ++ h) w' ∧ Keeps ι h w ι' (d ++ h) w'

/-- One that leaves the world alone. -/
theorem SoundAt.of_pure {ι : Inj} {h : Log} {w : World} {m : AM AVal} {s : Sem Value} (H : WRel E ra base ι h w)
    (hh : ∀ v d r, m.Runs h v d r → d = [] ∧ ∃ v', s.run P w = .ok v' w ∧ Rel E ra ι v v') : SoundAt P E ra base ι h w m s := by
  intro v d r hr
  obtain ⟨rfl, v', h1, h2⟩ := hh v d r hr
  exact ⟨v', w, ι, h1, h2, H, .refl _ _ _⟩

/-! ### Loads -/
section
variable (P E)

def cellsA (a : AVal) (n : Nat) : AM (List AVal) :=
  match a with
  | .ptr (.own id off i st) => .read id fun b => match b with
    | .segs l => match Nat.beq st 0 with
      | true => match flatCells l off n with
        | some cs => .pure cs
        | none => .fail
      | false => match findRow l off with
        | some (s, c) => match Nat.beq s.st st && Nat.ble (c + n) st with
          | true => .need (decide (i < s.n)) (.pure (rowCells s c i n))
          | false => .fail
        | none => .fail
    | _ => .fail
  | .ptr (.ro tid par i c) => match Nat.ble (c + n) (E tid par).st with
    | true => .need (decide (i < (E tid par).n)) (.pure (rowCells (E tid par) c i n))
    | false => .fail
  | _ => .fail

def one1 : List AVal → AM AVal
  | [v] => .pure v
  | _ => .fail

def shapeA (t : TypeId) (cs : List AVal) : AM AVal :=
  match P.underlying t with
  | some td => match aggB td with
    | true => .pure (.agg cs)
    | false => one1 cs
  | none => .fail

def loadA (t : TypeId) (a : AVal) : AM AVal :=
  match P.info? t with
  | none => .fail
  | some inf => (cellsA E a inf.size).bind (shapeA P t)
end

theorem rowCells_get {s : Seg} {c i n k : Nat} (hk : k < n) : (rowCells s c i n)[k]? = (s.cols[c + k]?).map (colAt · i) := by
  simp only [rowCells, List.getElem?_map, List.getElem?_take, if_pos hk, List.getElem?_drop]

/-- the cells' own relation -/
theorem relL_of_cells {ι : Inj} {cs : List AVal} {n : Nat} (hl : cs.length = n) (f : Nat → Option Value) (hc : ∀ k v, k < n → cs[k]? = some v → ∃ x, f k = some x ∧ Rel E ra ι v x) :
    ∃ vs : List Value, vs.length = n ∧ RelL E ra ι cs vs ∧ ∀ k, k < n → f k = vs[k]? := by
  induction cs generalizing n f with
  | nil => simp at hl; subst hl; exact ⟨[], rfl, .nil, fun k hk => absurd hk (Nat.not_lt_zero _)⟩
  | cons c cs ih =>
    cases n with
    | zero => simp at hl
    | succ n =>
      obtain ⟨x, hx, hr⟩ := hc 0 c (by omega) (by simp)
      obtain ⟨vs, h1, h2, h3⟩ := ih (n := n) (by simpa using hl) (fun k => f (k + 1)) (fun k v hk hv => hc (k + 1) v (by omega) (by simpa using hv))
      refine ⟨x :: vs, by simp [h1], .cons hr h2, fun k hk => ?_⟩
      cases k with
      | zero => simpa using hx
      | succ k => simpa using h3 k (by omega)

theorem cellsA_sound {ι : Inj} {h : Log} {w : World} (H : WRel E ra base ι h w) {a : AVal} {a' : Value} (ha : Rel E ra ι a a') {n : Nat} {cs : List AVal} {d : Log} {r : List Nat} (hr : (cellsA E a n).Runs h cs d r) :
    d = [] ∧ ∃ b x vs, a' = .pointer (some ⟨b, x, none⟩) ∧ vs.length = n ∧ RelL E ra ι cs vs ∧ ∀ k, k < n → w.cell? ⟨b, x + k, none⟩ = vs[k]? := by
  cases ha with
  | ptr hA =>
    rename_i a x
    cases a with
    | own id off i st =>
      obtain ⟨b, o, sz, hι, rfl⟩ := hA
      simp only [cellsA, AM.Runs] at hr
      obtain ⟨B, r', hv, rfl, hr⟩ := hr
      have hB := H.own id B hv
      cases B with
      | segs l =>
        simp only at hr
        obtain ⟨b', o', cs', el, fz, h1, h2, h3, h4, h5, h6, h7⟩ := hB
        rw [hι] at h1
        simp only [Option.some.injEq, Prod.mk.injEq] at h1
        obtain ⟨rfl, rfl, rfl⟩ := h1
        have fin : ∀ (m : Nat) (cs : List AVal), cs.length = n → (∀ k, k < n → cellOf l (m + k) = cs[k]?) → ∃ vs : List Value, vs.length = n ∧ RelL E ra ι cs vs ∧ ∀ k, k < n → w.cell? ⟨b, o + m + k, none⟩ = vs[k]? := by
          intro m cs hl hc
          refine relL_of_cells hl (fun k => w.cell? ⟨b, o + m + k, none⟩) (fun k v hk hv => ?_)
          obtain ⟨c, hc1, hc2⟩ := h7 (m + k) v (by rw [hc k hk]; exact hv)
          refine ⟨c, ?_, hc2⟩
          rw [cell_at h3, ← hc1]; congr 1; omega
        cases hst : Nat.beq st 0 with
        | true =>
          simp only [hst] at hr
          have hst0 := Nat.eq_of_beq_eq_true hst
          subst hst0
          cases hf : flatCells l off n with
          | none => simp [hf, AM.Runs] at hr
          | some vs =>
            simp only [hf, AM.Runs] at hr
            obtain ⟨rfl, rfl, rfl⟩ := hr
            obtain ⟨g1, g2⟩ := flatCells_cell hf
            obtain ⟨us, k1, k2, k3⟩ := fin off _ g1 g2
            exact ⟨rfl, b, o + off + i * 0, us, rfl, k1, k2, by simpa using k3⟩
        | false =>
          simp only [hst] at hr
          cases hf : findRow l off with
          | none => simp [hf, AM.Runs] at hr
          | some p =>
            obtain ⟨s, c⟩ := p
            simp only [hf] at hr
            cases hb : Nat.beq s.st st && Nat.ble (c + n) st with
            | false => simp [hb, AM.Runs] at hr
            | true =>
              simp only [hb, AM.Runs] at hr
              obtain ⟨hi, rfl, rfl, rfl⟩ := hr
              simp only [Bool.and_eq_true] at hb
              have e1 := Nat.eq_of_beq_eq_true hb.1
              have e2 := Nat.le_of_ble_eq_true hb.2
              have hi' : i < s.n := of_decide_eq_true hi
              subst e1
              have hmem : ∀ k, k < n → s ∈ l ∧ cellOf l (off + i * s.st + k) = (s.cols[c + k]?).map (colAt · i) := fun k hk => by
                obtain ⟨g1, g2, g3⟩ := findRow_cell hf hi' (j := k) (by omega)
                exact ⟨g1, g3⟩
              have hlen : (rowCells s c i n).length = n := by
                rcases Nat.eq_zero_or_pos n with h0 | h0
                · subst h0; simp [rowCells]
                · have := (h6 s (hmem 0 h0).1).1
                  simp only [rowCells, List.length_map, List.length_take, List.length_drop]; omega
              obtain ⟨us, k1, k2, k3⟩ := fin (off + i * s.st) _ hlen (fun k hk => by rw [(hmem k hk).2, rowCells_get hk])
              exact ⟨rfl, b, o + off + i * s.st, us, rfl, k1, k2, fun k hk => by rw [← k3 k hk]; congr 2; omega⟩
      | map es => simp [AM.Runs] at hr
      | loop ts ps as bd s p => simp [AM.Runs] at hr
    | ro tid par i c =>
      have hx : x = _ := hA
      subst hx
      simp only [cellsA] at hr
      cases hb : Nat.ble (c + n) (E tid par).st with
      | false => simp [hb, AM.Runs] at hr
      | true =>
        simp only [hb, AM.Runs] at hr
        obtain ⟨hi, rfl, rfl, rfl⟩ := hr
        have e2 := Nat.le_of_ble_eq_true hb
        have hi' : i < (E tid par).n := of_decide_eq_true hi
        have hw := H.roWF tid par
        have hlen : (rowCells (E tid par) c i n).length = n := by
          simp only [rowCells, List.length_map, List.length_take, List.length_drop, hw.1]; omega
        obtain ⟨us, k1, k2, k3⟩ := relL_of_cells (E := E) (ra := ra) (ι := ι) hlen (fun k => w.cell? ⟨(ra tid par).1, (ra tid par).2 + (i * (E tid par).st + c) + k, none⟩) (fun k v hk hv => by
          rw [rowCells_get hk] at hv
          have := seg_cell (l := []) hi' (c := c + k) (by omega)
          obtain ⟨y, hy, hr⟩ := H.ro tid par (c + k + i * (E tid par).st) v (by rw [this]; exact hv)
          refine ⟨y, ?_, hr⟩
          rw [← hy]; congr 2; omega)
        exact ⟨rfl, _, _, us, rfl, k1, k2, k3⟩
  | _ => simp [cellsA, AM.Runs] at hr

theorem run_isAgg {t : TypeId} {d : TypeDesc} (ht : P.underlying t = some d) (w : World) : (isAgg t).run P w = .ok (aggB d) w := by
  simp only [isAgg, Sem.run_bind, run_underlying ht, Result.andThen_ok]
  cases d <;> rfl

theorem run_sizeOf {t : TypeId} {i : TypeInfo} (hi : P.info? t = some i) (w : World) : (sizeOf t).run P w = .ok i.size w := by
  simp [sizeOf, typeInfo, hi]

theorem loadA_sound {ι : Inj} {h : Log} {w : World} (H : WRel E ra base ι h w) {t : TypeId} {a : AVal} {a' : Value} (ha : Rel E ra ι a a') : SoundAt P E ra base ι h w (loadA P E t a) (Instr.loadAt t a') := by
  refine .of_pure H fun v d r hr => ?_
  simp only [loadA] at hr
  cases hi : P.info? t with
  | none => simp [hi, AM.Runs] at hr
  | some inf =>
    simp only [hi, runs_bind] at hr
    obtain ⟨cs, d₁, r₁, d₂, r₂, h1, h2, rfl, rfl⟩ := hr
    obtain ⟨rfl, b, x, vs, rfl, hl, hR, hc⟩ := cellsA_sound H ha h1
    have hlen := hR.length
    cases hu : P.underlying t with
    | none => simp [shapeA, hu, AM.Runs] at h2
    | some td =>
      have hagg := run_isAgg hu w
      have hsz := run_sizeOf hi w
      cases hag : aggB td with
      | true =>
        rw [hag] at hagg
        simp only [shapeA, hu, hag] at h2
        obtain ⟨rfl, rfl, rfl⟩ := h2
        refine ⟨rfl, .agg vs.toArray, ?_, .agg hR⟩
        simp [Instr.loadAt, Instr.sureAddr, loadVar, hagg, hsz, run_loadCells' hl hc]
      | false =>
        rw [hag] at hagg
        simp only [shapeA, hu, hag] at h2
        match cs, vs, hR, hlen, h2 with
        | [v₀], [y], hR, _, h2 =>
          obtain ⟨rfl, rfl, rfl⟩ := h2
          refine ⟨rfl, y, ?_, ?_⟩
          · have hc0 := hc 0 (by simp at hl; omega)
            simp only [Nat.add_zero, List.getElem?_cons_zero] at hc0
            simp [Instr.loadAt, Instr.sureAddr, loadVar, hagg, hc0]
          · cases hR with | cons h _ => exact h
        | [], _, _, _, h2 => simp [one1, AM.Runs] at h2
        | _ :: _ :: _, _, _, _, h2 => simp [one1, AM.Runs] at h2

/-! ### Addresses -/
section
variable (P E)
def asI : AVal → AM Int
  | .int _ n => .pure n
  | _ => .fail

def indexAddrA (t : TypeId) (x ix : AVal) : AM AVal :=
  match ix, P.underlying t, x with
  | .int _ i, some (.array n e), .ptr (.own id off i0 st) => match P.info? e with
    | some inf => .need (decide (0 ≤ i) && decide (i < n)) (match Nat.beq st 0 with
      | true => .pure (.ptr (.own id off i.toNat inf.size))
      | false => .pure (.ptr (.own id (off + i.toNat * inf.size) i0 st)))
    | none => .fail
  | .int _ i, some (.slice e), .slice a len _ => match P.info? e with
    | some inf => match a with
      | .own id off i0 st => match Nat.beq st inf.size with
        | true => .need (decide (0 ≤ i) && decide (i < len)) (.pure (.ptr (.own id off (i0 + i.toNat) st)))
        | false => .fail
      | .ro tid par i0 c => match Nat.beq (E tid par).st inf.size with
        | true => .need (decide (0 ≤ i) && decide (i < len)) (.pure (.ptr (.ro tid par (i0 + i.toNat) c)))
        | false => .fail
    | none => .fail
  | _, _, _ => .fail

def fieldAddrA (t : TypeId) (x : AVal) (f : Nat) : AM AVal :=
  match P.underlying t, x with
  | some (.struct fs), .ptr a => match fs[f]? with
    | some fd => match P.info? fd.type with
      | some inf => match Nat.beq inf.size 0 with
        | true => .fail
        | false => match a with
          | .own id off i st => .pure (.ptr (.own id (off + fd.offset) i st))
          | .ro tid par i c => .pure (.ptr (.ro tid par i (c + fd.offset)))
      | none => .fail
    | none => .fail
  | _, _ => .fail

def partA (e : TypeId) (cs : List AVal) (off : Nat) : Option AVal :=
  match P.info? e with
  | some inf => match P.underlying e with
    | some td => match aggB td with
      | true => some (.agg ((cs.drop off).take inf.size))
      | false => cs[off]?
    | none => none
  | none => none

def indexA (t : TypeId) (x ix : AVal) : AM AVal :=
  match ix, P.underlying t, x with
  | .int _ i, some (.array n e), .agg cs => match P.info? e with
    | some inf => .need (decide (0 ≤ i) && decide (i < n)) (liftO (partA P e cs (i.toNat * inf.size)))
    | none => .fail
  | .int _ i, some .string, .str s => .need (decide (0 ≤ i) && decide (i < s.size)) (.pure (.int .u8 (s.data.toList.getD i.toNat 0).toNat))
  | _, _, _ => .fail

def fieldA (t : TypeId) (x : AVal) (f : Nat) : AM AVal :=
  match P.underlying t, x with
  | some (.struct fs), .agg cs => match fs[f]? with
    | some fd => liftO (partA P fd.type cs fd.offset)
    | none => .fail
  | _, _ => .fail

def extractA (x : AVal) (ix : Nat) : AM AVal :=
  match x with
  | .tup vs => liftO vs[ix]?
  | _ => .fail
end

theorem addr_add (b o n : Nat) : (⟨b, o, none⟩ : Addr).add n = ⟨b, o + n, none⟩ := Addr.add_lit b o n

theorem and_need {a b : Prop} [Decidable a] [Decidable b] (h : (decide a && decide b) = true) : a ∧ b := by
  simp only [Bool.and_eq_true, decide_eq_true_eq] at h; exact h

theorem indexAddrA_sound {ι : Inj} {h : Log} {w : World} (H : WRel E ra base ι h w) {t : TypeId} {x ix : AVal} {x' ix' : Value} (hx : Rel E ra ι x x') (hix : Rel E ra ι ix ix') :
    SoundAt P E ra base ι h w (indexAddrA P E t x ix) (Instr.indexAt t x' ix') := by
  refine .of_pure H fun v d r hr => ?_
  unfold indexAddrA at hr
  split at hr
  · -- an array
    rename_i k i n e id off i0 st hu
    cases hix
    cases hx with | ptr hA =>
    obtain ⟨b, o, sz, hι, rfl⟩ := hA
    cases hi : P.info? e with
    | none => simp [hi, AM.Runs] at hr
    | some inf =>
      simp only [hi, AM.Runs] at hr
      obtain ⟨hn, hr⟩ := hr
      obtain ⟨h0, h1⟩ := and_need hn
      have hrun : (Instr.indexAt t (.pointer (some ⟨b, o + off + i0 * st, none⟩)) (.int k i)).run P w = .ok (.pointer (some ⟨b, o + off + i0 * st + i.toNat * inf.size, none⟩)) w := by
        simp [Instr.indexAt, asIntOf, run_underlying hu, Instr.sureAddr, h0, h1, run_sizeOf hi, addr_add]
      cases hst : Nat.beq st 0 with
      | true =>
        have := Nat.eq_of_beq_eq_true hst
        subst this
        simp only [AM.Runs] at hr
        obtain ⟨rfl, rfl, rfl⟩ := hr
        exact ⟨rfl, _, hrun, .ptr ⟨b, o, sz, hι, by simp⟩⟩
      | false =>
        simp only [hst, AM.Runs] at hr
        obtain ⟨rfl, rfl, rfl⟩ := hr
        refine ⟨rfl, _, hrun, .ptr ⟨b, o, sz, hι, ?_⟩⟩
        congr 1; omega
  · -- a slice
    rename_i k i e a len cap hu
    cases hix
    cases hx with | slice hS hNm =>
    rename_i y cap'
    obtain ⟨g1, g2, g3⟩ := hS
    cases hi : P.info? e with
    | none => simp [hi, AM.Runs] at hr
    | some inf =>
      simp only [hi] at hr
      have hrun : 0 ≤ i → i < len → (Instr.indexAt t (.slice (some y) len cap') (.int k i)).run P w = .ok (.pointer (some (y.add (i.toNat * inf.size)))) w := fun h0 h1 => by
        simp [Instr.indexAt, asIntOf, run_underlying hu, h0, h1, run_sizeOf hi]
      cases a with
      | own id off i0 st =>
        simp only at hr
        cases hst : Nat.beq st inf.size with
        | false => simp [hst, AM.Runs] at hr
        | true =>
          have := Nat.eq_of_beq_eq_true hst
          subst this
          simp only [hst, AM.Runs] at hr
          obtain ⟨hn, rfl, rfl, rfl⟩ := hr
          obtain ⟨h0, h1⟩ := and_need hn
          rcases g3 with g3 | ⟨b, o, sz, g4, rfl, g5⟩
          · omega
          · refine ⟨rfl, _, hrun h0 h1, .ptr ⟨b, o, sz, g4, ?_⟩⟩
            rw [addr_add]; congr 1; rw [Nat.add_mul]; omega
      | ro tid par i0 c =>
        simp only at hr
        cases hst : Nat.beq (E tid par).st inf.size with
        | false => simp [hst, AM.Runs] at hr
        | true =>
          have := Nat.eq_of_beq_eq_true hst
          simp only [hst, AM.Runs] at hr
          obtain ⟨hn, rfl, rfl, rfl⟩ := hr
          obtain ⟨h0, h1⟩ := and_need hn
          rcases g3 with g3 | g3
          · omega
          · simp only at g3
            subst g3
            refine ⟨rfl, _, hrun h0 h1, .ptr ?_⟩
            show Addr.add _ _ = _
            rw [addr_add, this, Nat.add_mul]; congr 1; omega
  · simp [AM.Runs] at hr

theorem fieldAddrA_sound {ι : Inj} {h : Log} {w : World} (H : WRel E ra base ι h w) {t : TypeId} {x : AVal} {x' : Value} {f : Nat} (hx : Rel E ra ι x x') :
    SoundAt P E ra base ι h w (fieldAddrA P t x f) (Instr.fieldAt t x' f) := by
  refine .of_pure H fun v d r hr => ?_
  unfold fieldAddrA at hr
  split at hr
  · rename_i fs a hu
    cases hx with | ptr hA =>
    rename_i y
    cases hf : fs[f]? with
    | none => simp [hf, AM.Runs] at hr
    | some fd =>
      simp only [hf] at hr
      cases hi : P.info? fd.type with
      | none => simp [hi, AM.Runs] at hr
      | some inf =>
        simp only [hi] at hr
        cases hz : Nat.beq inf.size 0 with
        | true => simp [hz, AM.Runs] at hr
        | false =>
          have hz' : inf.size ≠ 0 := fun e => by rw [e] at hz; cases hz
          have hrun : (Instr.fieldAt t (.pointer (some y)) f).run P w = .ok (.pointer (some (y.add fd.offset))) w := by
            simp [Instr.fieldAt, run_underlying hu, hf, Instr.sureAddr, fieldPlace, run_sizeOf hi, hz']
          cases a with
          | own id off i st =>
            simp only [hz, AM.Runs] at hr
            obtain ⟨rfl, rfl, rfl⟩ := hr
            obtain ⟨b, o, sz, hι, rfl⟩ := hA
            refine ⟨rfl, _, hrun, .ptr ⟨b, o, sz, hι, ?_⟩⟩
            rw [addr_add]; congr 1; omega
          | ro tid par i c =>
            simp only [hz, AM.Runs] at hr
            obtain ⟨rfl, rfl, rfl⟩ := hr
            have hy : y = _ := hA
            subst hy
            refine ⟨rfl, _, hrun, .ptr ?_⟩
            show Addr.add _ _ = _
            rw [addr_add]; congr 1; omega
  · simp [AM.Runs] at hr

theorem partA_sound {ι : Inj} {w : World} {e : TypeId} {cs : List AVal} {vs : List Value} {off : Nat} {v : AVal} (hR : RelL E ra ι cs vs) (hp : partA P e cs off = some v) :
    ∃ v', (part e vs.toArray off).run P w = .ok v' w ∧ Rel E ra ι v v' := by
  unfold partA at hp
  cases hi : P.info? e with
  | none => simp [hi] at hp
  | some inf =>
    simp only [hi] at hp
    cases hu : P.underlying e with
    | none => simp [hu] at hp
    | some td =>
      have hagg := run_isAgg hu w
      have hsz := run_sizeOf hi w
      simp only [hu] at hp
      cases hag : aggB td with
      | true =>
        rw [hag] at hagg
        simp only [hag, Option.some.injEq] at hp
        subst hp
        refine ⟨.agg ((vs.drop off).take inf.size).toArray, ?_, .agg ((hR.drop off).take _)⟩
        simp [part, hagg, hsz, List.extract_toArray, List.extract_eq_take_drop]
      | false =>
        rw [hag] at hagg
        simp only [hag] at hp
        obtain ⟨y, hy, hr⟩ := hR.get hp
        refine ⟨y, ?_, hr⟩
        simp [part, hagg, hy]

theorem fieldA_sound {ι : Inj} {h : Log} {w : World} (H : WRel E ra base ι h w) {t : TypeId} {x : AVal} {x' : Value} {f : Nat} (hx : Rel E ra ι x x') :
    SoundAt P E ra base ι h w (fieldA P t x f) (Instr.field t x' f) := by
  refine .of_pure H fun v d r hr => ?_
  unfold fieldA at hr
  split at hr
  · rename_i fs cs hu
    cases hx with | agg hL =>
    rename_i vs
    cases hf : fs[f]? with
    | none => simp [hf, AM.Runs] at hr
    | some fd =>
      simp only [hf, runs_liftO] at hr
      obtain ⟨hp, rfl, rfl⟩ := hr
      obtain ⟨v', h1, h2⟩ := partA_sound (w := w) hL hp
      exact ⟨rfl, v', by simp [Instr.field, run_underlying hu, hf, asAgg, h1], h2⟩
  · simp [AM.Runs] at hr

theorem indexA_sound {ι : Inj} {h : Log} {w : World} (H : WRel E ra base ι h w) {t : TypeId} {x ix : AVal} {x' ix' : Value} (hx : Rel E ra ι x x') (hix : Rel E ra ι ix ix') :
    SoundAt P E ra base ι h w (indexA P t x ix) (Instr.index t x' ix') := by
  refine .of_pure H fun v d r hr => ?_
  unfold indexA at hr
  split at hr
  · rename_i k i n e cs hu
    cases hix
    cases hx with | agg hL =>
    rename_i vs
    cases hi : P.info? e with
    | none => simp [hi, AM.Runs] at hr
    | some inf =>
      simp only [hi, AM.Runs, runs_liftO] at hr
      obtain ⟨hn, hp, rfl, rfl⟩ := hr
      obtain ⟨h0, h1⟩ := and_need hn
      obtain ⟨v', g1, g2⟩ := partA_sound (w := w) hL hp
      exact ⟨rfl, v', by simp [Instr.index, asIntOf, run_underlying hu, h0, h1, run_sizeOf hi, g1], g2⟩
  · rename_i k i s hu
    cases hix
    cases hx
    simp only [AM.Runs] at hr
    obtain ⟨hn, rfl, rfl, rfl⟩ := hr
    obtain ⟨h0, h1⟩ := and_need hn
    have hlt : i.toNat < s.size := by omega
    refine ⟨rfl, _, ?_, .int _ _⟩
    have hg : s[i.toNat]? = some (s.data.toList.getD i.toNat 0) := by
      rw [ByteArray.getElem?_lt' s _ hlt]
      congr 1
      rw [List.getD_eq_getElem?_getD, List.getElem?_eq_getElem (by simpa using hlt)]
      rfl
    simp [Instr.index, asIntOf, run_underlying hu, h0, hg]
  · simp [AM.Runs] at hr

theorem extractA_sound {ι : Inj} {h : Log} {w : World} (H : WRel E ra base ι h w) {x : AVal} {x' : Value} {ix : Nat} (hx : Rel E ra ι x x') :
    SoundAt P E ra base ι h w (extractA x ix) (Instr.extract x' ix) := by
  refine .of_pure H fun v d r hr => ?_
  unfold extractA at hr
  split at hr
  · rename_i vs
    cases hx with | tup hL =>
    rename_i us
    rw [runs_liftO] at hr
    obtain ⟨hg, rfl, rfl⟩ := hr
    obtain ⟨y, hy, hr⟩ := hL.get hg
    exact ⟨rfl, y, by simp [Instr.extract, hy], hr⟩
  · simp [AM.Runs] at hr

end Go.Proofs.Ytbpcfjhnkjobaaa.Ab
