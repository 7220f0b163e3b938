/- What a law takes, opened into tables: cells that are numbers, bools, strings, and slices of rows of such. -/
import Derived.Test.YtcgebafffkpmfaaE25
import Derived.ChangeArms
import Derived.ChangeShapes
namespace Go.Proofs.Ytcgebafffkpmfaa.Ab
open Go.ChangeShapes Go.WideShapes

variable {P : Program} {E : Nat → Nat → Seg} {ra : Nat → Nat → Nat × Nat} {base : Nat}

/-- what a cell is -/
inductive CK
  | int (k : IntKind)
  | bool
  | str
  | slice (e : TypeId)
  deriving Inhabited

/-- of fields that lie one behind the other -/
def fieldsK (r : TypeId → Option (List CK)) (P : Program) (total : Nat) : Nat → List Field → Option (List CK)
  | o, [] => match Nat.beq o total with
    | true => some []
    | false => none
  | o, f :: fs => match Nat.beq f.offset o, r f.type with
    | true, some ks => match fieldsK r P total (o + P.cellsOf f.type) fs with
      | some r => some (ks ++ r)
      | none => none
    | _, _ => none

/-- a type's cells, one behind the other -/
def kinds (P : Program) : Nat → TypeId → Option (List CK)
  | 0, _ => none
  | n + 1, t => match P.underlying t with
    | some .bool => some [.bool]
    | some (.int k) => some [.int k]
    | some .string => some [.str]
    | some (.slice e) => some [.slice e]
    | some (.struct fs) => fieldsK (kinds P n) P (P.cellsOf t) 0 fs.toList
    | some (.array m e) => match kinds P n e with
      | some ks => match Nat.beq (P.cellsOf t) (m * P.cellsOf e) with
        | true => some (List.flatten (List.replicate m ks))
        | false => none
      | none => none
    | _ => none

/-- a cell is what it is said to be; a slice's rows can be read -/
def OpenC {H : Type} (enc : TypeId × Value → H) (P : Program) (w : World) : CK → Value → Prop
  | .int k, c => ∃ n, c = .int k n ∧ (Lit.int k n).wf = true
  | .bool, c => ∃ b, c = .bool b
  | .str, c => ∃ s : ByteArray, c = .string s ∧ s.size ≤ maxLen
  | .slice e, c => c = .slice none 0 0 ∨ ∃ (a : Addr) (len cap fuel : Nat), c = .slice (some a) len cap ∧ len ≤ cap ∧ cap ≤ maxLen ∧
      ∀ i, i < cap → ∃ cs x, w.cells? 0 (a.add (i * P.cellsOf e)) (P.cellsOf e) = some cs ∧ DataW.trod enc P w 0 (fun _ => true) true fuel e cs = some x

inductive OpenL {H : Type} (enc : TypeId × Value → H) (P : Program) (w : World) : List CK → List Value → Prop
  | nil : OpenL enc P w [] []
  | cons {k : CK} {c : Value} {ks : List CK} {cs : List Value} (h : OpenC enc P w k c) (t : OpenL enc P w ks cs) : OpenL enc P w (k :: ks) (c :: cs)

section
variable {H : Type} {enc : TypeId × Value → H} {w : World}

theorem OpenL.append {ks ks' : List CK} {cs cs' : List Value} (h : OpenL enc P w ks cs) (h' : OpenL enc P w ks' cs') : OpenL enc P w (ks ++ ks') (cs ++ cs') := by
  induction h with
  | nil => exact h'
  | cons h t ih => exact .cons h ih

theorem OpenL.length {ks : List CK} {cs : List Value} (h : OpenL enc P w ks cs) : cs.length = ks.length := by
  induction h with
  | nil => rfl
  | cons h t ih => simp [ih]

theorem OpenL.get {ks : List CK} {cs : List Value} (h : OpenL enc P w ks cs) : ∀ {j : Nat} {k : CK}, ks[j]? = some k → ∃ c, cs[j]? = some c ∧ OpenC enc P w k c := by
  induction h with
  | nil => intro j k hj; simp at hj
  | cons h t ih =>
    intro j k hj
    cases j with
    | zero => simp at hj; subst hj; exact ⟨_, rfl, h⟩
    | succ j => simpa using ih (by simpa using hj)

theorem fields_le {n total : Nat} : ∀ {l : List Field} {o : Nat} {ks : List CK}, fieldsK (kinds P n) P total o l = some ks → o ≤ total
  | [], o, ks, h => by
    simp only [fieldsK] at h
    split at h
    · rename_i e; exact Nat.le_of_eq (Nat.eq_of_beq_eq_true e)
    · cases h
  | f :: l, o, ks, h => by
    simp only [fieldsK] at h
    split at h
    · split at h
      · rename_i r hr
        have := fields_le hr
        omega
      · cases h
    · cases h

theorem opened_fields {n : Nat} (ih : ∀ (t : TypeId) (ks : List CK), kinds P n t = some ks → ∀ (fuel : Nat) (cs : List Value) (x : DataW H × List MemPlace), cs.length = P.cellsOf t →
    DataW.trod enc P w 0 (fun _ => true) true fuel t cs = some x → OpenL enc P w ks cs) {cs : List Value} {m : Nat} : ∀ (l : List Field) (o : Nat) {ks : List CK}, fieldsK (kinds P n) P cs.length o l = some ks →
      (∀ f ∈ l, ∃ x, DataW.trod enc P w 0 (fun _ => true) true m f.type ((cs.drop f.offset).take (P.cellsOf f.type)) = some x) → OpenL enc P w ks (cs.drop o)
  | [], o, ks, h, _ => by
    simp only [fieldsK] at h
    split at h
    · rename_i e
      have e := Nat.eq_of_beq_eq_true e
      simp only [Option.some.injEq] at h
      subst h; subst e
      simpa using OpenL.nil
    · cases h
  | f :: l, o, ks, h, hx => by
    simp only [fieldsK] at h
    split at h
    · rename_i kf ho hkf
      have ho := Nat.eq_of_beq_eq_true ho
      subst ho
      split at h
      · rename_i kr hkr
        simp only [Option.some.injEq] at h
        subst h
        have hle := fields_le hkr
        obtain ⟨x, hxf⟩ := hx f (by simp)
        have h1 := ih f.type kf hkf m _ x (by simp; omega) hxf
        have h2 := opened_fields ih l (f.offset + P.cellsOf f.type) hkr (fun g hg => hx g (by simp [hg]))
        have := h1.append h2
        rwa [← List.drop_drop, List.take_append_drop] at this
      · cases h
    · cases h

theorem opened_array {ks : List CK} {r : Nat} : ∀ (m : Nat) {cs : List Value}, cs.length = m * r → (∀ i, i < m → OpenL enc P w ks ((cs.drop (i * r)).take r)) → OpenL enc P w (List.flatten (List.replicate m ks)) cs
  | 0, cs, hl, _ => by
    have : cs = [] := List.eq_nil_of_length_eq_zero (by simpa using hl)
    subst this; exact .nil
  | m + 1, cs, hl, h => by
    rw [List.replicate_succ, List.flatten_cons]
    have h0 := h 0 (Nat.succ_pos m)
    simp only [Nat.zero_mul, List.drop_zero] at h0
    have h1 := opened_array (ks := ks) (r := r) m (cs := cs.drop r) (by rw [List.length_drop, hl, Nat.succ_mul]; omega) fun i hi => by
      have := h (i + 1) (by omega)
      rwa [Nat.succ_mul, Nat.add_comm, ← List.drop_drop] at this
    have := h0.append h1
    rwa [List.take_append_drop] at this

/-- What can be read is what its type says. -/
theorem opened (n : Nat) : ∀ (t : TypeId) (ks : List CK), kinds P n t = some ks → ∀ (fuel : Nat) (cs : List Value) (x : DataW H × List MemPlace), cs.length = P.cellsOf t →
    DataW.trod enc P w 0 (fun _ => true) true fuel t cs = some x → OpenL enc P w ks cs := by
  induction n with
  | zero => intro t ks hk; simp [kinds] at hk
  | succ n ih =>
    intro t ks hk fuel cs x hl hx
    simp only [kinds] at hk
    split at hk
    · rename_i ht
      simp only [Option.some.injEq] at hk; subst hk
      obtain ⟨b, rfl, _⟩ := DataW.trod_bool ht hx
      exact .cons ⟨b, rfl⟩ .nil
    · rename_i k ht
      simp only [Option.some.injEq] at hk; subst hk
      obtain ⟨m, rfl, _, hw⟩ := DataW.trod_int ht hx
      exact .cons ⟨m, rfl, hw⟩ .nil
    · rename_i ht
      simp only [Option.some.injEq] at hk; subst hk
      obtain ⟨s, rfl, _, hw⟩ := DataW.trod_string ht hx
      exact .cons ⟨s, rfl, hw⟩ .nil
    · rename_i e ht
      simp only [Option.some.injEq] at hk; subst hk
      rcases DataW.trod_slice ht hx with ⟨rfl, _⟩ | ⟨a, len, cap, elems, rest, m, _, rfl, _, _, h1, h2, h3, h4, h5, _⟩
      · exact .cons (.inl rfl) .nil
      · refine .cons (.inr ⟨a, len, cap, m, rfl, h1, h2, fun i hi => ?_⟩) .nil
        have key : ∃ y, (w.cells? 0 (a.add (i * P.cellsOf e)) (P.cellsOf e)).bind (DataW.trod enc P w 0 (fun _ => true) true m e) = some y := by
          rcases Nat.lt_or_ge i len with hi' | hi'
          · rw [h4 i hi', List.getElem?_eq_getElem (by omega)]; exact ⟨_, rfl⟩
          · obtain ⟨g1, g2⟩ := h5 rfl
            have := g2 (i - len) (by omega)
            rw [show len + (i - len) = i by omega] at this
            rw [this, List.getElem?_eq_getElem (by omega)]; exact ⟨_, rfl⟩
        obtain ⟨y, hy⟩ := key
        rw [Option.bind_eq_some_iff] at hy
        obtain ⟨cs, g1, g2⟩ := hy
        exact ⟨cs, y, g1, g2⟩
    · rename_i fs ht
      obtain ⟨xs, m, _, _, h1, h2, h3⟩ := DataW.trod_struct ht hx
      rw [← h1] at hk
      have := opened_fields ih (cs := cs) (m := m) fs.toList 0 hk fun f hf => by
        obtain ⟨i, hi, e⟩ := List.getElem_of_mem hf
        have hi' : i < fs.size := by simpa using hi
        have := h3 i f (by rw [← Array.getElem?_toList, List.getElem?_eq_getElem hi, e])
        rw [this, List.getElem?_eq_getElem (by omega)]
        exact ⟨_, rfl⟩
      simpa using this
    · rename_i m e ht
      split at hk
      · rename_i ke hke
        split at hk
        · rename_i hm
          have hm := Nat.eq_of_beq_eq_true hm
          simp only [Option.some.injEq] at hk; subst hk
          obtain ⟨f', h1⟩ : ∃ f', fuel = f' + 1 := by
            cases fuel with
            | zero => simp [DataW.trod] at hx
            | succ f' => exact ⟨f', rfl⟩
          subst h1
          unfold DataW.trod at hx
          rw [ht] at hx
          simp only [hl, if_true, Option.map_eq_some_iff] at hx
          obtain ⟨ys, hy, _⟩ := hx
          refine opened_array (r := P.cellsOf e) m (by rw [hl, hm]) fun i hi => ?_
          have hyl : ys.length = m := by simpa using mapM_some_length hy
          have := mapM_some_get hy i i (by simp [hi])
          rw [List.getElem?_eq_getElem (by omega)] at this
          refine ih e ke hke f' _ _ ?_ this
          rw [List.length_take, List.length_drop, hl, hm]
          have : (i + 1) * P.cellsOf e ≤ m * P.cellsOf e := Nat.mul_le_mul_right _ hi
          rw [Nat.succ_mul] at this
          omega
        · cases hk
      · cases hk
    · cases hk
end

end Go.Proofs.Ytcgebafffkpmfaa.Ab
