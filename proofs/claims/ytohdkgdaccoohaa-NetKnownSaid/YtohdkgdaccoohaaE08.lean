/- Aggregates, function values, conversions of numbers, lengths, least and greatest: against the model's. -/
import Derived.Test.YtohdkgdaccoohaaE07
namespace Go.Proofs.Ytohdkgdaccoohaa.Ab

variable {P : Program} {E : Nat → Nat → Seg} {ra : Nat → Nat → Nat × Nat} {base : Nat}

/-! ### Aggregates -/
def fillA (place : Nat → Option (Nat × Nat)) : List AVal → List (Nat × AVal) → Option (List AVal)
  | cells, [] => some cells
  | cells, (i, v) :: rest => match place i, cellsOfV v with
    | some (off, size), some vs => match Nat.beq vs.length size && Nat.ble (off + size) cells.length with
      | true => fillA place (cells.take off ++ (vs ++ cells.drop (off + size))) rest
      | false => none
    | _, _ => none

section
variable (P)
def zeroA (t : TypeId) : Option AVal :=
  match P.info? t with
  | some i => match i.zero with
    | some v => some (absV v)
    | none => none
  | none => none

def placeOf (fs : Array Field) (i : Nat) : Option (Nat × Nat) :=
  match fs[i]? with
  | some f => match P.info? f.type with
    | some inf => some (f.offset, inf.size)
    | none => none
  | none => none

def buildA (t : TypeId) (parts : List (Nat × AVal)) : Option AVal :=
  match zeroA P t with
  | some z => match cellsOfV z, P.underlying t with
    | some cells, some (.struct fs) => match fs.toList.all fun f => (P.info? f.type).isSome with
      | true => match fillA (placeOf P fs) cells parts with
        | some cs => some (.agg cs)
        | none => none
      | false => none
    | some cells, some (.array _ e) => match P.info? e with
      | some inf => match fillA (fun i => some (i * inf.size, inf.size)) cells parts with
        | some cs => some (.agg cs)
        | none => none
      | none => none
    | _, _ => none
  | none => none
end

theorem zeroA_sound {ι : Inj} {w : World} {t : TypeId} {z : AVal} (h : zeroA P t = some z) : ∃ z' i, P.info? t = some i ∧ i.zero = some z' ∧ (zeroValue t).run P w = .ok z' w ∧ Rel E ra ι z z' := by
  unfold zeroA at h
  cases hi : P.info? t with
  | none => simp [hi] at h
  | some i =>
    cases hz : i.zero with
    | none => simp [hi, hz] at h
    | some v =>
      simp only [hi, hz, Option.some.injEq] at h
      subst h
      exact ⟨v, i, rfl, hz, by simp [zeroValue, typeInfo, hi, hz], rel_absV ι v⟩

theorem foldl_fill (off : Nat) : ∀ (vs : List Value) (k : Nat) (cs : Array Value), off + k + vs.length ≤ cs.size →
    ((vs.zipIdx k).foldl (fun cs (c, j) => cs.setIfInBounds (off + j) c) cs).toList = cs.toList.take (off + k) ++ (vs ++ cs.toList.drop (off + k + vs.length))
  | [], k, cs, _ => by simp
  | v :: vs, k, cs, h => by
    simp only [List.length_cons] at h
    simp only [List.zipIdx_cons, List.foldl_cons]
    rw [foldl_fill off vs (k + 1) _ (by simp; omega)]
    simp only [Array.toList_setIfInBounds, List.length_cons]
    have e : off + (k + 1) = off + k + 1 := by omega
    rw [e]
    have hlt : off + k < cs.toList.length := by simp; omega
    rw [List.take_add_one, List.take_set_of_le (by omega), List.drop_set_of_lt (by omega)]
    simp only [List.getElem?_set_self hlt, Option.toList_some, List.append_assoc, List.singleton_append]
    congr 3; congr 1; omega

theorem fillA_sound {ι : Inj} {place : Nat → Option (Nat × Nat)} : ∀ (parts : List (Nat × AVal)) (parts' : List (Nat × Value)) (cells : List AVal) (cells' : Array Value) (cs : List AVal),
    RelL E ra ι cells cells'.toList → parts'.map (·.1) = parts.map (·.1) → RelL E ra ι (parts.map (·.2)) (parts'.map (·.2)) → fillA place cells parts = some cs →
    ∃ cs', Instr.fill place cells' parts' = some cs' ∧ RelL E ra ι cs cs'.toList
  | [], parts', cells, cells', cs, hc, he, _, h => by
    cases parts' with
    | cons => simp at he
    | nil => simp only [fillA, Option.some.injEq] at h; subst h; exact ⟨cells', rfl, hc⟩
  | (i, v) :: parts, parts', cells, cells', cs, hc, he, hp, h => by
    cases parts' with
    | nil => simp at he
    | cons p parts' =>
      obtain ⟨i', v'⟩ := p
      simp only [List.map_cons, List.cons.injEq] at he
      obtain ⟨rfl, he⟩ := he
      simp only [List.map_cons] at hp
      cases hp with | cons hv hp =>
      simp only [fillA] at h
      cases hpl : place i' with
      | none => simp [hpl] at h
      | some os =>
        obtain ⟨off, size⟩ := os
        cases hvs : cellsOfV v with
        | none => simp [hpl, hvs] at h
        | some vs =>
          simp only [hpl, hvs] at h
          cases hb : Nat.beq vs.length size && Nat.ble (off + size) cells.length with
          | false => simp [hb] at h
          | true =>
            simp only [hb] at h
            simp only [Bool.and_eq_true] at hb
            have h1 := Nat.eq_of_beq_eq_true hb.1
            have h2 := Nat.le_of_ble_eq_true hb.2
            have hvc := rel_cells hv hvs
            have l1 := hvc.length
            have l2 := hc.length
            simp only [Array.length_toList] at l1 l2
            have hsz : v'.cells.size = size := by omega
            have hfit : off + v'.cells.size ≤ cells'.size := by omega
            have hfold := foldl_fill off v'.cells.toList 0 cells' (by simpa using hfit)
            simp only [Nat.add_zero, Array.length_toList] at hfold
            have hR : RelL E ra ι (cells.take off ++ (vs ++ cells.drop (off + size))) (v'.cells.zipIdx.foldl (fun cs (c, j) => cs.setIfInBounds (off + j) c) cells').toList := by
              have : (v'.cells.zipIdx.foldl (fun cs (c, j) => cs.setIfInBounds (off + j) c) cells') = ((v'.cells.toList.zipIdx 0).foldl (fun cs (c, j) => cs.setIfInBounds (off + j) c) cells') := by
                rw [← Array.foldl_toList]; simp
              rw [this, hfold, hsz]
              exact (hc.take off).append (hvc.append (hc.drop _))
            obtain ⟨cs', k1, k2⟩ := fillA_sound parts parts' _ _ cs hR he hp h
            refine ⟨cs', ?_, k2⟩
            simp only [Instr.fill, hpl]
            rw [if_neg (by simp [hsz]; omega)]
            exact k1

theorem run_mapM_list {α β : Type} {w : World} (f : α → Sem β) (g : α → β) : ∀ (l : List α) (acc : Array β), (∀ a ∈ l, (f a).run P w = .ok (g a) w) →
    (l.foldlM (fun bs a => bs.push <$> f a) acc : Sem (Array β)).run P w = .ok (acc ++ (l.map g).toArray) w
  | [], acc, _ => by simp
  | a :: l, acc, h => by
    simp only [List.foldlM_cons, Sem.run_bind, Sem.run_map, h a (by simp), Result.andThen_ok]
    rw [run_mapM_list f g l _ (fun b hb => h b (by simp [hb]))]
    simp

theorem run_mapM {α β : Type} {w : World} (f : α → Sem β) (g : α → β) (l : Array α) (h : ∀ a ∈ l.toList, (f a).run P w = .ok (g a) w) : (l.mapM f).run P w = .ok (l.map g) w := by
  rw [Array.mapM_eq_foldlM, ← Array.foldlM_toList, run_mapM_list f g l.toList #[] h]
  congr 1
  apply Array.ext'
  simp

theorem fill_congr {p q : Nat → Option (Nat × Nat)} : ∀ (parts : List (Nat × Value)) (cells : Array Value) (r : Array Value), (∀ i x, q i = some x → p i = some x) → Instr.fill q cells parts = some r → Instr.fill p cells parts = some r
  | [], _, _, _, h => h
  | (i, v) :: parts, cells, r, hpq, h => by
    simp only [Instr.fill] at h ⊢
    cases hq : q i with
    | none => simp [hq] at h
    | some os =>
      rw [hpq i os hq]
      simp only [hq] at h ⊢
      split at h
      · cases h
      · rename_i hn; rw [if_neg hn]; exact fill_congr parts _ r hpq h

theorem buildA_sound {ι : Inj} {w : World} {t : TypeId} {parts : List (Nat × AVal)} {parts' : Array (Nat × Value)} {v : AVal} (he : parts'.toList.map (·.1) = parts.map (·.1)) (hp : RelL E ra ι (parts.map (·.2)) (parts'.toList.map (·.2)))
    (h : buildA P t parts = some v) : ∃ v', (Instr.build t parts').run P w = .ok v' w ∧ Rel E ra ι v v' := by
  unfold buildA at h
  cases hz : zeroA P t with
  | none => simp [hz] at h
  | some z =>
    obtain ⟨z', i, hi, hiz, hzr, hzR⟩ := zeroA_sound (E := E) (ra := ra) (ι := ι) (w := w) hz
    simp only [hz] at h
    cases hc : cellsOfV z with
    | none => simp [hc] at h
    | some cells =>
      have hcells := rel_cells hzR hc
      cases hu : P.underlying t with
      | none => simp [hc, hu] at h
      | some td =>
        simp only [hc, hu] at h
        split at h
        · rename_i cells0 fs e1 e2
          simp only [Option.some.injEq] at e1 e2
          subst e1; subst e2
          cases hall : fs.toList.all fun f => (P.info? f.type).isSome with
          | false => simp [hall] at h
          | true =>
            simp only [hall] at h
            cases hf : fillA (placeOf P fs) cells parts with
            | none => simp [hf] at h
            | some cs =>
              simp only [hf, Option.some.injEq] at h
              subst h
              obtain ⟨cs', k1, k2⟩ := fillA_sound parts parts'.toList cells z'.cells cs hcells he hp hf
              have hm := run_mapM (P := P) (w := w) (fun f : Field => Prod.mk f.offset <$> sizeOf f.type) (fun f => (f.offset, P.cellsOf f.type)) fs (fun f hf => by
                have := List.all_eq_true.1 hall f hf
                cases hfi : P.info? f.type with
                | none => simp [hfi] at this
                | some inf => simp [run_sizeOf hfi, Program.cellsOf, hfi])
              have k1' := fill_congr (p := ((fs.map fun f => (f.offset, P.cellsOf f.type))[·]?)) parts'.toList z'.cells cs' (fun i x hx => by
                unfold placeOf at hx
                cases hfi : fs[i]? with
                | none => simp [hfi] at hx
                | some f =>
                  cases hff : P.info? f.type with
                  | none => simp [hfi, hff] at hx
                  | some inf => simp only [hfi, hff, Option.some.injEq] at hx; subst hx; simp [hfi, Program.cellsOf, hff]) k1
              refine ⟨.agg cs', ?_, by simpa using Rel.agg k2⟩
              have k1'' : Instr.fill (fun x => Option.map (fun f : Field => (f.offset, P.cellsOf f.type)) fs[x]?) z'.cells parts'.toList = some cs' := by rw [← k1']; simp
              simp [Instr.build, hzr, run_underlying hu, hm, k1'']
        · rename_i cells0 n e e1 e2
          simp only [Option.some.injEq] at e1 e2
          subst e1; subst e2
          cases hei : P.info? e with
          | none => simp [hei] at h
          | some inf =>
            simp only [hei] at h
            cases hf : fillA (fun i => some (i * inf.size, inf.size)) cells parts with
            | none => simp [hf] at h
            | some cs =>
              simp only [hf, Option.some.injEq] at h
              subst h
              obtain ⟨cs', k1, k2⟩ := fillA_sound parts parts'.toList cells z'.cells cs hcells he hp hf
              refine ⟨.agg cs', ?_, by simpa using Rel.agg k2⟩
              simp [Instr.build, hzr, run_underlying hu, run_sizeOf hei, k1]
        · simp at h

/-! ### Numbers' conversions, lengths, the least, the greatest -/
section
variable (P)
def lenA (ts : Array TypeId) (x : AVal) : Option AVal :=
  match (ts[0]?).bind P.underlying, x with
  | some .string, .str s => some (.int .i64 s.size)
  | some (.array n _), _ => some (.int .i64 n)
  | some (.slice _), .nils => some (.int .i64 0)
  | some (.slice _), .slice _ n _ => some (.int .i64 n)
  | some (.pointer arr), _ => match P.underlying arr with
    | some (.array n _) => some (.int .i64 n)
    | _ => none
  | _, _ => none

def capA (ts : Array TypeId) (x : AVal) : Option AVal :=
  match (ts[0]?).bind P.underlying, x with
  | some (.array n _), _ => some (.int .i64 n)
  | some (.slice _), .nils => some (.int .i64 0)
  | some (.slice _), .slice _ _ (some n) => some (.int .i64 n)
  | _, _ => none

def minA : AVal → AVal → Option AVal
  | .int k x, .int _ y => some (.int k (if y < x then y else x))
  | _, _ => none

def maxA : AVal → AVal → Option AVal
  | .int k x, .int _ y => some (.int k (if y > x then y else x))
  | _, _ => none

def foldA (f : AVal → AVal → Option AVal) : AVal → List AVal → Option AVal
  | a, [] => some a
  | a, b :: l => match f a b with
    | some c => foldA f c l
    | none => none
end

theorem lenA_sound {ι : Inj} {w : World} {ts : Array TypeId} {ty : TypeId} {x v : AVal} {x' : Value} (hx : Rel E ra ι x x') (h : lenA P ts x = some v) : ∃ v', (Builtin.len_ ts ty #[x']).run P w = .ok v' w ∧ Rel E ra ι v v' := by
  unfold lenA at h
  cases ht : ts[0]? with
  | none => simp [ht] at h
  | some t =>
    simp only [ht, Option.bind_some] at h
    cases hu : P.underlying t with
    | none => simp [hu] at h
    | some td =>
      simp only [hu] at h
      split at h
      · rename_i e1; simp only [Option.some.injEq] at e1; subst e1; cases hx; simp only [Option.some.injEq] at h; subst h
        exact ⟨_, by simp [Builtin.len_, ht, run_underlying hu, goInt], .int _ _⟩
      · rename_i e1; simp only [Option.some.injEq] at e1; subst e1; simp only [Option.some.injEq] at h; subst h
        exact ⟨_, by simp [Builtin.len_, ht, run_underlying hu, goInt], .int _ _⟩
      · rename_i e1; simp only [Option.some.injEq] at e1; subst e1; cases hx; simp only [Option.some.injEq] at h; subst h
        exact ⟨_, by simp [Builtin.len_, ht, run_underlying hu, goInt], .int _ _⟩
      · rename_i e1; simp only [Option.some.injEq] at e1; subst e1; cases hx; simp only [Option.some.injEq] at h; subst h
        exact ⟨_, by simp [Builtin.len_, ht, run_underlying hu, goInt], .int _ _⟩
      · rename_i arr e1; simp only [Option.some.injEq] at e1; subst e1
        cases hu2 : P.underlying arr with
        | none => simp [hu2] at h
        | some td2 =>
          simp only [hu2] at h
          split at h
          · rename_i e2; simp only [Option.some.injEq] at e2; subst e2; simp only [Option.some.injEq] at h; subst h
            exact ⟨_, by simp [Builtin.len_, ht, run_underlying hu, run_underlying hu2, goInt], .int _ _⟩
          · cases h
      · cases h

theorem capA_sound {ι : Inj} {w : World} {ts : Array TypeId} {ty : TypeId} {x v : AVal} {x' : Value} (hx : Rel E ra ι x x') (h : capA P ts x = some v) : ∃ v', (Builtin.cap_ ts ty #[x']).run P w = .ok v' w ∧ Rel E ra ι v v' := by
  unfold capA at h
  cases ht : ts[0]? with
  | none => simp [ht] at h
  | some t =>
    simp only [ht, Option.bind_some] at h
    cases hu : P.underlying t with
    | none => simp [hu] at h
    | some td =>
      simp only [hu] at h
      split at h
      · rename_i e1; simp only [Option.some.injEq] at e1; subst e1; simp only [Option.some.injEq] at h; subst h
        exact ⟨_, by simp [Builtin.cap_, ht, run_underlying hu, goInt], .int _ _⟩
      · rename_i e1; simp only [Option.some.injEq] at e1; subst e1; cases hx; simp only [Option.some.injEq] at h; subst h
        exact ⟨_, by simp [Builtin.cap_, ht, run_underlying hu, goInt], .int _ _⟩
      · rename_i e1; simp only [Option.some.injEq] at e1; subst e1; cases hx with | slice hS hNm => simp only [Option.some.injEq] at h; subst h; have := hS.2.1 _ rfl; subst this; exact ⟨_, by simp [Builtin.cap_, ht, run_underlying hu, goInt], .int _ _⟩
      · cases h

theorem minA_sound {ι : Inj} {w : World} {a b v : AVal} {a' b' : Value} (ha : Rel E ra ι a a') (hb : Rel E ra ι b b') (h : minA a b = some v) : ∃ v', (Builtin.min2 a' b').run P w = .ok v' w ∧ Rel E ra ι v v' := by
  unfold minA at h
  split at h
  · cases ha; cases hb; simp only [Option.some.injEq] at h; subst h; exact ⟨_, rfl, .int _ _⟩
  · cases h

theorem maxA_sound {ι : Inj} {w : World} {a b v : AVal} {a' b' : Value} (ha : Rel E ra ι a a') (hb : Rel E ra ι b b') (h : maxA a b = some v) : ∃ v', (Builtin.max2 a' b').run P w = .ok v' w ∧ Rel E ra ι v v' := by
  unfold maxA at h
  split at h
  · cases ha; cases hb; simp only [Option.some.injEq] at h; subst h; exact ⟨_, rfl, .int _ _⟩
  · cases h

theorem foldA_sound {ι : Inj} {w : World} {f : AVal → AVal → Option AVal} {g : Value → Value → Sem Value} (hfg : ∀ a b v a' b', Rel E ra ι a a' → Rel E ra ι b b' → f a b = some v → ∃ v', (g a' b').run P w = .ok v' w ∧ Rel E ra ι v v') :
    ∀ (l : List AVal) (l' : List Value) (a : AVal) (a' : Value) (v : AVal), Rel E ra ι a a' → RelL E ra ι l l' → foldA f a l = some v → ∃ v', (l'.foldlM g a').run P w = .ok v' w ∧ Rel E ra ι v v'
  | [], l', a, a', v, ha, hl, h => by
    cases hl; simp only [foldA, Option.some.injEq] at h; subst h; exact ⟨a', by simp, ha⟩
  | b :: l, l', a, a', v, ha, hl, h => by
    cases hl with | cons hb hl =>
    simp only [foldA] at h
    cases hf : f a b with
    | none => simp [hf] at h
    | some c =>
      simp only [hf] at h
      obtain ⟨c', hc1, hc2⟩ := hfg _ _ _ _ _ ha hb hf
      obtain ⟨v', hv1, hv2⟩ := foldA_sound hfg l _ c c' v hc2 hl h
      exact ⟨v', by simp [hc1, hv1], hv2⟩

end Go.Proofs.Ytohdkgdaccoohaa.Ab
