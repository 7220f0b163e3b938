/- Stores, new variables, made and built slices, texts and bytes: against the model's. -/
import Derived.Test.YtohdkgdaccoohaaE08
import Derived.Laws.MakeOwn
import Derived.Laws.BytesArg
namespace Go.Proofs.Ytohdkgdaccoohaa.Ab

variable {P : Program} {E : Nat → Nat → Seg} {ra : Nat → Nat → Nat × Nat} {base : Nat}

/-! ### Columns out of cells -/
def intsOf (k : IntKind) : List AVal → Option (List Int)
  | [] => some []
  | .int k' x :: l => match decide (k' = k), intsOf k l with
    | true, some xs => some (x :: xs)
    | _, _ => none
  | _ :: _ => none

def boolsOf : List AVal → Option (List Bool)
  | [] => some []
  | .bool x :: l => match boolsOf l with
    | some xs => some (x :: xs)
    | none => none
  | _ :: _ => none

def strsOf : List AVal → Option (List ByteArray)
  | [] => some []
  | .str x :: l => match strsOf l with
    | some xs => some (x :: xs)
    | none => none
  | _ :: _ => none

def colFrom (l : List AVal) : Col :=
  match l with
  | .int k _ :: _ => match intsOf k l with
    | some xs => .int k xs
    | none => .val l
  | .bool _ :: _ => match boolsOf l with
    | some xs => .bool xs
    | none => .val l
  | .str _ :: _ => match strsOf l with
    | some xs => .str xs
    | none => .val l
  | _ => .val l

theorem intsOf_map {k : IntKind} : ∀ {l : List AVal} {xs : List Int}, intsOf k l = some xs → l = xs.map (.int k)
  | [], xs, h => by simp only [intsOf, Option.some.injEq] at h; subst h; rfl
  | v :: l, xs, h => by
    cases v <;> simp only [intsOf] at h <;> try (cases h; done)
    rename_i k' x
    by_cases hk : k' = k
    · subst hk
      cases hl : intsOf k' l with
      | none => simp [hl] at h
      | some ys =>
        simp only [hl, decide_true, Option.some.injEq] at h
        subst h; simp [intsOf_map hl]
    · simp [hk] at h

theorem boolsOf_map : ∀ {l : List AVal} {xs : List Bool}, boolsOf l = some xs → l = xs.map .bool
  | [], xs, h => by simp only [boolsOf, Option.some.injEq] at h; subst h; rfl
  | v :: l, xs, h => by
    cases v <;> simp only [boolsOf] at h <;> try (cases h; done)
    cases hl : boolsOf l with
    | none => simp [hl] at h
    | some ys => simp only [hl, Option.some.injEq] at h; subst h; simp [boolsOf_map hl]

theorem strsOf_map : ∀ {l : List AVal} {xs : List ByteArray}, strsOf l = some xs → l = xs.map .str
  | [], xs, h => by simp only [strsOf, Option.some.injEq] at h; subst h; rfl
  | v :: l, xs, h => by
    cases v <;> simp only [strsOf] at h <;> try (cases h; done)
    cases hl : strsOf l with
    | none => simp [hl] at h
    | some ys => simp only [hl, Option.some.injEq] at h; subst h; simp [strsOf_map hl]

theorem colFrom_at (l : List AVal) : (colFrom l).len = l.length ∧ ∀ r, r < l.length → colAt (colFrom l) r = l.getD r .undef := by
  have hval : (Col.val l).len = l.length ∧ ∀ r, r < l.length → colAt (.val l) r = l.getD r .undef := ⟨rfl, fun r _ => rfl⟩
  unfold colFrom
  split
  · rename_i k x t
    cases h : intsOf k (.int k x :: t) with
    | none => exact hval
    | some xs =>
      simp only [intsOf_map h]
      refine ⟨by simp [Col.len], fun r hr => ?_⟩
      simp only [List.length_map] at hr
      simp [colAt, hr]
  · rename_i x t
    cases h : boolsOf (.bool x :: t) with
    | none => exact hval
    | some xs =>
      simp only [boolsOf_map h]
      refine ⟨by simp [Col.len], fun r hr => ?_⟩
      simp only [List.length_map] at hr
      simp [colAt, hr]
  · rename_i x t
    cases h : strsOf (.str x :: t) with
    | none => exact hval
    | some xs =>
      simp only [strsOf_map h]
      refine ⟨by simp [Col.len], fun r hr => ?_⟩
      simp only [List.length_map] at hr
      simp [colAt, hr]
  · exact hval

def segFrom (n st : Nat) (cs : List AVal) : Seg :=
  { n, st, cols := (List.range st).map fun c => colFrom ((List.range n).map fun r => cs.getD (r * st + c) .undef) }

theorem segFrom_wf (n st : Nat) (cs : List AVal) : (segFrom n st cs).WF := by
  refine ⟨by simp [segFrom], fun c hc => ?_⟩
  simp only [segFrom, List.mem_map] at hc
  obtain ⟨i, _, rfl⟩ := hc
  simp [(colFrom_at _).1, segFrom]

theorem segFrom_cell {n st : Nat} {cs : List AVal} {l : List Seg} {j : Nat} (h : j < n * st) : cellOf (segFrom n st cs :: l) j = some (cs.getD j .undef) := by
  have hp : 0 < st := by
    rcases Nat.eq_zero_or_pos st with h0 | h0
    · subst h0; simp at h
    · exact h0
  have hq : j / st < n := Nat.div_lt_of_lt_mul (by rw [Nat.mul_comm]; exact h)
  have hm : j % st < st := Nat.mod_lt _ hp
  have e : j % st + j / st * st = j := by rw [Nat.mul_comm]; exact Nat.mod_add_div j st
  have := seg_cell (s := segFrom n st cs) (l := l) (i := j / st) (c := j % st) hq hm
  simp only [segFrom] at this
  rw [e] at this
  rw [segFrom, this]
  simp only [List.getElem?_map, List.getElem?_range hm, Option.map_some]
  rw [(colFrom_at _).2 _ (by simpa using hq)]
  have e2 : j / st * st + j % st = j := by omega
  simp only [List.getD_eq_getElem?_getD, List.getElem?_map, List.getElem?_range hq, Option.map_some, Option.getD_some, e2]

def segsFrom : List (Nat × Nat) → List AVal → List Seg
  | [], _ => []
  | (n, st) :: l, cs => segFrom n st cs :: segsFrom l (cs.drop (n * st))

theorem segsFrom_wf : ∀ (l : List (Nat × Nat)) (cs : List AVal), WFs (segsFrom l cs)
  | [], _ => by intro s hs; simp [segsFrom] at hs
  | (n, st) :: l, cs => by
    intro s hs
    simp only [segsFrom, List.mem_cons] at hs
    rcases hs with rfl | hs
    · exact segFrom_wf _ _ _
    · exact segsFrom_wf l _ s hs

theorem segsFrom_cell : ∀ (l : List (Nat × Nat)) (cs : List AVal) (j : Nat), j < total (segsFrom l cs) → cellOf (segsFrom l cs) j = some (cs.getD j .undef)
  | [], cs, j, h => by simp [segsFrom, total] at h
  | (n, st) :: l, cs, j, h => by
    simp only [segsFrom]
    by_cases hj : j < n * st
    · exact segFrom_cell hj
    · have hn : (segFrom n st cs).n * (segFrom n st cs).st = n * st := rfl
      rw [cellOf_next (by rw [hn]; omega), hn]
      simp only [segsFrom, total, hn] at h
      rw [segsFrom_cell l _ _ (by omega)]
      simp only [List.getD_eq_getElem?_getD, List.getElem?_drop]
      congr 3; omega

section
variable (P)
/-- how the variables of a type lie: an array is a row of its own -/
def layout : Nat → TypeId → Option (List (Nat × Nat))
  | 0, _ => none
  | d + 1, t => match P.underlying t with
    | some (.struct fs) => fs.toList.foldr (fun f acc => match layout d f.type, acc with
      | some l, some r => some (l ++ r)
      | _, _ => none) (some [])
    | some (.array n e) => match P.info? e with
      | some i => some [(n, i.size)]
      | none => none
    | some _ => some [(1, 1)]
    | none => none

def newVarA (t : TypeId) (v : AVal) : AM AVal :=
  match layout P 100 t, cellsOfV v with
  | some ls, some cs => match Nat.ble (total (segsFrom ls cs)) cs.length with
    | true => .alloc (.segs (segsFrom ls cs)) fun id => .pure (.ptr (.own id 0 0 0))
    | false => .fail
  | _, _ => .fail

def allocA (t : TypeId) : AM AVal :=
  match zeroA P t with
  | some z => newVarA P t z
  | none => .fail

def storeA (t : TypeId) (a v : AVal) : AM AVal :=
  match P.info? t, cellsOfV v with
  | some inf, some cs => match Nat.beq cs.length inf.size && (!cs.isEmpty) && cs.all isCell with
    | true => match a with
      | .ptr (.own id off i st) => .read id fun b => match b with
        | .segs l => match Nat.beq st 0 with
          | true => match setFlat l off cs with
            | some l' => .upd id (some (.segs l')) (.pure .undef)
            | none => .fail
          | false => match findRow l off with
            | some (s, _) => match Nat.beq s.st st with
              | true => .need (decide (i < s.n)) (match setRow l off i cs with
                | some l' => .upd id (some (.segs l')) (.pure .undef)
                | none => .fail)
              | false => .fail
            | none => .fail
        | _ => .fail
      | _ => .fail
    | false => .fail
  | _, _ => .fail
end

/-- A new row of cells. -/
theorem alloc_sound {ι : Inj} {h : Log} {w : World} (H : WRel E ra base ι h w) {id : Nat} (hi : id ∉ ids h) {l : List Seg} {cells : Array Value} {el : TypeId} (hw : WFs l) (ht : total l ≤ cells.size)
    (hc : ∀ j v, cellOf l j = some v → ∃ c, cells[j]? = some c ∧ Rel E ra ι v c) {w' : World} (hh : w'.heap = w.heap.push (.cells cells el)) (ho : w'.os = w.os) (htp : w'.tape = w.tape) (hp : w'.output = w.output) :
    WRel E ra base (put ι id (w.heap.size, 0, cells.size)) ((id, some (.segs l)) :: h) w' ∧ Keeps ι h w (put ι id (w.heap.size, 0, cells.size)) ((id, some (.segs l)) :: h) w' := by
  refine H.alloc hi _ hh ho htp hp (.segs l) (0, cells.size) ⟨w.heap.size, 0, cells, el, (0, 0), by simp [put], H.le, ?_, by simp, by omega, hw, fun j v hv => ?_⟩
  · rw [hh]; simp
  · obtain ⟨c, h1, h2⟩ := hc j v hv
    exact ⟨c, by simpa using h1, h2.mono (put_ext (H.fresh hi))⟩

/-- The same, the block a mark behind its end ('[]byte(s)'). -/
theorem alloc_sound_mark {ι : Inj} {h : Log} {w : World} (H : WRel E ra base ι h w) {id : Nat} (hi : id ∉ ids h) {l : List Seg} {cells : Array Value} {el : TypeId} (hw : WFs l) (ht : total l ≤ cells.size)
    (hc : ∀ j v, cellOf l j = some v → ∃ c, cells[j]? = some c ∧ Rel E ra ι v c) {w' : World} (hh : w'.heap = w.heap.push (.cells cells el (cells.size, cells.size + 1))) (ho : w'.os = w.os) (htp : w'.tape = w.tape) (hp : w'.output = w.output) :
    WRel E ra base (put ι id (w.heap.size, 0, cells.size)) ((id, some (.segs l)) :: h) w' ∧ Keeps ι h w (put ι id (w.heap.size, 0, cells.size)) ((id, some (.segs l)) :: h) w' := by
  refine H.alloc hi _ hh ho htp hp (.segs l) (0, cells.size) ⟨w.heap.size, 0, cells, el, (cells.size, cells.size + 1), by simp [put], H.le, ?_, fun j hj => by simp only; omega, by omega, hw, fun j v hv => ?_⟩
  · rw [hh]; simp
  · obtain ⟨c, h1, h2⟩ := hc j v hv
    exact ⟨c, by simpa using h1, h2.mono (put_ext (H.fresh hi))⟩

theorem newVarA_sound {ι : Inj} {h : Log} {w : World} (H : WRel E ra base ι h w) {t : TypeId} {v : AVal} {v' : Value} (hv : Rel E ra ι v v') :
    SoundAt P E ra base ι h w (newVarA P t v) (do pure (.pointer (some (← newVar t v')))) := by
  intro x d r hr
  unfold newVarA at hr
  split at hr
  · rename_i ls cs e1 e2
    cases hb : Nat.ble (total (segsFrom ls cs)) cs.length with
    | false => simp [hb, AM.Runs] at hr
    | true =>
      simp only [hb, AM.Runs] at hr
      obtain ⟨i, d', hi, rfl, rfl, rfl, rfl⟩ := hr
      have hle := Nat.le_of_ble_eq_true hb
      have hcells := rel_cells hv e2
      have hlen := hcells.length
      simp only [Array.length_toList] at hlen
      have := alloc_sound (w' := { w with heap := w.heap.push (.cells v'.cells t) }) H hi (segsFrom_wf ls cs) (cells := v'.cells) (el := t) (by omega) (fun j y hy => by
        have hj := cellOf_lt hy
        rw [segsFrom_cell ls cs j hj] at hy
        simp only [Option.some.injEq] at hy
        subst hy
        have hjl : j < cs.length := by omega
        obtain ⟨c, hc1, hc2⟩ := hcells.get (i := j) (v := cs.getD j .undef) (by simp [hjl])
        exact ⟨c, by simpa using hc1, hc2⟩) rfl rfl rfl rfl
      refine ⟨.pointer (some ⟨w.heap.size, 0, none⟩), _, _, ?_, .ptr ⟨w.heap.size, 0, v'.cells.size, by simp [put], by simp⟩, this⟩
      simp [newVar, newRow]
  · simp [AM.Runs] at hr

theorem allocA_sound {ι : Inj} {h : Log} {w : World} (H : WRel E ra base ι h w) {t : TypeId} : SoundAt P E ra base ι h w (allocA P t) (Instr.alloc t true (.tuple #[])) := by
  intro x d r hr
  unfold allocA at hr
  cases hz : zeroA P t with
  | none => simp [hz, AM.Runs] at hr
  | some z =>
    simp only [hz] at hr
    obtain ⟨z', i, _, _, hzr, hzR⟩ := zeroA_sound (E := E) (ra := ra) (ι := ι) (w := w) hz
    obtain ⟨v', w', ι', h1, h2⟩ := newVarA_sound (P := P) H hzR x d r hr
    refine ⟨v', w', ι', ?_, h2⟩
    simp only [Instr.alloc, Sem.run_bind, hzr, Result.andThen_ok]
    exact h1

theorem boxA_sound {ι : Inj} {h : Log} {w : World} (H : WRel E ra base ι h w) {t : TypeId} {v : AVal} {v' : Value} (hv : Rel E ra ι v v') : SoundAt P E ra base ι h w (newVarA P t v) (Instr.box t v') := newVarA_sound H hv

/-- A store: some cells of a block turn. -/
theorem turn_sound {ι : Inj} {h : Log} {w : World} (H : WRel E ra base ι h w) {id b o sz : Nat} {l l' : List Seg} {at_ : Nat} {cs : List AVal} {vs : List Value} (hv : view h id = some (.segs l)) (hι : ι id = some (b, o, sz))
    (hs : Sets l l' at_ cs) (hR : RelL E ra ι cs vs) (hone : ∀ v ∈ vs, v.oneCell' = true) :
    ∃ w', (storeCells ⟨b, o + at_, none⟩ vs).run P w = .ok () w' ∧ WRel E ra base ι ((id, some (.segs l')) :: h) w' ∧ Keeps ι h w ι ((id, some (.segs l')) :: h) w' := by
  obtain ⟨b', o', cs', el, fz, g1, g2, g3, g4, g5, g6, g7⟩ := H.own id _ hv
  rw [hι] at g1
  simp only [Option.some.injEq, Prod.mk.injEq] at g1
  obtain ⟨rfl, rfl, rfl⟩ := g1
  have hlen := hR.length
  have hfit := hs.fits
  obtain ⟨w', cs2, r1, r2, r3, r4, r5, r6, r7, r8, r9⟩ := run_storeCells' (P := P) el fz b (o + at_) vs 0 w cs' g3 (by omega) g4 hone
  have := H.turn hv hι (B' := .segs l') (fun k hk => r5 k hk) r6 r7 r8 r9 ⟨b, o, cs2, el, fz, by rw [r3]; exact hι, g2, r2, by rw [r3]; exact g4, by rw [hs.tot, r3]; exact g5, hs.wf, fun j v hj => ?_⟩
  · exact ⟨w', r1, this⟩
  · rw [hs.cell] at hj
    rw [r4]
    by_cases hk : at_ ≤ j ∧ j < at_ + cs.length
    · rw [if_pos hk] at hj
      rw [if_pos (by omega)]
      obtain ⟨x, hx, hr⟩ := hR.get hj
      exact ⟨x, by rw [← hx]; congr 1; omega, hr⟩
    · rw [if_neg hk] at hj
      rw [if_neg (by omega)]
      exact g7 j v hj

theorem storeA_sound {ι : Inj} {h : Log} {w : World} (H : WRel E ra base ι h w) {t : TypeId} {a v : AVal} {a' v' : Value} (ha : Rel E ra ι a a') (hv : Rel E ra ι v v') {x : AVal} {d : Log} {r : List Nat}
    (hr : (storeA P t a v).Runs h x d r) : x = .undef ∧ ∃ w', (Instr.storeAt t a' v').run P w = .ok () w' ∧ WRel E ra base ι (d ++ h) w' ∧ Keeps ι h w ι (d ++ h) w' := by
  unfold storeA at hr
  split at hr
  · rename_i inf cs e1 e2
    cases hb : Nat.beq cs.length inf.size && (!cs.isEmpty) && cs.all isCell with
    | false => simp [hb, AM.Runs] at hr
    | true =>
      simp only [hb] at hr
      simp only [Bool.and_eq_true, Bool.not_eq_true'] at hb
      have hsz := Nat.eq_of_beq_eq_true hb.1.1
      have hne : cs ≠ [] := by intro e; subst e; simp at hb
      have hcells := rel_cells hv e2
      have hlen := hcells.length
      simp only [Array.length_toList] at hlen
      have hone : ∀ u ∈ v'.cells.toList, u.oneCell' = true := by
        intro u hu
        obtain ⟨k, hk, rfl⟩ := List.getElem_of_mem hu
        have hk' : k < cs.length := by simpa [hlen] using hk
        obtain ⟨y, hy, hyr⟩ := hcells.get (i := k) (v := cs[k]) (by simp [hk'])
        rw [List.getElem?_eq_getElem hk] at hy
        simp only [Option.some.injEq] at hy
        rw [hy]
        exact rel_oneCell hyr (List.all_eq_true.1 hb.2 _ (List.getElem_mem hk'))
      split at hr
      · rename_i id off i st
        cases ha with | ptr hA =>
        obtain ⟨b, o, sz, hι, rfl⟩ := hA
        simp only [AM.Runs] at hr
        obtain ⟨B, r', hvw, rfl, hr⟩ := hr
        cases B with
        | map es => simp [AM.Runs] at hr
        | loop ts ps as bd s p => simp [AM.Runs] at hr
        | segs l =>
          simp only at hr
          obtain ⟨_, _, _, _, _, _, _, _, _, _, hwf, _⟩ := H.own id _ hvw
          have fin : ∀ l' at_, Sets l l' at_ cs → at_ = off + i * st → (AM.upd id (some (.segs l')) (.pure AVal.undef)).Runs h x d r' →
              x = .undef ∧ ∃ w', (Instr.storeAt t (.pointer (some ⟨b, o + off + i * st, none⟩)) v').run P w = .ok () w' ∧ WRel E ra base ι (d ++ h) w' ∧ Keeps ι h w ι (d ++ h) w' := by
            intro l' at_ hs hat hr
            simp only [AM.Runs] at hr
            obtain ⟨b', d', r2, _, rfl, rfl, rfl, rfl, rfl⟩ := hr
            obtain ⟨w', k1, k2, k3⟩ := turn_sound (P := P) H hvw hι hs hcells hone
            refine ⟨rfl, w', ?_, k2, k3⟩
            have e : o + at_ = o + off + i * st := by omega
            rw [e] at k1
            simp [Instr.storeAt, Instr.sureAddr, storeVar, run_sizeOf e1, show v'.cells.size = inf.size by omega, k1]
          cases hst : Nat.beq st 0 with
          | true =>
            have := Nat.eq_of_beq_eq_true hst
            subst this
            simp only at hr
            cases hsf : setFlat l off cs with
            | none => simp [hsf, AM.Runs] at hr
            | some l' =>
              simp only [hsf] at hr
              exact fin l' off (setFlat_sets hwf (fun e => absurd e hne) hsf) (by omega) hr
          | false =>
            simp only [hst] at hr
            cases hf : findRow l off with
            | none => simp [hf, AM.Runs] at hr
            | some p =>
              obtain ⟨s, c⟩ := p
              simp only [hf] at hr
              cases hst2 : Nat.beq s.st st with
              | false => simp [hst2, AM.Runs] at hr
              | true =>
                have := Nat.eq_of_beq_eq_true hst2
                subst this
                simp only [hst2, AM.Runs] at hr
                obtain ⟨hi, hr⟩ := hr
                have hi' := of_decide_eq_true hi
                cases hsr : setRow l off i cs with
                | none => simp [hsr, AM.Runs] at hr
                | some l' =>
                  simp only [hsr] at hr
                  exact fin l' _ (setRow_sets hwf hf hsr hi' hne) rfl hr
      · simp [AM.Runs] at hr
  · simp [AM.Runs] at hr

/-! ### Slices that are made, and built -/
def colOf (n : Nat) : AVal → Col
  | .int k x => .int k (List.replicate n x)
  | .bool x => .bool (List.replicate n x)
  | .str x => .str (List.replicate n x)
  | v => .val (List.replicate n v)

theorem colOf_at (n : Nat) (v : AVal) : (colOf n v).len = n ∧ ∀ r, r < n → colAt (colOf n v) r = v := by
  unfold colOf
  split <;> exact ⟨by simp [Col.len], fun r hr => by simp [colAt, hr]⟩

def rep {α : Type} (l : List α) : Nat → List α
  | 0 => []
  | n + 1 => l ++ rep l n

section
variable (P)
def makeSliceA (t : TypeId) (len cap : AVal) : AM AVal :=
  match P.underlying t, len, cap with
  | some (.slice e), .int _ l, .int _ c => match P.info? e, (zeroA P e).bind cellsOfV with
    | some inf, some z => match Nat.beq z.length inf.size && Nat.ble inf.bytes 256 with
      | true => .need (decide (0 ≤ l) && decide (l ≤ c) && decide (c ≤ 1099511627776)) <|
        .alloc (.segs [{ n := c.toNat, st := inf.size, cols := z.map (colOf c.toNat) }]) fun id => .pure (.slice (.own id 0 0 inf.size) l.toNat (some c.toNat))
      | false => .fail
    | _, _ => .fail
  | _, _, _ => .fail

def buildSliceA (t : TypeId) (len : Nat) (parts : List (Nat × AVal)) : AM AVal :=
  match P.underlying t with
  | some (.slice e) => match P.info? e, (zeroA P e).bind cellsOfV with
    | some inf, some z => match Nat.beq z.length inf.size && Nat.ble (len * inf.size) 16777216, fillA (fun i => some (i * inf.size, inf.size)) (rep z len) parts with
      | true, some cs => .alloc (.segs [segFrom len inf.size cs]) fun id => .pure (.slice (.own id 0 0 inf.size) len (some len))
      | _, _ => .fail
    | _, _ => .fail
  | _ => .fail
end

theorem relL_rep {ι : Inj} {l : List AVal} {l' : List Value} (h : RelL E ra ι l l') : ∀ n, RelL E ra ι (rep l n) (rep l' n)
  | 0 => .nil
  | n + 1 => h.append (relL_rep h n)

theorem rep_length {α : Type} (l : List α) : ∀ n, (rep l n).length = n * l.length
  | 0 => by simp [rep]
  | n + 1 => by simp [rep, rep_length l n, Nat.add_mul]; omega

theorem rep_get {α : Type} (l : List α) : ∀ (n j : Nat), j < n * l.length → (rep l n)[j]? = l[j % l.length]?
  | 0, j, h => by simp at h
  | n + 1, j, h => by
    rw [Nat.add_mul] at h
    simp only [rep]
    by_cases hj : j < l.length
    · rw [List.getElem?_append_left hj, Nat.mod_eq_of_lt hj]
    · rw [List.getElem?_append_right (by omega), rep_get l n _ (by omega)]
      rw [← Nat.mod_eq_sub_mod (by omega)]

theorem madeCells_get (z : Array Value) (n j : Nat) (h : j < n) : (madeCells z n)[j]? = some (z[j % z.size]!) := by
  simp [madeCells, h]

theorem makeSliceA_sound {ι : Inj} {h : Log} {w : World} (H : WRel E ra base ι h w) {t : TypeId} {l c : AVal} {l' c' : Value} (hl : Rel E ra ι l l') (hc : Rel E ra ι c c') :
    SoundAt P E ra base ι h w (makeSliceA P t l c) (Instr.makeSlice t l' c') := by
  intro x d r hr
  unfold makeSliceA at hr
  split at hr
  · rename_i e kl l0 kc c0 hu
    cases hl; cases hc
    split at hr
    · rename_i inf z e1 e2
      cases hb : Nat.beq z.length inf.size && Nat.ble inf.bytes 256 with
      | false => simp [hb, AM.Runs] at hr
      | true =>
        simp only [hb, AM.Runs] at hr
        obtain ⟨hn, i, d', hi, rfl, rfl, rfl, rfl⟩ := hr
        simp only [Bool.and_eq_true, decide_eq_true_eq] at hn hb
        obtain ⟨⟨h0, h1⟩, h2⟩ := hn
        have hzl := Nat.eq_of_beq_eq_true hb.1
        have hby := Nat.le_of_ble_eq_true hb.2
        cases hz : zeroA P e with
        | none => simp [hz] at e2
        | some zv =>
          simp only [hz, Option.bind_some] at e2
          obtain ⟨z', i', hi', hiz, hzr, hzR⟩ := zeroA_sound (E := E) (ra := ra) (ι := ι) (w := w) hz
          rw [e1] at hi'
          simp only [Option.some.injEq] at hi'
          subst hi'
          have hcells := rel_cells hzR e2
          have hlen := hcells.length
          simp only [Array.length_toList] at hlen
          have hbytes : (inf.bytes : Int) * c0 ≤ 281474976710656 := by
            have a2 : (0 : Int) ≤ c0 := by omega
            have b1 : (inf.bytes : Int) * c0 ≤ 256 * c0 := Int.mul_le_mul_of_nonneg_right (by omega) a2
            omega
          have hrun := run_make (P := P) w t e inf z' hu e1 hiz kl kc l0 c0 h0 h1 hbytes (by omega)
          have hsz := size_madeCells z'.cells (c0.toNat * inf.size)
          have := alloc_sound (w' := w.alloc (.cells (madeCells z'.cells (c0.toNat * inf.size)) e)) (l := [{ n := c0.toNat, st := inf.size, cols := z.map (colOf c0.toNat) }]) H hi (fun s hs => by
              simp only [List.mem_singleton] at hs; subst hs
              refine ⟨by simp [hzl], fun c hc => ?_⟩
              simp only [List.mem_map] at hc
              obtain ⟨v, _, rfl⟩ := hc
              exact (colOf_at _ v).1) (cells := madeCells z'.cells (c0.toNat * inf.size)) (el := e) (by simp [total, hsz]) (fun j v hj => by
              have hlt := cellOf_lt hj
              simp only [total, Nat.add_zero] at hlt
              have hp : 0 < inf.size := by
                rcases Nat.eq_zero_or_pos inf.size with hh | hh
                · rw [hh] at hlt; simp at hlt
                · exact hh
              have hm : j % inf.size < inf.size := Nat.mod_lt _ hp
              have hq : j / inf.size < c0.toNat := Nat.div_lt_of_lt_mul (by rw [Nat.mul_comm]; exact hlt)
              have ecell := seg_cell (s := { n := c0.toNat, st := inf.size, cols := z.map (colOf c0.toNat) }) (l := []) (i := j / inf.size) (c := j % inf.size) hq hm
              simp only [show j % inf.size + j / inf.size * inf.size = j by rw [Nat.mul_comm]; exact Nat.mod_add_div j inf.size] at ecell
              rw [ecell] at hj
              simp only [List.getElem?_map, List.getElem?_eq_getElem (show j % inf.size < z.length by omega), Option.map_some, Option.some.injEq] at hj
              rw [(colOf_at _ _).2 _ hq] at hj
              subst hj
              obtain ⟨y, hy, hyr⟩ := hcells.get (i := j % inf.size) (v := z[j % inf.size]) (by simp)
              refine ⟨y, ?_, hyr⟩
              rw [madeCells_get _ _ _ hlt]
              have hzs : z'.cells.size = inf.size := by omega
              rw [hzs]
              simp only [Array.getElem?_toList] at hy
              rw [getElem!_pos _ _ (by omega)]
              rw [Array.getElem?_eq_getElem (by omega)] at hy
              exact hy) rfl rfl rfl rfl
          refine ⟨_, _, _, hrun, .slice ⟨by omega, fun c hc => by simpa using hc, .inr ⟨w.heap.size, 0, (madeCells z'.cells (c0.toNat * inf.size)).size, by simp [put], by simp, ?_⟩⟩ ⟨_, by simp [put]; rfl⟩, this⟩
          rw [hsz]; simp
    · simp [AM.Runs] at hr
  · simp [AM.Runs] at hr

theorem buildSliceA_sound {ι : Inj} {h : Log} {w : World} (H : WRel E ra base ι h w) {t : TypeId} {len : Nat} {parts : List (Nat × AVal)} {parts' : Array (Nat × Value)} (he : parts'.toList.map (·.1) = parts.map (·.1)) (hp : RelL E ra ι (parts.map (·.2)) (parts'.toList.map (·.2))) :
    SoundAt P E ra base ι h w (buildSliceA P t len parts) (Instr.buildSlice t len parts') := by
  intro x d r hr
  unfold buildSliceA at hr
  split at hr
  · rename_i e hu
    split at hr
    · rename_i inf z e1 e2
      split at hr
      · rename_i cs hb hf
        simp only [AM.Runs] at hr
        obtain ⟨i, d', hi, rfl, rfl, rfl, rfl⟩ := hr
        simp only [Bool.and_eq_true] at hb
        have hzl := Nat.eq_of_beq_eq_true hb.1
        have hle := Nat.le_of_ble_eq_true hb.2
        cases hz : zeroA P e with
        | none => simp [hz] at e2
        | some zv =>
          simp only [hz, Option.bind_some] at e2
          obtain ⟨z', i', hi', hiz, hzr, hzR⟩ := zeroA_sound (E := E) (ra := ra) (ι := ι) (w := w) hz
          have hcells := rel_cells hzR e2
          have hlen := hcells.length
          simp only [Array.length_toList] at hlen
          let C : Array Value := (Array.range (len * inf.size)).map (fun k => (if len * inf.size = 0 then (#[] : Array Value) else z'.cells)[k % (if len * inf.size = 0 then (#[] : Array Value) else z'.cells).size]!)
          have hC : C.toList = rep z'.cells.toList len := by
            apply List.ext_getElem?
            intro k
            by_cases hk : k < len * inf.size
            · have hne : len * inf.size ≠ 0 := by omega
              have hzs : z'.cells.size = inf.size := by omega
              rw [rep_get _ _ _ (by simp [hzs]; exact hk)]
              have hp : 0 < inf.size := by
                rcases Nat.eq_zero_or_pos inf.size with hh | hh
                · rw [hh] at hk; simp at hk
                · exact hh
              have hm : k % inf.size < z'.cells.size := by rw [hzs]; exact Nat.mod_lt _ hp
              simp only [C, hne, if_false, Array.getElem?_toList, Array.getElem?_map, Array.length_toList, hzs]
              rw [show (Array.range (len * inf.size))[k]? = some k by simp [hk], Option.map_some, getElem!_pos z'.cells _ hm, Array.getElem?_eq_getElem hm]
            · rw [List.getElem?_eq_none (by simp [C]; omega), List.getElem?_eq_none (by rw [rep_length]; simp; rw [show z'.cells.size = inf.size by omega]; omega)]
          obtain ⟨cs', k1, k2⟩ := fillA_sound parts parts'.toList (rep z len) C cs (by rw [hC]; exact relL_rep hcells len) he hp hf
          have hl2 := k2.length
          simp only [Array.length_toList] at hl2
          have hcl : len * inf.size ≤ cs.length := by
            have : ∀ (parts : List (Nat × AVal)) (cells cs : List AVal), fillA (fun i => some (i * inf.size, inf.size)) cells parts = some cs → cs.length = cells.length := by
              intro parts
              induction parts with
              | nil => intro cells cs h; simp only [fillA, Option.some.injEq] at h; subst h; rfl
              | cons p parts ih =>
                obtain ⟨i, v⟩ := p
                intro cells cs h
                simp only [fillA] at h
                cases hv : cellsOfV v with
                | none => simp [hv] at h
                | some vs =>
                  simp only [hv] at h
                  cases hb : Nat.beq vs.length inf.size && Nat.ble (i * inf.size + inf.size) cells.length with
                  | false => simp [hb] at h
                  | true =>
                    simp only [hb] at h
                    simp only [Bool.and_eq_true] at hb
                    have h1 := Nat.eq_of_beq_eq_true hb.1
                    have h2 := Nat.le_of_ble_eq_true hb.2
                    rw [ih _ _ h]
                    simp; omega
            rw [this _ _ _ hf, rep_length, hzl]; exact Nat.le_refl _
          have := alloc_sound (w' := { w with heap := w.heap.push (.cells cs' e) }) (l := [segFrom len inf.size cs]) H hi (fun s hs => by
              simp only [List.mem_singleton] at hs; subst hs; exact segFrom_wf _ _ _) (cells := cs') (el := e) (by simp [total, segFrom]; omega) (fun j v hj => by
              have hlt := cellOf_lt hj
              simp only [total, Nat.add_zero, segFrom] at hlt
              rw [segFrom_cell hlt] at hj
              simp only [Option.some.injEq] at hj
              subst hj
              obtain ⟨y, hy, hyr⟩ := k2.get (i := j) (v := cs.getD j .undef) (by simp [show j < cs.length by omega])
              exact ⟨y, by simpa using hy, hyr⟩) rfl rfl rfl rfl
          refine ⟨.slice (some ⟨w.heap.size, 0, none⟩) len len, _, _, ?_, .slice ⟨Nat.le_refl _, fun c hc => by simpa using hc, .inr ⟨w.heap.size, 0, cs'.size, by simp [put], by simp, ?_⟩⟩ ⟨_, by simp [put]; rfl⟩, this⟩
          · by_cases hz0 : len * inf.size = 0
            · simp only [C, hz0, if_true] at k1
              simp [Instr.buildSlice, run_underlying hu, run_sizeOf e1, hz0, newRow]
              simp at k1
              rw [k1]
              simp
            · simp only [C, hz0, if_false] at k1
              have hnot : ¬ (16777216 < len * inf.size) := by omega
              simp [Instr.buildSlice, run_underlying hu, run_sizeOf e1, hz0, hzr, newRow, hnot]
              rw [k1]
              simp
          · simp; omega
      · simp [AM.Runs] at hr
    · simp [AM.Runs] at hr
  · simp [AM.Runs] at hr

end Go.Proofs.Ytohdkgdaccoohaa.Ab
