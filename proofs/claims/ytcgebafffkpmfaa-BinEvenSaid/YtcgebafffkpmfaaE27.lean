/- Tabs: the rows of slices that a law takes. -/
import Derived.Test.YtcgebafffkpmfaaE26
namespace Go.Proofs.Ytcgebafffkpmfaa.Ab
open Go.ChangeShapes Go.WideShapes

variable {P : Program} {base : Nat}

def gI : Value → Int
  | .int _ n => n
  | _ => 0
def gB : Value → Bool
  | .bool b => b
  | _ => false
def gS : Value → ByteArray
  | .string s => s
  | _ => ByteArray.empty
/-- a slice's length, its place -/
def gL : Value → Nat
  | .slice (some _) len _ => len
  | _ => 0
def gA : Value → Addr
  | .slice (some a) _ _ => a
  | _ => ⟨0, 0, none⟩
/-- a slice, as it is told -/
def gV (tid par : Nat) : Value → AVal
  | .slice (some _) len _ => .slice (.ro tid par 0 0) len none
  | _ => .nils

def cellAt (w : World) (v : Value) (j : Nat) : Value := (w.cell? ⟨(gA v).block, (gA v).off + j, none⟩).getD (.bool false)

def ints (w : World) (v : Value) (st j : Nat) : List Int := (List.range (gL v)).map fun i => gI (cellAt w v (i * st + j))
def bools (w : World) (v : Value) (st j : Nat) : List Bool := (List.range (gL v)).map fun i => gB (cellAt w v (i * st + j))
def strs (w : World) (v : Value) (st j : Nat) : List ByteArray := (List.range (gL v)).map fun i => gS (cellAt w v (i * st + j))
def subs (w : World) (v : Value) (st j tid : Nat) : List AVal := (List.range (gL v)).map fun i => gV tid i (cellAt w v (i * st + j))

def sublen (w : World) (v : Value) (st j : Nat) : List Nat := (List.range (gL v)).map fun i => gL (cellAt w v (i * st + j))
/-- is a slice nil? -/
def gN : Value → Bool
  | .slice (some _) _ _ => false
  | _ => true
def subnil (w : World) (v : Value) (st j : Nat) : List Bool := (List.range (gL v)).map fun i => gN (cellAt w v (i * st + j))

theorem gV_eq (tid par : Nat) (v : Value) : gV tid par v = match gN v with
    | true => .nils
    | false => .slice (.ro tid par 0 0) (gL v) none := by
  unfold gV
  split
  · rfl
  · rename_i h
    have : gN v = true := by
      unfold gN
      split
      · exact absurd rfl (h _ _ _)
      · rfl
    rw [this]

/-- a column -/
def colK (w : World) (v : Value) (st : Nat) (ch : Nat → Nat) (j : Nat) : CK → Col
  | .int k => .int k (ints w v st j)
  | .bool => .bool (bools w v st j)
  | .str => .str (strs w v st j)
  | .slice _ => .subs (ch j) (sublen w v st j) (subnil w v st j)

def colsK (w : World) (v : Value) (st : Nat) (ch : Nat → Nat) : Nat → List CK → List Col
  | _, [] => []
  | j, k :: ks => colK w v st ch j k :: colsK w v st ch (j + 1) ks

/-- the rows of a slice -/
def segK (w : World) (v : Value) (ch : Nat → Nat) (ks : List CK) : Seg := ⟨gL v, ks.length, colsK w v ks.length ch 0 ks⟩

theorem colsK_length (w : World) (v : Value) (st : Nat) (ch : Nat → Nat) : ∀ (ks : List CK) (j : Nat), (colsK w v st ch j ks).length = ks.length
  | [], _ => rfl
  | _ :: ks, j => by simp [colsK, colsK_length w v st ch ks (j + 1)]

theorem colK_len (w : World) (v : Value) (st : Nat) (ch : Nat → Nat) (j : Nat) (k : CK) : (colK w v st ch j k).len = gL v := by
  cases k <;> simp [colK, Col.len, ints, bools, strs, sublen]

theorem colsK_get (w : World) (v : Value) (st : Nat) (ch : Nat → Nat) : ∀ (ks : List CK) (j i : Nat), (colsK w v st ch j ks)[i]? = (ks[i]?).map (colK w v st ch (j + i))
  | [], _, _ => by simp [colsK]
  | k :: ks, j, 0 => by simp [colsK]
  | k :: ks, j, i + 1 => by
    simp only [colsK, List.getElem?_cons_succ]
    rw [colsK_get w v st ch ks (j + 1) i, show j + 1 + i = j + (i + 1) by omega]

theorem segK_WF (w : World) (v : Value) (ch : Nat → Nat) (ks : List CK) : (segK w v ch ks).WF := by
  refine ⟨colsK_length w v _ ch ks 0, fun c hc => ?_⟩
  obtain ⟨i, hi, rfl⟩ := List.getElem_of_mem hc
  have : (segK w v ch ks).cols[i]? = _ := colsK_get w v ks.length ch ks 0 i
  rw [List.getElem?_eq_getElem hi] at this
  cases hk : ks[i]? with
  | none => rw [hk] at this; cases this
  | some k =>
    rw [hk] at this
    simp only [Option.map_some, Option.some.injEq] at this
    rw [this]; exact colK_len w v _ ch _ k

section
variable {H : Type} {enc : TypeId × Value → H} {w : World}

theorem cells_get {a : Addr} {n : Nat} {cs : List Value} (h : w.cells? 0 a n = some cs) : cs.length = n ∧ ∀ i, i < n → w.cell? (a.add i) = cs[i]? := by
  unfold World.cells? at h
  rw [if_pos (Nat.zero_le _)] at h
  exact ⟨by simpa using mapM_some_length h, fun i hi => mapM_some_get h i i (by simp [hi])⟩

theorem cell_spot {a : Addr} {c : Value} (h : w.cell? a = some c) : a.spot = none ∧ a.block < w.heap.size := by
  unfold World.cell? at h
  split at h
  · rename_i cs t f hc
    split at h
    · cases h
    · rename_i hs
      refine ⟨by simpa using hs, ?_⟩
      rcases Nat.lt_or_ge a.block w.heap.size with h' | h'
      · exact h'
      · simp [Array.getElem?_eq_none h'] at hc
  · cases h

/-- a slice whose rows are such: each cell can be read, and is what it is said to be -/
theorem row_cells {e : TypeId} {ks : List CK} (hk : kinds P 20 e = some ks) (hc : P.cellsOf e = ks.length) (hpos : 0 < ks.length) {a : Addr} {cap fuel : Nat}
    (hr : ∀ i, i < cap → ∃ cs x, w.cells? 0 (a.add (i * P.cellsOf e)) (P.cellsOf e) = some cs ∧ DataW.trod enc P w 0 (fun _ => true) true fuel e cs = some x) (hcap : 0 < cap) :
    a.spot = none ∧ a.block < w.heap.size ∧ ∀ i j k, i < cap → ks[j]? = some k → ∃ c, w.cell? ⟨a.block, a.off + (i * ks.length + j), none⟩ = some c ∧ OpenC enc P w k c := by
  have h0 : a.spot = none ∧ a.block < w.heap.size := by
    obtain ⟨cs, x, h1, _⟩ := hr 0 hcap
    rw [hc] at h1
    obtain ⟨h2, h3⟩ := cells_get h1
    have := h3 0 hpos
    rw [List.getElem?_eq_getElem (by omega)] at this
    simpa [Addr.add] using cell_spot this
  refine ⟨h0.1, h0.2, fun i j k hi hj => ?_⟩
  obtain ⟨cs, x, h1, h2⟩ := hr i hi
  rw [hc] at h1
  obtain ⟨h3, h4⟩ := cells_get h1
  have hop := opened 20 e ks hk fuel cs x (by rw [h3, hc]) h2
  obtain ⟨c, g1, g2⟩ := hop.get hj
  have hjl : j < ks.length := by
    rcases Nat.lt_or_ge j ks.length with h' | h'
    · exact h'
    · simp [List.getElem?_eq_none h'] at hj
  refine ⟨c, ?_, g2⟩
  rw [← g1, ← h4 j hjl]
  congr 1
  obtain ⟨b, o, s⟩ := a
  simp only at h0
  rw [h0.1]
  simp only [Addr.add]
  by_cases e1 : i * ks.length = 0 <;> by_cases e2 : j = 0 <;> simp [e1, e2] <;> omega

/-- the tables of what a law takes: each is a slice's rows; 'ch' leads from a table's column to the table of the slices that stand there -/
structure Tabs (enc : TypeId × Value → H) (P : Program) (w : World) (val : Nat → Nat → Value) (et : Nat → TypeId) (kt : Nat → List CK) (ch : Nat → Nat → Nat) : Prop where
  kinds : ∀ t, kinds P 20 (et t) = some (kt t) ∧ P.cellsOf (et t) = (kt t).length ∧ 0 < (kt t).length
  opens : ∀ t p, OpenC enc P w (.slice (et t)) (val t p)
  kids : ∀ t p i j e, i < gL (val t p) → (kt t)[j]? = some (.slice e) → val (ch t j) i = cellAt w (val t p) (i * (kt t).length + j)

def tabE (w : World) (val : Nat → Nat → Value) (kt : Nat → List CK) (ch : Nat → Nat → Nat) (t p : Nat) : Seg := segK w (val t p) (ch t) (kt t)
def tabR (val : Nat → Nat → Value) (t p : Nat) : Nat × Nat := ((gA (val t p)).block, (gA (val t p)).off)

variable {val : Nat → Nat → Value} {et : Nat → TypeId} {kt : Nat → List CK} {ch : Nat → Nat → Nat}

theorem Tabs.shape (T : Tabs enc P w val et kt ch) (t p : Nat) : val t p = .slice none 0 0 ∨ ∃ (a : Addr) (len cap : Nat), val t p = .slice (some a) len cap ∧ len ≤ cap ∧ (0 < cap → a.spot = none ∧ a.block < w.heap.size ∧
    ∀ i j k, i < cap → (kt t)[j]? = some k → ∃ c, w.cell? ⟨a.block, a.off + (i * (kt t).length + j), none⟩ = some c ∧ OpenC enc P w k c) := by
  rcases T.opens t p with h | ⟨a, len, cap, fuel, h1, h2, h3, h4⟩
  · exact .inl h
  · obtain ⟨k1, k2, k3⟩ := T.kinds t
    exact .inr ⟨a, len, cap, h1, h2, fun hc => row_cells k1 k2 k3 h4 hc⟩

/-- a slice that stands in a table, as it is told -/
theorem Tabs.rel (T : Tabs enc P w val et kt ch) (t p : Nat) {ι : Inj} : Rel (tabE w val kt ch) (tabR val) ι (gV t p (val t p)) (val t p) := by
  rcases T.shape t p with h | ⟨a, len, cap, h1, h2, h3⟩
  · rw [h]; exact .nils
  · rw [h1]
    refine .slice ⟨h2, fun c hc => (by cases hc), ?_⟩ trivial
    rcases Nat.eq_zero_or_pos cap with h | h
    · exact .inl h
    · refine .inr ?_
      obtain ⟨g1, _, _⟩ := h3 h
      obtain ⟨b, o, s⟩ := a
      simp only at g1
      subst g1
      simp [tabR, h1, gA]

theorem cellOf_seg {s : Seg} {j : Nat} {v : AVal} (h : cellOf [s] j = some v) : j < s.n * s.st ∧ ∃ c, s.cols[j % s.st]? = some c ∧ v = colAt c (j / s.st) := by
  simp only [cellOf] at h
  split at h
  · rename_i hb
    have := Nat.le_of_ble_eq_true hb
    split at h
    · rename_i c hc
      simp only [Option.some.injEq] at h
      exact ⟨by omega, c, hc, h.symm⟩
    · cases h
  · cases h

theorem getD_map_range {α : Type} {f : Nat → α} {n i : Nat} (d : α) (h : i < n) : ((List.range n).map f).getD i d = f i := by
  simp [List.getD_eq_getElem?_getD, h]

theorem gV_plain (t p : Nat) (v : Value) : usesV (fun _ => false) (gV t p v) = true := by
  unfold gV
  split
  · rw [usesV]; rfl
  · rw [usesV]

theorem colK_plain {w : World} {v : Value} {st : Nat} {ch : Nat → Nat} {j : Nat} {k : CK} (r : Nat) : usesV (fun _ => false) (colAt (colK w v st ch j k) r) = true := by
  cases k with
  | int k => simp only [colK, colAt]; rw [usesV]
  | bool => simp only [colK, colAt]; rw [usesV]
  | str => simp only [colK, colAt]; rw [usesV]
  | slice e =>
    simp only [colK, colAt]
    split
    · rw [usesV]
    · rw [usesV]; rfl

theorem tabE_plain (w : World) (val : Nat → Nat → Value) (kt : Nat → List CK) (ch : Nat → Nat → Nat) : Plain (tabE w val kt ch) := by
  intro t p j v hv
  obtain ⟨_, c, hc, rfl⟩ := cellOf_seg hv
  simp only [tabE, segK] at hc
  rw [colsK_get] at hc
  cases hk : (kt t)[j % (kt t).length]? with
  | none => rw [hk] at hc; cases hc
  | some k =>
    rw [hk] at hc
    simp only [Option.map_some, Option.some.injEq] at hc
    subst hc
    exact colK_plain _

/-- Nothing is the heap's yet; the tables stand in the world. -/
theorem Tabs.start (T : Tabs enc P w val et kt ch) : WRel (tabE w val kt ch) (tabR val) w.heap.size (fun _ => none) [] w := by
  refine .start (fun t p h => ?_) (fun t p => segK_WF _ _ _ _) fun t p j v hv => ?_
  · rcases T.shape t p with h0 | ⟨a, len, cap, h1, h2, h3⟩
    · simp [tabE, segK, h0, gL] at h
    · simp only [tabE, segK, h1, gL] at h
      simp only [tabR, h1, gA]
      exact (h3 (by omega)).2.1
  · obtain ⟨hj, c, hc, rfl⟩ := cellOf_seg hv
    simp only [tabE, segK] at hj hc ⊢
    rw [colsK_get] at hc
    obtain ⟨_, _, k3⟩ := T.kinds t
    have hi : j / (kt t).length < gL (val t p) := (Nat.div_lt_iff_lt_mul k3).2 hj
    have hdm : j / (kt t).length * (kt t).length + j % (kt t).length = j := by rw [Nat.mul_comm]; exact Nat.div_add_mod _ _
    cases hk : (kt t)[j % (kt t).length]? with
    | none => rw [hk] at hc; cases hc
    | some k =>
      rw [hk] at hc
      simp only [Option.map_some, Option.some.injEq] at hc
      subst hc
      rcases T.shape t p with h0 | ⟨a, len, cap, h1, h2, h3⟩
      · exfalso; rw [h0] at hi; exact Nat.not_lt_zero _ hi
      · have hi' : j / (kt t).length < cap := by
          have := hi
          simp only [h1, gL] at this
          exact Nat.lt_of_lt_of_le this h2
        obtain ⟨g1, g2, g3⟩ := h3 (Nat.lt_of_le_of_lt (Nat.zero_le _) hi')
        obtain ⟨c, g4, g5⟩ := g3 _ _ k hi' hk
        have hat : cellAt w (val t p) (j / (kt t).length * (kt t).length + j % (kt t).length) = c := by
          simp only [cellAt, h1, gA, g4, Option.getD_some]
        refine ⟨c, by simp only [tabR, h1, gA]; rw [hdm] at g4; exact g4, ?_⟩
        cases k with
        | int q =>
          obtain ⟨n, rfl, _⟩ := g5
          simp only [Nat.zero_add, colK, colAt, ints]
          rw [getD_map_range 0 hi, hat]
          exact .int _ _
        | bool =>
          obtain ⟨n, rfl⟩ := g5
          simp only [Nat.zero_add, colK, colAt, bools]
          rw [getD_map_range false hi, hat]
          exact .bool _
        | str =>
          obtain ⟨n, rfl, _⟩ := g5
          simp only [Nat.zero_add, colK, colAt, strs]
          rw [getD_map_range ByteArray.empty hi, hat]
          exact .str _
        | slice e =>
          simp only [Nat.zero_add, colK, colAt, sublen, subnil]
          rw [getD_map_range true hi, getD_map_range 0 hi, hat]
          have hkid := T.kids t p _ _ e hi hk
          rw [hat] at hkid
          have := T.rel (ch t (j % (kt t).length)) (j / (kt t).length) (ι := fun _ => none)
          rw [hkid, gV_eq] at this
          exact this

theorem gL_le (T : Tabs enc P w val et kt ch) {t p j : Nat} {q : IntKind} (hk : (kt t)[j]? = some (.int q)) : ∀ v ∈ ints w (val t p) (kt t).length j, (Lit.int q v).wf = true := by
  intro v hv
  obtain ⟨i, hi, rfl⟩ := List.mem_map.1 hv
  have hi := List.mem_range.1 hi
  rcases T.shape t p with h0 | ⟨a, len, cap, h1, h2, h3⟩
  · simp [h0, gL] at hi
  · have hi' : i < cap := by simp only [h1, gL] at hi; omega
    obtain ⟨g1, g2, g3⟩ := h3 (by omega)
    obtain ⟨c, g4, n, rfl, g6⟩ := g3 _ _ _ hi' hk
    simp only [cellAt, h1, gA, g4, Option.getD_some, gI]
    exact g6
end

end Go.Proofs.Ytcgebafffkpmfaa.Ab
