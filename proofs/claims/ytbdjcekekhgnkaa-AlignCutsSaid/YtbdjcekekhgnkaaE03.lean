/- copy; texts and bytes; conversions: against the model's. One operation that calls no function, as a whole: against the model's 'execOp'. The abstract evaluator of code; what one activation's temporaries and deferred marks are to the model's; a function's results. Calls of functions, rounds of a range over a function, and single operations: against the model's walk. An operation in its place, a region in the order of its text, and a region in any order. A region whose order is drawn: the steps of the text's order, taken in any order that its edges allow. -/
import Derived.Test.YtbdjcekekhgnkaaE02
import Derived.Still
import Derived.MapKept
import Derived.RangeFuncLeaves
import Derived.RangeFuncRecord
import Derived.RangeFuncCalls
import Derived.OrdersIn

namespace Go.Proofs.Ytbdjcekekhgnkaa.Ab

variable {P : Program} {E : Nat → Nat → Seg} {ra : Nat → Nat → Nat × Nat} {base : Nat}

section
variable (P E)
def copyA (ts : Array TypeId) (d x : AVal) : AM AVal :=
  match (ts[0]?).bind P.underlying with
  | some (.slice e) => match P.info? e, lenN d, lenN x with
    | some inf, some dl, some xl => match d with
      | .nils => .pure (.int .i64 0)
      | .slice (.own id 0 i st) _ _ => match Nat.beq st inf.size with
        | true => .read id fun b => match b with
          | .segs [s0] => match Nat.beq s0.st inf.size with
            | true => .need (decide (i + min xl dl ≤ s0.n)) <| (newRowsA E inf.size (min xl dl) x s0.cols).bind fun new => .need (new.all colCells) <| match colsPut s0.cols i new with
              | some cols => .upd id (some (.segs [{ s0 with cols }])) (.pure (.int .i64 (min xl dl : Nat)))
              | none => .fail
            | false => .fail
          | _ => .fail
        | false => .fail
      | _ => .fail
    | _, _, _ => .fail
  | _ => .fail

def toBytesA (s : ByteArray) : AM AVal :=
  .need (decide (s.size ≤ 4294967296)) <| .alloc (.segs [{ n := s.size, st := 1, cols := [.int .u8 (s.data.toList.map fun b => (b.toNat : Int))] }]) fun id => .pure (.slice (.own id 0 0 1) s.size none)

def toTextA (id i len : Nat) : AM AVal :=
  .read id fun b => match b with
    | .segs [s0] => match Nat.beq s0.st 1, s0.cols with
      | true, [.int .u8 xs] => .need (decide (i + len ≤ s0.n)) (.pure (.str (strOfNums ((xs.drop i).take len))))
      | _, _ => .fail
    | _ => .fail

def convA (src dst : TypeId) (x : AVal) : AM AVal :=
  match P.underlying src, P.underlying dst with
  | some s, some d => match d, x with
    | .int k, .int _ n => .pure (.int k (wr k n))
    | .string, .str t => .pure (.str t)
    | .slice e, .str t => match P.underlying e with
      | some (.int .u8) => toBytesA t
      | _ => .fail
    | .string, .nils => match s with
      | .slice e => match P.underlying e with
        | some (.int .u8) => .pure (.str ByteArray.empty)
        | _ => .fail
      | _ => .fail
    | .string, .slice (.own id 0 i 1) len _ => match s with
      | .slice e => match P.underlying e with
        | some (.int .u8) => toTextA id i len
        | _ => .fail
      | _ => .fail
    | _, _ => .fail
  | _, _ => .fail
end

theorem newRowsA_sound' {ι : Inj} {h : Log} {w : World} (H : WRel E ra base ι h w) {sz n m : Nat} {x : AVal} {x' : Value} (hx : Rel E ra ι x x') {like cols : List Col} {d : Log} {r : List Nat} (hr : (newRowsA E sz n x like).Runs h cols d r)
    (hm : lenN x = some m) (hnm : n ≤ m) (hl : like.length = sz) : d = [] ∧ ∃ vs, (∀ w₁ : World, w₁.heap = w.heap → (Builtin.firstCells sz n x').run P w₁ = .ok vs.toArray w₁) ∧ RowsIn E ra ι n sz cols vs := by
  unfold newRowsA at hr
  split at hr
  · have : n = m := by simp only [lenN, Option.some.injEq] at hm; omega
    subst this
    exact newRowsA_sound H hx (by unfold newRowsA; exact hr) hm hl
  · exact rowsA_sound H hx hr (fun a l c e => by subst e; simp only [lenN, Option.some.injEq] at hm; omega)

theorem copyA_sound {ι : Inj} {h : Log} {w : World} (H : WRel E ra base ι h w) {ts : Array TypeId} {ty : TypeId} {s x : AVal} {s' x' : Value} (hs : Rel E ra ι s s') (hx : Rel E ra ι x x') :
    SoundAt P E ra base ι h w (copyA P E ts s x) (Builtin.copy_ ts ty #[s', x']) := by
  intro v d r hr
  unfold copyA at hr
  split at hr
  case h_2 => simp [AM.Runs] at hr
  rename_i e hu
  cases ht : ts[0]? with
  | none => simp [ht] at hu
  | some t =>
  simp only [ht, Option.bind_some] at hu
  split at hr
  case h_2 => simp [AM.Runs] at hr
  rename_i inf dl xl hi hd hxl
  have hlx := lenN_run (P := P) (w := w) hx hxl
  split at hr
  · cases hs
    simp only [lenN, Option.some.injEq] at hd
    subst hd
    simp only [AM.Runs] at hr
    obtain ⟨rfl, rfl, rfl⟩ := hr
    have hf0 : (Builtin.firstCells inf.size 0 x').run P w = .ok ([] : List Value).toArray w := by
      cases hx <;> simp only [lenN] at hxl <;> first | (cases hxl; done) | skip
      all_goals simp [Builtin.firstCells, loadCells, loadCellsFrom]
    refine ⟨.int .i64 0, w, ι, ?_, .int _ _, H, .refl _ _ _⟩
    simp [Builtin.copy_, ht, run_underlying hu, hlx, run_sizeOf hi, hf0, goInt]
  · rename_i id i st len cap
    cases hs with | slice hS hNm =>
    rename_i y cap'
    simp only [lenN, Option.some.injEq] at hd
    subst hd
    cases hst : Nat.beq st inf.size with
    | false => simp [hst, AM.Runs] at hr
    | true =>
    have := Nat.eq_of_beq_eq_true hst
    subst this
    simp only [hst, AM.Runs] at hr
    obtain ⟨B, r', hv, rfl, hr⟩ := hr
    split at hr
    case h_2 => simp [AM.Runs] at hr
    rename_i s0
    cases hss : Nat.beq s0.st inf.size with
    | false => simp [hss, AM.Runs] at hr
    | true =>
    have hse := Nat.eq_of_beq_eq_true hss
    simp only [hss, AM.Runs, runs_bind] at hr
    obtain ⟨hrow, new, d₁, r₁, d₂, r₂, g1, ⟨hcc, hr⟩, rfl, rfl⟩ := hr
    have hrow' := of_decide_eq_true hrow
    obtain ⟨b, o, cs', el, fz, q1, q2, q3, q4, q5, q6, q7⟩ := H.own id _ hv
    have hwf : s0.WF := q6 s0 (by simp)
    obtain ⟨rfl, vs, k1, k2⟩ := newRowsA_sound' (P := P) H hx g1 hxl (Nat.min_le_left _ _) (by rw [hwf.1, hse])
    cases hp : colsPut s0.cols i new with
    | none => simp [hp, AM.Runs] at hr
    | some cols =>
    simp only [hp, AM.Runs] at hr
    obtain ⟨b', d', r3, _, rfl, rfl, rfl, rfl, rfl⟩ := hr
    have hsets := put_sets hwf hp k2.2.2.1 hrow'
    have hR := flatOf_rel k2
    rw [← hse] at hR
    have hone := rows_oneCell k2 hcc
    obtain ⟨w', t1, t2, t3⟩ := turn_sound (P := P) H hv q1 hsets hR hone
    refine ⟨.int .i64 (min xl len : Nat), w', ι, ?_, .int _ _, by simpa using t2, by simpa using t3⟩
    have hstore : (storeCells y vs).run P w = .ok () w' := by
      rcases hS.2.2 with hc0 | ⟨b2, o2, sz2, g4, rfl, g5⟩
      · have h0 : min xl len = 0 := by have := hS.1; omega
        have hvs : vs = [] := List.eq_nil_of_length_eq_zero (by rw [k2.1, h0]; simp)
        subst hvs
        simp only [storeCells] at t1 ⊢
        exact t1
      · rw [q1] at g4
        simp only [Option.some.injEq, Prod.mk.injEq] at g4
        obtain ⟨rfl, rfl, rfl⟩ := g4
        rw [← t1, hse]; rfl
    have hmin : Nat.min xl len = min xl len := rfl
    simp [Builtin.copy_, ht, run_underlying hu, hlx, run_sizeOf hi, hmin, k1 w rfl, hstore, goInt]
  · simp [AM.Runs] at hr

theorem toBytesA_sound {ι : Inj} {h : Log} {w : World} (H : WRel E ra base ι h w) {e : TypeId} {s : ByteArray} : SoundAt P E ra base ι h w (toBytesA s) (Conv.stringToBytes e s) := by
  intro v d r hr
  simp only [toBytesA, AM.Runs] at hr
  obtain ⟨hn, i, d', hi, rfl, rfl, rfl, rfl⟩ := hr
  have hn' := of_decide_eq_true hn
  let cap := (Question.appendCap s.size 0 e).cut (w.tape w.drawn (.appendCap s.size 0 e))
  have hcap : s.size ≤ cap := by simp [cap, Question.cut]
  let cells : Array Value := (s.data.map fun b => Value.int .u8 b.toNat) ++ Array.replicate (cap - s.size) (.int .u8 0)
  have hsz : cells.size = cap := by simp [cells]; show s.size + _ = _; omega
  let w' : World := { w with drawn := w.drawn + 1, heap := w.heap.push (.cells cells e (cells.size, cells.size + 1)) }
  have hrun : (Conv.stringToBytes e s).run P w = .ok (.slice (some ⟨w.heap.size, 0, none⟩) s.size cap) w' := by
    have hforced : (Question.appendCap s.size 0 e).forced = false := rfl
    have hshape : ∀ o : Obj, ∀ x n, (match o with | .cells c el _ => some (el, c.size) | _ => none) = some (x, n) → ({ w with drawn := w.drawn + 1, heap := w.heap.push o } : World).shape? w.heap.size = some (x, n) := by
      intro o x n ho
      simp only [World.shape?]
      rw [show (w.heap.push o)[w.heap.size]? = some o by simp]
      cases o <;> simp_all
    simp only [Conv.stringToBytes, Sem.run_bind, run_choose, hforced, Bool.false_eq_true, if_false, Result.andThen_ok, newRow, run_newObj, Sem.run_pure, markStringish, run_shape]
    rw [hshape (.cells cells e) e cells.size rfl]
    simp only [run_freeze, Result.andThen_ok]
    congr 1
    show World.mk _ _ _ _ _ = World.mk _ _ _ _ _
    congr 1
    apply Array.ext_getElem?
    intro k
    rw [Array.getElem?_modify, Array.getElem?_push, Array.getElem?_push]
    by_cases hk : k = w.heap.size
    · subst hk; simp [cells, cap]
    · rw [if_neg (Ne.symm hk), if_neg hk, if_neg hk]
  have hlen : (s.data.toList.map fun b => (b.toNat : Int)).length = s.size := by simp
  have := alloc_sound_mark (w' := w') (l := [{ n := s.size, st := 1, cols := [.int .u8 (s.data.toList.map fun b => (b.toNat : Int))] }]) H hi (fun q hq => by
      simp only [List.mem_singleton] at hq; subst hq
      exact ⟨rfl, fun c hc => by simp only [List.mem_singleton] at hc; subst hc; exact hlen⟩) (cells := cells) (el := e) (by simp only [total]; omega) (fun j y hy => by
      have hj := cellOf_lt hy
      simp only [total, Nat.mul_one, Nat.add_zero] at hj
      rw [rows_cell (by simpa using hj)] at hy
      simp only [Nat.mod_one, List.getElem?_cons_zero, Nat.div_one, Option.map_some, Option.some.injEq] at hy
      subst hy
      have hjl : j < s.data.size := hj
      refine ⟨.int .u8 (s.data[j].toNat : Int), ?_, ?_⟩
      · simp only [cells]
        rw [Array.getElem?_append_left (by simpa using hjl), Array.getElem?_map, Array.getElem?_eq_getElem hjl]; rfl
      · simp only [colAt, List.getD_eq_getElem?_getD, List.getElem?_map]
        rw [List.getElem?_eq_getElem (by simpa using hjl)]
        exact .int _ _) rfl rfl rfl rfl
  exact ⟨_, w', _, hrun, .slice ⟨hcap, fun c hc => by simp at hc, .inr ⟨w.heap.size, 0, cells.size, by simp [put], by simp, by rw [hsz]; simp⟩⟩ ⟨_, by simp [put]; rfl⟩, this⟩

theorem convA_sound {ι : Inj} {h : Log} {w : World} (H : WRel E ra base ι h w) {src dst : TypeId} {x : AVal} {x' : Value} (hx : Rel E ra ι x x') : SoundAt P E ra base ι h w (convA P src dst x) (convert src dst x') := by
  intro v d r hr
  unfold convA at hr
  split at hr
  case h_2 => simp [AM.Runs] at hr
  rename_i s dd hs hd
  split at hr
  · cases hx
    simp only [AM.Runs] at hr
    obtain ⟨rfl, rfl, rfl⟩ := hr
    exact ⟨_, w, ι, by simp [convert, run_underlying hs, run_underlying hd, Conv.intToInt, wr_eq], .int _ _, H, .refl _ _ _⟩
  · cases hx
    simp only [AM.Runs] at hr
    obtain ⟨rfl, rfl, rfl⟩ := hr
    exact ⟨_, w, ι, by simp [convert, run_underlying hs, run_underlying hd], .str _, H, .refl _ _ _⟩
  · rename_i e t
    cases hx
    split at hr
    · rename_i he
      obtain ⟨v', w', ι', h1, h2⟩ := toBytesA_sound (P := P) (e := e) H v d r hr
      exact ⟨v', w', ι', by simp [convert, run_underlying hs, run_underlying hd, run_underlying he, h1], h2⟩
    · simp [AM.Runs] at hr
  · split at hr
    · rename_i e
      split at hr
      · rename_i he
        cases hx
        simp only [AM.Runs] at hr
        obtain ⟨rfl, rfl, rfl⟩ := hr
        exact ⟨_, w, ι, run_convert_bytes_nil w src e hs he 0 0 dst hd, .str _, H, .refl _ _ _⟩
      · simp [AM.Runs] at hr
    · simp [AM.Runs] at hr
  · rename_i id i len cap
    split at hr
    · rename_i e
      split at hr
      · rename_i he
        cases hx with | slice hS hNm =>
        rename_i y cap'
        simp only [toTextA, AM.Runs] at hr
        obtain ⟨B, r', hv, rfl, hr⟩ := hr
        split at hr
        · rename_i s0
          split at hr
          · rename_i xs hst hcols
            have hse := Nat.eq_of_beq_eq_true hst
            simp only [AM.Runs] at hr
            obtain ⟨hn, rfl, rfl, rfl⟩ := hr
            have hn' := of_decide_eq_true hn
            obtain ⟨b, o, cs', el, fz, q1, q2, q3, q4, q5, q6, q7⟩ := H.own id _ hv
            have hwf : s0.WF := q6 s0 (by simp)
            have hxl : xs.length = s0.n := by have := hwf.2 (.int .u8 xs) (by rw [hcols]; simp); simpa [Col.len] using this
            have hlen : ((xs.drop i).take len).length = len := by simp; omega
            refine ⟨.string (strOfNums ((xs.drop i).take len)), w, ι, ?_, .str _, H, .refl _ _ _⟩
            rcases hS.2.2 with hc0 | ⟨b2, o2, sz2, g4, rfl, g5⟩
            · have hl0 : len = 0 := by have := hS.1; omega
              subst hl0
              obtain ⟨yb, yo, ys⟩ := y
              have : (loadCells ⟨yb, yo, ys⟩ 0).run P w = .ok (([] : List Int).map (Value.int .u8)).toArray w := by simp [loadCells, loadCellsFrom]
              rw [run_convert_bytes_string w src dst e _ 0 cap' hs he hd, run_bytesToString w _ 0 cap' [] this]
              rfl
            · rw [q1] at g4
              simp only [Option.some.injEq, Prod.mk.injEq] at g4
              obtain ⟨rfl, rfl, rfl⟩ := g4
              refine run_convert_bytes_arg w src e hs he b (o + 0 + i * 1) len cap' _ hlen (fun k hk => ?_) dst hd
              have hj : i + k < s0.n := by omega
              have hcell := seg_cell (s := s0) (l := []) (i := i + k) (c := 0) hj (by omega)
              rw [hcols] at hcell
              simp only [List.getElem?_cons_zero, Option.map_some, Nat.zero_add, hse, Nat.mul_one] at hcell
              obtain ⟨c, hc1, hc2⟩ := q7 _ _ hcell
              rw [cell_at q3]
              simp only [colAt] at hc2
              cases hc2
              rw [show o + 0 + i * 1 + k = o + (i + k) by omega, hc1]
              congr 2
              simp [hk, List.getElem?_drop]
          · simp [AM.Runs] at hr
        · simp [AM.Runs] at hr
      · simp [AM.Runs] at hr
    · simp [AM.Runs] at hr
  · simp [AM.Runs] at hr

end Go.Proofs.Ytbdjcekekhgnkaa.Ab

namespace Go.Proofs.Ytbdjcekekhgnkaa.Ab

variable {P : Program} {E : Nat → Nat → Seg} {ra : Nat → Nat → Nat × Nat} {base : Nat}

/-! ### Maps whose keys are whole numbers; rows that are cleared -/
def findI (j : IntKind) (a : Int) : List (AVal × AVal) → Nat → Option (Option (Nat × AVal))
  | [], _ => some none
  | (.int k b, v) :: l, i => match decide (j = k) with
    | true => match decide (a = b) with
      | true => some (some (i, v))
      | false => findI j a l (i + 1)
    | false => none
  | _ :: _, _ => none

section
variable (P)
def makeMapA (r : Option AVal) : AM AVal :=
  match r with
  | none => .alloc (.map []) fun id => .pure (.mapv id)
  | some _ => .fail

def intKey (t : TypeId) (j : IntKind) : Bool :=
  match P.underlying t with
  | some (.map k _) => match P.underlying k with
    | some (.int q) => decide (j = q)
    | _ => false
  | _ => false

def mapUpA (t : TypeId) (m k x : AVal) : AM AVal :=
  match m, k with
  | .mapv id, .int j a => match intKey P t j with
    | true => .read id fun B => match B with
      | .map es => match findI j a es 0 with
        | some none => .upd id (some (.map (es ++ [(.int j a, x)]))) (.pure .undef)
        | _ => .fail
      | _ => .fail
    | false => .fail
  | _, _ => .fail

def lookA (t : TypeId) (x k : AVal) (ok : Bool) : AM AVal :=
  match x, k with
  | .mapv id, .int j a => match intKey P t j with
    | true => .read id fun B => match B with
      | .map es => match findI j a es 0 with
        | some (some (_, v)) => .pure (match ok with
          | true => .tup [v, .bool true]
          | false => v)
        | some none => match P.underlying t with
          | some (.map _ e) => match zeroA P e with
            | some z => .pure (match ok with
              | true => .tup [z, .bool false]
              | false => z)
            | none => .fail
          | _ => .fail
        | none => .fail
      | _ => .fail
    | false => .fail
  | _, _ => .fail

def clearA (ts : Array TypeId) (x : AVal) : AM AVal :=
  match (ts[0]?).bind P.underlying with
  | some (.slice e) => match x with
    | .nils => .pure (.tup [])
    | .slice (.own id 0 i st) n _ => match n with
      | 0 => .pure (.tup [])
      | n + 1 => match P.info? e, (zeroA P e).bind cellsOfV with
        | some inf, some z => match Nat.beq st inf.size && Nat.beq z.length inf.size with
          | true => .read id fun b => match b with
            | .segs [s0] => match Nat.beq s0.st inf.size with
              | true => .need (decide (i + (n + 1) ≤ s0.n)) <| .need ((z.map (colOf (n + 1))).all colCells) <| match colsPut s0.cols i (z.map (colOf (n + 1))) with
                | some cols => .upd id (some (.segs [{ s0 with cols }])) (.pure (.tup []))
                | none => .fail
              | false => .fail
            | _ => .fail
          | false => .fail
        | _, _ => .fail
    | _ => .fail
  | _ => .fail
end

theorem intKey_spec {t : TypeId} {j : IntKind} (h : intKey P t j = true) : ∃ k e, P.underlying t = some (.map k e) ∧ P.underlying k = some (.int j) := by
  unfold intKey at h
  split at h
  · rename_i k e hk
    split at h
    · rename_i q hq
      have := of_decide_eq_true h
      subst this
      exact ⟨k, e, hk, hq⟩
    · cases h
  · cases h

theorem findI_sound {ι : Inj} {j : IntKind} {a : Int} : ∀ {es : List (AVal × AVal)} {ms : List MapEntry} {i : Nat} {o : Option (Nat × AVal)},
    RelL E ra ι (es.map (·.1)) (ms.map (·.key)) → RelL E ra ι (es.map (·.2)) (ms.map (·.val)) → findI j a es i = some o →
    (o = none ∧ Instr.findNow (.int j) (.int j a) ms i = some none) ∨ ∃ n v x, o = some (n, v) ∧ Instr.findNow (.int j) (.int j a) ms i = some (some (n, x)) ∧ Rel E ra ι v x
  | [], [], i, o, _, _, h => by
    simp only [findI, Option.some.injEq] at h
    exact .inl ⟨h.symm, rfl⟩
  | [], _ :: _, _, _, hk, _, _ => by cases hk
  | (k, v) :: es, [], _, _, hk, _, _ => by cases hk
  | (k, v) :: es, m :: ms, i, o, hk, hv, h => by
    cases k <;> try (cases h; done)
    rename_i q b
    simp only [List.map_cons] at hk hv
    cases hk with | cons hk hks =>
    cases hv with | cons hv hvs =>
    generalize hm : m.key = mk at hk
    cases hk
    have h : (match decide (j = q) with
      | true => match decide (a = b) with
        | true => some (some (i, v))
        | false => findI j a es (i + 1)
      | false => none) = some o := h
    by_cases hq : j = q
    · subst hq
      rw [decide_eq_true rfl] at h
      by_cases ha : a = b
      · subst ha
        rw [decide_eq_true rfl] at h
        simp only [Option.some.injEq] at h
        exact .inr ⟨i, v, m.val, h.symm, by simp [Instr.findNow, hm, Instr.sameNow], hv⟩
      · rw [decide_eq_false ha] at h
        have e : Instr.findNow (.int j) (.int j a) (m :: ms) i = Instr.findNow (.int j) (.int j a) ms (i + 1) := by
          have e1 : (a == b) = false := beq_false_of_ne ha
          simp only [Instr.findNow, hm, Instr.sameNow, if_true, e1]
        rw [e]
        exact findI_sound hks hvs h
    · rw [decide_eq_false hq] at h
      cases h

theorem makeMapA_sound {ι : Inj} {h : Log} {w : World} (H : WRel E ra base ι h w) {t : TypeId} {r : Option AVal} {r' : Option Value} (hr' : r = none → r' = none) :
    SoundAt P E ra base ι h w (makeMapA r) (Instr.makeMap t r') := by
  intro v d rr hr
  unfold makeMapA at hr
  cases r with
  | some x => simp [AM.Runs] at hr
  | none =>
    have e := hr' rfl
    subst e
    obtain ⟨i, d', hi, rfl, rfl, rfl, rfl⟩ := hr
    have := H.alloc (w' := { w with heap := w.heap.push (.map #[] 0) }) hi (.map #[] 0) rfl rfl rfl rfl (.map []) (0, 0) ⟨w.heap.size, 0, 0, #[], 0, by simp [put], fun hr => absurd (H.le _ hr) (Nat.lt_irrefl _), by simp, .nil, .nil⟩
    exact ⟨.map (some w.heap.size), _, _, by simp [Instr.makeMap], .mapv (o := 0) (sz := 0) (by simp [put]), this⟩

theorem map_at {ι : Inj} {h : Log} {w : World} (H : WRel E ra base ι h w) {id : Nat} {es : List (AVal × AVal)} (hv : view h id = some (.map es)) {b o sz : Nat} (hb : ι id = some (b, o, sz)) :
    ∃ ms clock, w.heap[b]? = some (.map ms clock) ∧ ¬ Ro base b ∧ RelL E ra ι (es.map (·.1)) (ms.toList.map (·.key)) ∧ RelL E ra ι (es.map (·.2)) (ms.toList.map (·.val)) := by
  obtain ⟨b', o', sz', ms, clock, h1, h2, h3, h4⟩ := H.own id _ hv
  rw [hb] at h1
  simp only [Option.some.injEq, Prod.mk.injEq] at h1
  obtain ⟨rfl, rfl, rfl⟩ := h1
  exact ⟨ms, clock, h3, h2, h4⟩

theorem mapUpA_sound {ι : Inj} {h : Log} {w : World} (H : WRel E ra base ι h w) {t : TypeId} {m k x : AVal} {m' k' x' : Value} (hm : Rel E ra ι m m') (hk : Rel E ra ι k k') (hx : Rel E ra ι x x') {v : AVal} {d : Log} {r : List Nat}
    (hr : (mapUpA P t m k x).Runs h v d r) : v = .undef ∧ ∃ w', (Instr.mapUpdate t m' k' x').run P w = .ok () w' ∧ WRel E ra base ι (d ++ h) w' ∧ Keeps ι h w ι (d ++ h) w' := by
  unfold mapUpA at hr
  split at hr
  · rename_i id j a
    cases hm with | mapv hb =>
    rename_i b o sz
    cases hk
    cases hik : intKey P t j with
    | false => simp [hik, AM.Runs] at hr
    | true =>
      obtain ⟨kt, et, hu, hd⟩ := intKey_spec hik
      simp only [hik] at hr
      obtain ⟨B, r', hv, rfl, hr⟩ := hr
      dsimp only at hr
      split at hr
      · rename_i es
        split at hr
        · rename_i hf
          obtain ⟨b', d', r3, _, rfl, rfl, rfl, rfl, rfl⟩ := hr
          obtain ⟨ms, clock, g1, g2, g3, g4⟩ := map_at H hv hb
          rcases findI_sound g3 g4 hf with ⟨_, e⟩ | ⟨n, y, z, e, _⟩
          · have hkey : MapKept.IsKey (.int j) (.int j a) := rfl
            have hlt : b < w.heap.size := (Array.getElem?_eq_some_iff.1 g1).1
            refine ⟨rfl, { w with heap := w.heap.setIfInBounds b (.map (ms.push { key := .int j a, val := x', born := clock }) (clock + 1)) }, ?_, ?_⟩
            · simp [Instr.mapUpdate, run_underlying hu, MapKept.run_getObj_map g1, MapKept.run_checkKey hd hkey, MapKept.run_findKey hd e, MapKept.run_setObj_map _ g1, Result.andThen]
            · refine H.turn hv hb (fun q hq => (MapKept.heap_set g1).2 q hq) (by simp) rfl rfl rfl ⟨b, o, sz, _, _, hb, g2, (MapKept.heap_set g1).1, ?_, ?_⟩
              · simp only [List.map_append, Array.toList_push]
                exact g3.append (.cons (.int _ _) .nil)
              · simp only [List.map_append, Array.toList_push]
                exact g4.append (.cons hx .nil)
          · cases e
        · simp [AM.Runs] at hr
      · simp [AM.Runs] at hr
  · simp [AM.Runs] at hr

theorem lookA_sound {ι : Inj} {h : Log} {w : World} (H : WRel E ra base ι h w) {t : TypeId} {x k : AVal} {x' k' : Value} (hx : Rel E ra ι x x') (hk : Rel E ra ι k k') {ok : Bool} :
    SoundAt P E ra base ι h w (lookA P t x k ok) (Instr.lookup t x' k' ok) := by
  refine .of_pure H fun v d r hr => ?_
  unfold lookA at hr
  split at hr
  · rename_i id j a
    cases hx with | mapv hb =>
    rename_i b o sz
    cases hk
    cases hik : intKey P t j with
    | false => simp [hik, AM.Runs] at hr
    | true =>
      obtain ⟨kt, et, hu, hd⟩ := intKey_spec hik
      simp only [hik] at hr
      obtain ⟨B, r', hv, rfl, hr⟩ := hr
      dsimp only at hr
      split at hr
      · rename_i es
        obtain ⟨ms, clock, g1, g2, g3, g4⟩ := map_at H hv hb
        have hkey : MapKept.IsKey (.int j) (.int j a) := rfl
        split at hr
        · rename_i n v' hf
          simp only [AM.Runs] at hr
          obtain ⟨rfl, rfl, rfl⟩ := hr
          rcases findI_sound g3 g4 hf with ⟨e, _⟩ | ⟨n2, y, z, e, e2, hz⟩
          · cases e
          · simp only [Option.some.injEq, Prod.mk.injEq] at e
            obtain ⟨rfl, rfl⟩ := e
            refine ⟨rfl, (if ok then .tuple #[z, .bool true] else z), ?_, ?_⟩
            · simp [Instr.lookup, run_underlying hu, MapKept.run_getObj_map g1, MapKept.run_checkKey hd hkey, MapKept.run_findKey hd e2, Result.andThen]
              try rfl
            · cases ok with
              | true => simpa using Rel.tup (.cons hz (.cons (.bool true) .nil))
              | false => simpa using hz
        · rename_i hf
          split at hr
          · rename_i kt2 e3 hu2
            rw [hu] at hu2
            simp only [Option.some.injEq, TypeDesc.map.injEq] at hu2
            obtain ⟨rfl, rfl⟩ := hu2
            cases hzA : zeroA P et with
            | none => simp [hzA, AM.Runs] at hr
            | some z =>
              obtain ⟨z', i, _, _, hzr, hzR⟩ := zeroA_sound (E := E) (ra := ra) (ι := ι) (w := w) hzA
              simp only [hzA, AM.Runs] at hr
              obtain ⟨rfl, rfl, rfl⟩ := hr
              rcases findI_sound g3 g4 hf with ⟨_, e2⟩ | ⟨n2, y, z, e, _⟩
              · refine ⟨rfl, (if ok then .tuple #[z', .bool false] else z'), ?_, ?_⟩
                · simp [Instr.lookup, run_underlying hu, MapKept.run_getObj_map g1, MapKept.run_checkKey hd hkey, MapKept.run_findKey hd e2, hzr, Result.andThen]
                  try rfl
                · cases ok with
                  | true => simpa using Rel.tup (.cons hzR (.cons (.bool false) .nil))
                  | false => simpa using hzR
              · cases e
          · simp [AM.Runs] at hr
        · simp [AM.Runs] at hr
      · simp [AM.Runs] at hr
  · simp [AM.Runs] at hr

theorem clearA_sound {ι : Inj} {h : Log} {w : World} (H : WRel E ra base ι h w) {ts : Array TypeId} {ty : TypeId} {x : AVal} {x' : Value} (hx : Rel E ra ι x x') :
    SoundAt P E ra base ι h w (clearA P ts x) (Builtin.clear_ ts ty #[x']) := by
  intro v d r hr
  unfold clearA at hr
  split at hr
  case h_2 => simp [AM.Runs] at hr
  rename_i e hu
  cases ht : ts[0]? with
  | none => simp [ht] at hu
  | some t =>
  simp only [ht, Option.bind_some] at hu
  split at hr
  · cases hx
    simp only [AM.Runs] at hr
    obtain ⟨rfl, rfl, rfl⟩ := hr
    exact ⟨.tuple #[], w, ι, by simp [Builtin.clear_, ht, run_underlying hu], by simpa using Rel.tup (E := E) (ra := ra) (ι := ι) .nil, H, .refl _ _ _⟩
  · rename_i id i st n cap
    cases hx with | slice hS hNm =>
    rename_i y cap'
    cases n with
    | zero =>
      simp only [AM.Runs] at hr
      obtain ⟨rfl, rfl, rfl⟩ := hr
      exact ⟨.tuple #[], w, ι, by simp [Builtin.clear_, ht, run_underlying hu], by simpa using Rel.tup (E := E) (ra := ra) (ι := ι) .nil, H, .refl _ _ _⟩
    | succ n =>
      simp only at hr
      split at hr
      case h_2 => simp [AM.Runs] at hr
      rename_i inf z e1 e2
      cases hb : Nat.beq st inf.size && Nat.beq z.length inf.size with
      | false => simp [hb, AM.Runs] at hr
      | true =>
      simp only [hb] at hr
      rw [Bool.and_eq_true] at hb
      have hst := Nat.eq_of_beq_eq_true hb.1
      have hzl := Nat.eq_of_beq_eq_true hb.2
      subst hst
      obtain ⟨B, r', hv, rfl, hr⟩ := hr
      dsimp only at hr
      split at hr
      case h_2 => simp [AM.Runs] at hr
      rename_i s0
      cases hss : Nat.beq s0.st inf.size with
      | false => simp [hss, AM.Runs] at hr
      | true =>
      have hse := Nat.eq_of_beq_eq_true hss
      simp only [hss, AM.Runs] at hr
      obtain ⟨hrow, hcc, hr⟩ := hr
      have hrow' := of_decide_eq_true hrow
      cases hp : colsPut s0.cols i (z.map (colOf (n + 1))) with
      | none => simp [hp, AM.Runs] at hr
      | some cols =>
      simp only [hp, AM.Runs] at hr
      obtain ⟨b', d', r3, _, rfl, rfl, rfl, rfl, rfl⟩ := hr
      obtain ⟨b, o, cs', el, fz, q1, q2, q3, q4, q5, q6, q7⟩ := H.own id _ hv
      have hwf : s0.WF := q6 s0 (by simp)
      cases hz : zeroA P e with
      | none => simp [hz] at e2
      | some zv =>
      simp only [hz, Option.bind_some] at e2
      obtain ⟨z', i', hi', hiz, hzr, hzR⟩ := zeroA_sound (E := E) (ra := ra) (ι := ι) (w := w) hz
      have hcells := rel_cells hzR e2
      have hlen := hcells.length
      simp only [Array.length_toList] at hlen
      have hzs : z'.cells.size = inf.size := by omega
      have hlens : ∀ c ∈ z.map (colOf (n + 1)), c.len = n + 1 := fun c hc => by
        simp only [List.mem_map] at hc
        obtain ⟨v, _, rfl⟩ := hc
        exact (colOf_at _ v).1
      have k2 : RowsIn E ra ι (n + 1) inf.size (z.map (colOf (n + 1))) (Builtin.zeroCells z'.cells (n + 1)).toList := by
        refine ⟨by simp [Builtin.zeroCells, hzs], by simp [hzl], hlens, fun j v hj => ?_⟩
        have hlt := cellOf_lt hj
        simp only [total, Nat.add_zero] at hlt
        have hp0 : 0 < inf.size := by
          rcases Nat.eq_zero_or_pos inf.size with hh | hh
          · rw [hh] at hlt; simp at hlt
          · exact hh
        have hm : j % inf.size < inf.size := Nat.mod_lt _ hp0
        have hq : j / inf.size < n + 1 := Nat.div_lt_of_lt_mul (by rw [Nat.mul_comm]; exact hlt)
        rw [rows_cell hlt] at hj
        simp only [List.getElem?_map, List.getElem?_eq_getElem (show j % inf.size < z.length by omega), Option.map_some, Option.some.injEq] at hj
        rw [(colOf_at _ _).2 _ hq] at hj
        subst hj
        obtain ⟨y, hy, hyr⟩ := hcells.get (i := j % inf.size) (v := z[j % inf.size]) (by simp)
        refine ⟨y, ?_, hyr⟩
        simp only [Array.getElem?_toList] at hy
        rw [Array.getElem?_eq_getElem (by omega)] at hy
        simp only [Option.some.injEq] at hy
        simp only [Builtin.zeroCells, Array.getElem?_toList, Array.getElem?_map, Array.getElem?_range, hzs, hlt, if_true, Option.map_some, Option.some.injEq]
        rw [getElem!_pos _ _ (by omega)]
        exact hy
      have hsets := put_sets hwf hp hlens hrow'
      have hR := flatOf_rel k2
      rw [← hse] at hR
      have hone := rows_oneCell k2 hcc
      obtain ⟨w', t1, t2, t3⟩ := turn_sound (P := P) H hv q1 hsets hR hone
      refine ⟨.tuple #[], w', ι, ?_, by simpa using Rel.tup (E := E) (ra := ra) (ι := ι) .nil, by simpa using t2, by simpa using t3⟩
      have hstore : (storeCells y (Builtin.zeroCells z'.cells (n + 1)).toList).run P w = .ok () w' := by
        rcases hS.2.2 with hc0 | ⟨b2, o2, sz2, g4, rfl, g5⟩
        · have := hS.1; omega
        · rw [q1] at g4
          simp only [Option.some.injEq, Prod.mk.injEq] at g4
          obtain ⟨rfl, rfl, rfl⟩ := g4
          rw [← t1, hse]; rfl
      simp [Builtin.clear_, ht, run_underlying hu, hzr, hstore]
  · simp [AM.Runs] at hr

abbrev Tmps := List AVal

def evalA (ts : Tmps) : Operand → AVal
  | .tmp t => ts.getD t .undef
  | .const v => absV v
  | .global _ => .undef
  | .func f => .fn f []

def putA (ts : Tmps) (dst : Option Tmp) (v : AVal) : Tmps :=
  match dst with
  | some d => ts.set d v
  | none => ts

def pickA (c a b : AVal) : AM AVal :=
  match c with
  | .bool c => match a, b with
    | .bool x, .bool y => .pure (.bool (bif c then x else y))
    | a, b => .br c (.pure a) (.pure b)
  | _ => .fail

def nilA (x : AVal) : AM AVal :=
  match x with
  | .ptr a => .pure (.ptr a)
  | .fn f cs => .pure (.fn f cs)
  | .iface t v => .pure (.iface t v)
  | _ => .fail

def funcA (fn : Fn) (first : Array Operand) (cs : List AVal) : AM AVal :=
  match fn, first.toList with
  | .func f, [] => .pure (.fn f cs)
  | _, _ => .fail

section
variable (P E)
def ifaceA (t : TypeId) (x : AVal) : AM AVal :=
  match P.underlying t with
  | some (.interface _) => .fail
  | some _ => .pure (.iface t x)
  | none => .fail

def assertA (x : AVal) (t : TypeId) (ok : Bool) : AM AVal :=
  match P.underlying t with
  | some (.interface _) => .fail
  | some _ => match x, ok with
    | .iface u v, true => match Nat.beq u t with
      | true => .pure (.tup [v, .bool true])
      | false => match zeroA P t with
        | some z => .pure (.tup [z, .bool false])
        | none => .fail
    | .iface u v, false => match Nat.beq u t with
      | true => .pure v
      | false => .fail
    | .nili, true => match zeroA P t with
        | some z => .pure (.tup [z, .bool false])
        | none => .fail
    | _, _ => .fail
  | none => .fail

def builtinA (b : Builtin) (ts : Array TypeId) (args : List AVal) : AM AVal :=
  match b, args with
  | .len, [x] => liftO (lenA P ts x)
  | .cap, [x] => liftO (capA P ts x)
  | .min, x :: r => liftO (foldA minA x r)
  | .max, x :: r => liftO (foldA maxA x r)
  | .append, [s, x] => appendA P E ts s x
  | .copy, [d, x] => copyA P E ts d x
  | .clear, [x] => clearA P ts x
  | _, _ => .fail

def aop (o : Op) (ρ : Operand → AVal) : AM AVal :=
  match o with
  | .move x => .pure (ρ x)
  | .assign x => .pure (ρ x)
  | .pick c a b => pickA (ρ c) (ρ a) (ρ b)
  | .alloc t => allocA P t
  | .box t x => newVarA P t (ρ x)
  | .build t parts => liftO (buildA P t (parts.toList.map fun p => (p.1, ρ p.2)))
  | .buildSlice t len parts => buildSliceA P t len (parts.toList.map fun p => (p.1, ρ p.2))
  | .load t a => loadA P E t (ρ a)
  | .store t a x => storeA P t (ρ a) (ρ x)
  | .nilCheck x => nilA (ρ x)
  | .binOp op t x y _ => binA P op t x y (ρ x) (ρ y)
  | .unOp op _ x => unA op (ρ x)
  | .convert s d x => convA P s d (ρ x)
  | .makeInterface t x => ifaceA P t (ρ x)
  | .makeFunc fn first captured => funcA fn first (captured.toList.map ρ)
  | .makeSlice t l c => makeSliceA P t (ρ l) (ρ c)
  | .slice t x lo hi mx => sliceA P E t (ρ x) (lo.map ρ) (hi.map ρ) (mx.map ρ)
  | .fieldAddr s x f => fieldAddrA P s (ρ x) f
  | .field t x f => fieldA P t (ρ x) f
  | .indexAddr t x ix => indexAddrA P E t (ρ x) (ρ ix)
  | .index t x ix => indexA P t (ρ x) (ρ ix)
  | .extract t ix => extractA (ρ t) ix
  | .makeMap _ r => makeMapA (r.map ρ)
  | .mapUpdate t m k x => mapUpA P t (ρ m) (ρ k) (ρ x)
  | .insert t m k x => mapUpA P t (ρ m) (ρ k) (ρ x)
  | .lookup t x ix ok => lookA P t (ρ x) (ρ ix) ok
  | .typeAssert x _ t ok => assertA P (ρ x) t ok
  | .call c => match c.callee with
    | .builtin b => builtinA P E b c.argTypes (c.args.toList.map ρ)
    | _ => .fail
  | _ => .fail
end

theorem map_congr' {α β : Type} {f g : α → β} {l : List α} (h : ∀ x ∈ l, f x = g x) : l.map f = l.map g := List.map_congr_left h

theorem aop_congr {o : Op} {ρ ρ' : Operand → AVal} (h : ∀ x ∈ o.operands, ρ x = ρ' x) : aop P E o ρ = aop P E o ρ' := by
  cases o <;> simp only [aop, Op.operands] at h ⊢ <;> try rfl
  case build t parts => congr 2; exact map_congr' fun p hp => by rw [h p.2 (by simp; exact ⟨p.1, by simpa using hp⟩)]
  case buildSlice t len parts => congr 1; exact map_congr' fun p hp => by rw [h p.2 (by simp; exact ⟨p.1, by simpa using hp⟩)]
  case makeFunc fn first captured => congr 1; exact map_congr' fun x hx => h x (by simp; exact .inr (by simpa using hx))
  case slice t x lo hi mx =>
    rw [h x (by simp)]
    have e1 : lo.map ρ = lo.map ρ' := by cases lo with | none => rfl | some y => simp [h y (by simp)]
    have e2 : hi.map ρ = hi.map ρ' := by cases hi with | none => rfl | some y => simp [h y (by simp)]
    have e3 : mx.map ρ = mx.map ρ' := by cases mx with | none => rfl | some y => simp [h y (by simp)]
    rw [e1, e2, e3]
  case makeMap t r =>
    have e1 : r.map ρ = r.map ρ' := by cases r with | none => rfl | some y => simp [h y (by simp)]
    rw [e1]
  case call c =>
    split
    · congr 1; exact map_congr' fun x hx => h x (by rename_i b hb; simp [Call.operands, hb]; simpa using hx)
    · rfl
  all_goals (first
    | (rw [h _ (by simp)]; done)
    | (rw [h _ (by simp), h _ (by simp)]; done)
    | (rename_i c a b; rw [h c (by simp), h a (by simp), h b (by simp)])
    | (rename_i c a b; rw [h a (by simp), h b (by simp)])
    | (rename_i op t x y t2; rw [h x (by simp), h y (by simp)]))

/-- The operation's run, in the world. -/
def OpSound (P : Program) (E : Nat → Nat → Seg) (ra : Nat → Nat → Nat × Nat) (base : Nat) (ι : Inj) (h : Log) (w : World) (s : Sem Next) (v : AVal) (d : Log) : Prop :=
  ∃ w' ι', ((∃ v', s.run P w = .ok (.value v') w' ∧ Rel E ra ι' v v') ∨ (s.run P w = .ok .skip w' ∧ v = .undef)) ∧ WRel E ra base ι' (d ++ h) w' ∧ Keeps ι h w ι' (d ++ h) w'

theorem OpSound.of {ι : Inj} {h : Log} {w : World} {m : AM AVal} {s : Sem Value} (hs : SoundAt P E ra base ι h w m s) {v : AVal} {d : Log} {r : List Nat} (hr : m.Runs h v d r) :
    OpSound P E ra base ι h w (do pure (.value (← s))) v d := by
  obtain ⟨v', w', ι', h1, h2, h3, h4⟩ := hs v d r hr
  exact ⟨w', ι', .inl ⟨v', by simp [h1], h2⟩, h3, h4⟩

theorem SoundAt.lift {ι : Inj} {h : Log} {w : World} {o : Option AVal} {s : Sem Value} (H : WRel E ra base ι h w) (hs : ∀ v, o = some v → ∃ v', s.run P w = .ok v' w ∧ Rel E ra ι v v') : SoundAt P E ra base ι h w (liftO o) s :=
  .of_pure H fun v d r hr => by
    rw [runs_liftO] at hr
    obtain ⟨h1, rfl, rfl⟩ := hr
    exact ⟨rfl, hs v h1⟩

theorem relL_map {ι : Inj} {ρ : Operand → AVal} {ρ' : Operand → Value} (hρ : ∀ x, Rel E ra ι (ρ x) (ρ' x)) : ∀ l : List Operand, RelL E ra ι (l.map ρ) (l.map ρ')
  | [] => .nil
  | x :: l => .cons (hρ x) (relL_map hρ l)

theorem relL_parts {ι : Inj} {ρ : Operand → AVal} {ρ' : Operand → Value} (hρ : ∀ x, Rel E ra ι (ρ x) (ρ' x)) : ∀ l : List (Nat × Operand), RelL E ra ι ((l.map fun p => (p.1, ρ p.2)).map (·.2)) ((l.map fun p => (p.1, ρ' p.2)).map (·.2))
  | [] => .nil
  | x :: l => .cons (hρ x.2) (relL_parts hρ l)

theorem pickA_sound {ι : Inj} {h : Log} {w : World} (H : WRel E ra base ι h w) {c a b : AVal} {c' a' b' : Value} (hc : Rel E ra ι c c') (ha : Rel E ra ι a a') (hb : Rel E ra ι b b') :
    SoundAt P E ra base ι h w (pickA c a b) (do pure (if ← asBool c' then a' else b')) := by
  refine .of_pure H fun v d r hr => ?_
  unfold pickA at hr
  split at hr
  · rename_i q
    cases hc
    split at hr
    · cases ha; cases hb
      simp only [AM.Runs] at hr
      obtain ⟨rfl, rfl, rfl⟩ := hr
      refine ⟨rfl, _, by simp [asBool]; rfl, ?_⟩
      cases q <;> exact .bool _
    · simp only [AM.Runs] at hr
      cases q <;> (obtain ⟨rfl, rfl, rfl⟩ := hr; exact ⟨rfl, _, by simp [asBool]; rfl, by assumption⟩)
  · simp [AM.Runs] at hr

theorem assertA_sound {ι : Inj} {h : Log} {w : World} (H : WRel E ra base ι h w) {x : AVal} {x' : Value} (hx : Rel E ra ι x x') {xt t : TypeId} {ok : Bool} :
    SoundAt P E ra base ι h w (assertA P x t ok) (Instr.typeAssert x' xt t ok) := by
  refine .of_pure H fun v d r hr => ?_
  unfold assertA at hr
  split at hr
  · simp [AM.Runs] at hr
  · rename_i td hni hu
    split at hr
    · rename_i u y
      cases hx with | iface hy =>
      rename_i y'
      cases hb : Nat.beq u t with
      | true =>
        have := Nat.eq_of_beq_eq_true hb
        subst this
        simp only [hb, AM.Runs] at hr
        obtain ⟨rfl, rfl, rfl⟩ := hr
        refine ⟨rfl, .tuple #[y', .bool true], ?_, by simpa using Rel.tup (.cons hy (.cons (.bool true) .nil))⟩
        simp [Instr.typeAssert, run_underlying hu]
      | false =>
        have hne : u ≠ t := fun e => by subst e; simp at hb
        simp only [hb] at hr
        cases hz : zeroA P t with
        | none => simp [hz, AM.Runs] at hr
        | some z =>
          obtain ⟨z', i, _, _, hzr, hzR⟩ := zeroA_sound (E := E) (ra := ra) (ι := ι) (w := w) hz
          simp only [hz, AM.Runs] at hr
          obtain ⟨rfl, rfl, rfl⟩ := hr
          refine ⟨rfl, .tuple #[z', .bool false], ?_, by simpa using Rel.tup (.cons hzR (.cons (.bool false) .nil))⟩
          simp [Instr.typeAssert, run_underlying hu, hne, hzr]
    · rename_i u y
      cases hx with | iface hy =>
      rename_i y'
      cases hb : Nat.beq u t with
      | true =>
        have := Nat.eq_of_beq_eq_true hb
        subst this
        simp only [hb, AM.Runs] at hr
        obtain ⟨rfl, rfl, rfl⟩ := hr
        exact ⟨rfl, y', by simp [Instr.typeAssert, run_underlying hu], hy⟩
      | false => simp [hb, AM.Runs] at hr
    · cases hx
      cases hz : zeroA P t with
      | none => simp [hz, AM.Runs] at hr
      | some z =>
        obtain ⟨z', i, _, _, hzr, hzR⟩ := zeroA_sound (E := E) (ra := ra) (ι := ι) (w := w) hz
        simp only [hz, AM.Runs] at hr
        obtain ⟨rfl, rfl, rfl⟩ := hr
        refine ⟨rfl, .tuple #[z', .bool false], ?_, by simpa using Rel.tup (.cons hzR (.cons (.bool false) .nil))⟩
        simp [Instr.typeAssert, run_underlying hu, hzr]
    · simp [AM.Runs] at hr
  · simp [AM.Runs] at hr

theorem builtinA_sound {ι : Inj} {h : Log} {w : World} (H : WRel E ra base ι h w) {b : Builtin} {ts : Array TypeId} {ty : TypeId} {cs : Array Bool} {args : List AVal} {args' : List Value} (ha : RelL E ra ι args args') {v : AVal} {d : Log} {r : List Nat}
    (hr : (builtinA P E b ts args).Runs h v d r) : OpSound P E ra base ι h w (builtin b ts ty cs args'.toArray) v d := by
  cases b <;> (try (exact (hr : False).elim))
  case append =>
    cases ha with
    | nil => exact (hr : False).elim
    | cons hx ht => cases ht with
      | nil => exact (hr : False).elim
      | cons hy ht => cases ht with
        | cons _ _ => exact (hr : False).elim
        | nil => exact .of (appendA_sound H hx hy) hr
  case cap =>
    cases ha with
    | nil => exact (hr : False).elim
    | cons hx ht => cases ht with
      | cons _ _ => exact (hr : False).elim
      | nil => exact .of (SoundAt.lift H fun u hu => capA_sound hx hu) hr
  case copy =>
    cases ha with
    | nil => exact (hr : False).elim
    | cons hx ht => cases ht with
      | nil => exact (hr : False).elim
      | cons hy ht => cases ht with
        | cons _ _ => exact (hr : False).elim
        | nil => exact .of (copyA_sound H hx hy) hr
  case clear =>
    cases ha with
    | nil => exact (hr : False).elim
    | cons hx ht => cases ht with
      | cons _ _ => exact (hr : False).elim
      | nil => exact .of (clearA_sound H hx) hr
  case len =>
    cases ha with
    | nil => exact (hr : False).elim
    | cons hx ht => cases ht with
      | cons _ _ => exact (hr : False).elim
      | nil => exact .of (SoundAt.lift H fun u hu => lenA_sound hx hu) hr
  case min =>
    cases ha with
    | nil => exact (hr : False).elim
    | cons hx ht =>
      refine .of (s := Builtin.min_ ts ty _) (SoundAt.lift H fun u hu => ?_) hr
      obtain ⟨v', h1, h2⟩ := foldA_sound (P := P) (w := w) (f := minA) (g := Builtin.min2) (fun a b v a' b' ha hb hf => minA_sound ha hb hf) _ _ _ _ _ hx ht hu
      exact ⟨v', by simpa [Builtin.min_] using h1, h2⟩
  case max =>
    cases ha with
    | nil => exact (hr : False).elim
    | cons hx ht =>
      refine .of (s := Builtin.max_ ts ty _) (SoundAt.lift H fun u hu => ?_) hr
      obtain ⟨v', h1, h2⟩ := foldA_sound (P := P) (w := w) (f := maxA) (g := Builtin.max2) (fun a b v a' b' ha hb hf => maxA_sound ha hb hf) _ _ _ _ _ hx ht hu
      exact ⟨v', by simpa [Builtin.max_] using h1, h2⟩

theorem parts_eq {ρ' : Operand → Value} (parts : Array (Nat × Operand)) : (parts.map fun (p : Nat × Operand) => match p with | (i, x) => (i, ρ' x)) = parts.map fun p => (p.1, ρ' p.2) := rfl

theorem opBuild {ι : Inj} {h : Log} {w : World} (H : WRel E ra base ι h w) {ρ : Operand → AVal} {ρ' : Operand → Value} (hρ : ∀ x, Rel E ra ι (ρ x) (ρ' x)) (t : TypeId) (parts : Array (Nat × Operand)) :
    SoundAt P E ra base ι h w (liftO (buildA P t (parts.toList.map fun p => (p.1, ρ p.2)))) (Instr.build t (parts.map fun p => (p.1, ρ' p.2))) := by
  refine SoundAt.lift H fun u hu => ?_
  have e : (parts.map fun p => (p.1, ρ' p.2)).toList = parts.toList.map fun p => (p.1, ρ' p.2) := by simp
  refine buildA_sound ?_ ?_ hu
  · rw [e]; simp
  · rw [e]; exact relL_parts hρ parts.toList

theorem opBuildSlice {ι : Inj} {h : Log} {w : World} (H : WRel E ra base ι h w) {ρ : Operand → AVal} {ρ' : Operand → Value} (hρ : ∀ x, Rel E ra ι (ρ x) (ρ' x)) (t : TypeId) (n : Nat) (parts : Array (Nat × Operand)) :
    SoundAt P E ra base ι h w (buildSliceA P t n (parts.toList.map fun p => (p.1, ρ p.2))) (Instr.buildSlice t n (parts.map fun p => (p.1, ρ' p.2))) := by
  have e : (parts.map fun p => (p.1, ρ' p.2)).toList = parts.toList.map fun p => (p.1, ρ' p.2) := by simp
  refine buildSliceA_sound H ?_ ?_
  · rw [e]; simp
  · rw [e]; exact relL_parts hρ parts.toList

theorem aop_sound {ι : Inj} {h : Log} {w : World} (H : WRel E ra base ι h w) {ρ : Operand → AVal} {ρ' : Operand → Value} (hρ : ∀ x, Rel E ra ι (ρ x) (ρ' x)) {o : Oper} {v : AVal} {d : Log} {r : List Nat}
    (hr : (aop P E o.op ρ).Runs h v d r) : OpSound P E ra base ι h w (execOp ρ' o) v d := by
  unfold execOp
  cases ho : o.op <;> simp only [ho, aop] at hr ⊢ <;> try (simp [AM.Runs] at hr; done)
  case move x => obtain ⟨rfl, rfl, rfl⟩ := hr; exact ⟨w, ι, .inl ⟨_, rfl, hρ x⟩, H, .refl _ _ _⟩
  case assign x => obtain ⟨rfl, rfl, rfl⟩ := hr; exact ⟨w, ι, .inl ⟨_, rfl, hρ x⟩, H, .refl _ _ _⟩
  case pick c a b =>
    obtain ⟨v', w', ι', h1, h2⟩ := pickA_sound (P := P) H (hρ c) (hρ a) (hρ b) v d r hr
    refine ⟨w', ι', .inl ⟨v', ?_, h2.1⟩, h2.2⟩
    simp only [Sem.run_bind] at h1 ⊢
    revert h1
    cases Sem.run P (asBool (ρ' c)) w with
    | ok q w1 => intro h1; simp only [Result.andThen_ok, Sem.run_pure, Result.ok.injEq] at h1 ⊢; simp [h1]
    | halt x w1 => intro h1; simp [Result.andThen] at h1
  case alloc t => exact .of (allocA_sound H) hr
  case box t x => exact .of (boxA_sound H (hρ x)) hr
  case build t parts => exact OpSound.of (opBuild H hρ t parts) hr
  case buildSlice t len parts => exact OpSound.of (opBuildSlice H hρ t len parts) hr
  case load t a => exact .of (loadA_sound H (hρ a)) hr
  case store t a x =>
    obtain ⟨rfl, w', h1, h2, h3⟩ := storeA_sound H (hρ a) (hρ x) hr
    exact ⟨w', ι, .inr ⟨by simp [h1], rfl⟩, h2, h3⟩
  case nilCheck x =>
    unfold nilA at hr
    have hx := hρ x
    split at hr
    · rename_i a e
      rw [e] at hx
      obtain ⟨rfl, rfl, rfl⟩ := hr
      generalize ρ' x = y at hx
      cases hx with | ptr hA => exact ⟨w, ι, .inl ⟨_, rfl, .ptr hA⟩, H, .refl _ _ _⟩
    · rename_i f cs e
      rw [e] at hx
      obtain ⟨rfl, rfl, rfl⟩ := hr
      generalize ρ' x = y at hx
      cases hx with | fn hL => exact ⟨w, ι, .inl ⟨_, rfl, .fn hL⟩, H, .refl _ _ _⟩
    · rename_i t u e
      rw [e] at hx
      obtain ⟨rfl, rfl, rfl⟩ := hr
      generalize ρ' x = y at hx
      cases hx with | iface hI => exact ⟨w, ι, .inl ⟨_, rfl, .iface hI⟩, H, .refl _ _ _⟩
    · simp [AM.Runs] at hr
  case binOp op t x y t2 => exact .of (binA_sound H (hρ x) (hρ y)) hr
  case unOp op t x => exact .of (unA_sound H (hρ x)) hr
  case convert s dd x => exact .of (convA_sound H (hρ x)) hr
  case makeInterface t x =>
    refine .of (s := Instr.makeInterface t (ρ' x)) (.of_pure H fun u d r hr => ?_) hr
    unfold ifaceA at hr
    split at hr
    · simp [AM.Runs] at hr
    · rename_i td hni hu
      obtain ⟨rfl, rfl, rfl⟩ := hr
      refine ⟨rfl, .iface t (ρ' x), ?_, .iface (hρ x)⟩
      simp only [Instr.makeInterface, Sem.run_bind, run_underlying hu, Result.andThen_ok]
      cases td <;> first | rfl | exact absurd hu (by simpa using hni _)
    · simp [AM.Runs] at hr
  case makeFunc fn first captured =>
    refine .of (s := Instr.makeFunc fn (first.map ρ') (captured.map ρ')) (.of_pure H fun u d r hr => ?_) hr
    unfold funcA at hr
    split at hr
    · rename_i f e _
      obtain ⟨rfl, rfl, rfl⟩ := hr
      have hf : first = #[] := by
        obtain ⟨l⟩ := first
        cases e; rfl
      subst hf
      refine ⟨rfl, _, rfl, ?_⟩
      have := Rel.fn (E := E) (ra := ra) (ι := ι) (f := f) (relL_map hρ captured.toList)
      have e : (captured.map ρ') = (captured.toList.map ρ').toArray := by apply Array.ext'; simp
      rw [e]; simpa using this
    · simp [AM.Runs] at hr
  case makeSlice t l c => exact .of (makeSliceA_sound H (hρ l) (hρ c)) hr
  case slice t x lo hi mx =>
    exact .of (sliceA_sound H (hρ x) (fun v hv => by cases lo with | none => simp at hv | some y => simp only [Option.map_some, Option.some.injEq] at hv; subst hv; exact ⟨_, rfl, hρ y⟩) (fun hn => by cases lo <;> simp_all)
      (fun v hv => by cases hi with | none => simp at hv | some y => simp only [Option.map_some, Option.some.injEq] at hv; subst hv; exact ⟨_, rfl, hρ y⟩) (fun hn => by cases hi <;> simp_all)
      (fun v hv => by cases mx with | none => simp at hv | some y => simp only [Option.map_some, Option.some.injEq] at hv; subst hv; exact ⟨_, rfl, hρ y⟩) (fun hn => by cases mx <;> simp_all)) hr
  case fieldAddr s x f => exact .of (fieldAddrA_sound H (hρ x)) hr
  case field t x f => exact .of (fieldA_sound H (hρ x)) hr
  case indexAddr t x ix => exact .of (indexAddrA_sound H (hρ x) (hρ ix)) hr
  case index t x ix => exact .of (indexA_sound H (hρ x) (hρ ix)) hr
  case extract t ix => exact .of (extractA_sound H (hρ t)) hr
  case makeMap t rs => exact .of (makeMapA_sound H fun e => by cases rs with | none => rfl | some y => simp at e) hr
  case mapUpdate t m k x =>
    obtain ⟨rfl, w', h1, h2, h3⟩ := mapUpA_sound H (hρ m) (hρ k) (hρ x) hr
    exact ⟨w', ι, .inr ⟨by simp [h1], rfl⟩, h2, h3⟩
  case insert t m k x =>
    obtain ⟨rfl, w', h1, h2, h3⟩ := mapUpA_sound H (hρ m) (hρ k) (hρ x) hr
    exact ⟨w', ι, .inr ⟨by simp [h1], rfl⟩, h2, h3⟩
  case lookup t x ix ok => exact .of (lookA_sound H (hρ x) (hρ ix)) hr
  case typeAssert x xt t ok => exact .of (assertA_sound H (hρ x)) hr
  case call c =>
    split at hr
    · rename_i b hb
      have := builtinA_sound (P := P) (ty := o.type) (cs := c.args.map fun | .const _ => true | _ => false) H (relL_map hρ c.args.toList) hr
      obtain ⟨w', ι', h1, h2⟩ := this
      refine ⟨w', ι', ?_, h2⟩
      have e : (c.args.map ρ') = (c.args.toList.map ρ').toArray := by apply Array.ext'; simp
      simp only [resolve, hb, Sem.run_bind, Sem.run_pure, Result.andThen_ok, invoke, e]
      exact h1
    · simp [AM.Runs] at hr

end Go.Proofs.Ytbdjcekekhgnkaa.Ab

namespace Go.Proofs.Ytbdjcekekhgnkaa.Ab

variable {P : Program} {E : Nat → Nat → Seg} {ra : Nat → Nat → Nat × Nat} {base : Nat}

inductive AExit
  | normal
  | exit (id : Nat)
  | ret

def AExit.toExit : AExit → Exit
  | .normal => .normal
  | .exit id => .exit id
  | .ret => .ret

def AExit.jump : AExit → Option Code
  | .normal => none
  | .exit id => some (.exit id)
  | .ret => some .ret

abbrev Sums := FuncId → Option (List AVal → AM AVal)
abbrev Exts := FuncId → Option (List AVal → AM AVal)
abbrev Walk := FuncId → List Bool → Bool → Code → Tmps → AM (AExit × Tmps)
/-- loops that are told, by their places -/
abbrev Loops := FuncId → List Bool → Option (Tmps → AM (AExit × Tmps))

/-- no function: code whose place is not kept -/
def noF : FuncId := 1000000

section defs
variable (P E)

def oneA (ts : Tmps) : ResultVar → AM AVal
  | .tmp t => .pure (ts.getD t .undef)
  | .cell a t => loadA P E t (ts.getD a .undef)

def allA (ts : Tmps) : List ResultVar → AM (List AVal)
  | [] => .pure []
  | r :: rs => (oneA P E ts r).bind fun v => (allA ts rs).bind fun vs => .pure (v :: vs)

def resA (fn : Func) (ts : Tmps) : AM AVal :=
  match fn.results.toList with
  | [r] => oneA P E ts r
  | rs => (allA P E ts rs).bind fun vs => .pure (.tup vs)

variable (S : Sums) (X : Exts) (L : Loops) (R : Walk)

def endA (fn : Func) (p : AExit × Tmps) : AM AVal :=
  match p.1 with
  | .exit _ => .fail
  | _ => resA P E fn p.2

def callB (f : FuncId) (as : List AVal) : AM AVal :=
  match S f with
  | some s => s as
  | none => match P.funcs[f]? with
    | some fn => match fn.body with
      | some c => (R f [] false c (as ++ List.replicate (fn.ntmps - as.length) .undef)).bind (endA P E fn)
      | none => .fail
    | none => .fail

def callA (f : FuncId) (as : List AVal) : AM AVal :=
  match X f with
  | some x => x as
  | none => callB P E S R f as

def setAllA (ts : Tmps) : List Tmp → List AVal → Tmps
  | p :: ps, v :: vs => setAllA (ts.set p v) ps vs
  | _, _ => ts

/-- a round's end -/
def endRoundA (id : Nat) (p : AExit × Tmps) : AM AVal :=
  .read id fun b => match b with
    | .loop ts ps as bd .busy _ => .upd id (some (.loop ts ps as bd (match p.1 with | .normal => .ready | _ => .done) p.1.jump)) (.pure (.bool (match p.1 with | .normal => true | _ => false)))
    | _ => .fail

def busyA (id : Nat) (c : Code) (t₁ : Tmps) : AM AVal :=
  .read id fun b => match b with
    | .loop ts ps as bd .ready pend => .upd id (some (.loop ts ps as bd .busy pend)) ((R noF [] true c t₁).bind (endRoundA id))
    | _ => .fail

def beginA (id : Nat) (c : Code) (p : AExit × Tmps) : AM AVal :=
  match p.1 with
  | .normal => busyA R id c p.2
  | _ => .fail

def yieldA (id : Nat) (args : List AVal) : AM AVal :=
  .read id fun b => match b with
    | .loop ts ps as bd _ _ => .need (Nat.beq ps.length args.length) ((R noF [] true as (setAllA ts ps args)).bind (beginA R id bd))
    | _ => .fail

def opA (o : Oper) (ρ : Operand → AVal) : AM AVal :=
  match o.op with
  | .call c => match c.callee with
    | .value f => match ρ f with
      | .fn g cap => callA P E S X R g (c.args.toList.map ρ ++ cap)
      | .yld id => yieldA R id (c.args.toList.map ρ)
      | _ => .fail
    | .builtin _ => aop P E o.op ρ
    | .invoke _ _ => .fail
  | op => aop P E op ρ

/-- one operation in its place: done, if it is wanted -/
def gstepA (all : List Oper) (o : Oper) (ts : Tmps) : AM Tmps :=
  match o.guard with
  | none => (opA P E S X R o (evalA ts)).bind fun v => .pure (putA ts o.dst v)
  | some (j, want) => match all[j]? with
    | some oj => match oj.dst with
      | some d => match ts.getD d .undef with
        | .bool b => .br b
          (match want with
            | true => (opA P E S X R o (evalA (ts.set d (.bool true)))).bind fun v => .pure (putA (ts.set d (.bool true)) o.dst v)
            | false => .pure (putA (ts.set d (.bool true)) o.dst (.tup [])))
          (match want with
            | true => .pure (putA (ts.set d (.bool false)) o.dst (.tup []))
            | false => (opA P E S X R o (evalA (ts.set d (.bool false)))).bind fun v => .pure (putA (ts.set d (.bool false)) o.dst v))
        | .tup [] => .pure (putA ts o.dst (.tup []))
        | _ => .fail
      | none => .fail
    | none => .fail

def opsA (all : List Oper) : List Oper → Tmps → AM (AExit × Tmps)
  | [], ts => .pure (.normal, ts)
  | o :: l, ts => (gstepA P E S X R all o ts).bind fun ts => opsA all l ts

def apartL (a b : List Nat) : Bool := a.all fun i => b.all fun j => !(Nat.beq i j)

/-- bit j of the i-th number: the i-th operation always comes behind the j-th -/
def before : List Oper → List Nat → List Nat
  | [], acc => acc
  | o :: l, acc => before l (acc ++ [o.after.toList.foldl (fun s e => bif Region.binds .any e then s ||| 2 ^ e.on ||| acc.getD e.on 0 else s) 0])

def footOk (all : List Oper) (bef : List Nat) (i : Nat) (r w : List Nat) (f : Nat × List Nat × List Nat) : Bool :=
  (bef.getD i 0).testBit f.1 || (apartL w f.2.2 && apartL w f.2.1 && apartL r f.2.2 &&
    match all[i]?, all[f.1]? with
    | some a, some b => b.apart all.toArray a
    | _, _ => false)

/-- each two that are not ordered are apart -/
def foots (all : List Oper) (bef : List Nat) : List (Nat × List Nat × List Nat) → Bool
  | [] => true
  | (i, r, w) :: l => l.all (footOk all bef i r w) && foots all bef l

/-- no edge leads forward -/
def edgesOk : Nat → List Oper → Bool
  | _, [] => true
  | i, o :: l => o.after.toList.all (fun e => !Region.binds .any e || Nat.blt e.on i) && edgesOk (i + 1) l

def drawA (all : List Oper) (bef : List Nat) : Nat → List Oper → Tmps → List (Nat × List Nat × List Nat) → AM (AExit × Tmps)
  | _, [], ts, fs => .need (foots all bef fs && Region.noSelect all.toArray && edgesOk 0 all) (.pure (.normal, ts))
  | i, o :: l, ts, fs => .trace (gstepA P E S X R all o ts) fun ts r w => drawA all bef (i + 1) l ts ((i, r, w) :: fs)

def thenA (f : Tmps → AM (AExit × Tmps)) (p : AExit × Tmps) : AM (AExit × Tmps) :=
  match p.1 with
  | .normal => f p.2
  | _ => .pure p

def blockA (id : Nat) (p : AExit × Tmps) : AExit × Tmps :=
  match p.1 with
  | .exit i => match Nat.beq i id with
    | true => (.normal, p.2)
    | false => p
  | _ => p

def endLoopA (id : Nat) (ts : Tmps) : AM (AExit × Tmps) :=
  .read id fun b => match b with
    | .loop ls ps as bd st pend => .need (match st with | .busy => false | _ => true) (.upd id (some (.loop ls ps as bd .exhausted pend))
      (match pend with
        | none => .pure (.normal, ts)
        | some .ret => .pure (.ret, ts)
        | some (.exit i) => .pure (.exit i, ts)
        | _ => .fail))
    | _ => .fail

def loopA (f : FuncId) (p : List Bool) (rd : Bool) (c : Code) : Nat → Tmps → AM (AExit × Tmps)
  | 0, _ => .fail
  | n + 1, ts => (R f (false :: p) rd c ts).bind (thenA (loopA f p rd c n))

def execF (n : Nat) (f : FuncId) (p : List Bool) (rd : Bool) (c : Code) (ts : Tmps) : AM (AExit × Tmps) :=
  match c with
  | .skip | .label _ => .pure (.normal, ts)
  | .region _ ops draw => match draw with
    | false => opsA P E S X R ops.toList ops.toList ts
    | true => drawA P E S X R ops.toList (before ops.toList []) 0 ops.toList ts []
  | .seq a b => (R f (false :: p) rd a ts).bind (thenA (R f (true :: p) rd b))
  | .cond c a b => match evalA ts c with
    | .bool t => .br t (R f (false :: p) rd a ts) (R f (true :: p) rd b ts)
    | _ => .fail
  | .block id a => (R f (false :: p) rd a ts).bind fun p => .pure (blockA id p)
  | .loop a => match rd, L f p with
    | false, some m => m ts
    | _, _ => loopA R f p rd a n ts
  | .rangeFunc g ps as bd => match rd, evalA ts g with
    | false, .fn g cap => .alloc (.loop ts ps.toList as bd .ready none) fun id => (callB P E S R g (.yld id :: cap)).bind fun _ => endLoopA id ts
    | _, _ => .fail
  | .exit id => .pure (.exit id, ts)
  | .scope a => R f (false :: p) rd a ts
  | .ret => .pure (.ret, ts)
  | _ => .fail

def exec : Nat → Walk
  | 0, _, _, _, _, _ => .fail
  | n + 1, f, p, rd, c, ts => execF P E S X L (exec n) n f p rd c ts
end defs

/-! ### An activation -/

def DefOK (ι : Inj) (h : Log) (w : World) (nb : Nat) (ds : List Deferred) : Prop :=
  (∀ d ∈ ds, ∃ r, d.target = .collected r ∧ nb ≤ r ∧ w.heap[r]? = some (.deferred (some [])) ∧ ¬ Live ι h r) ∧ ds.Pairwise fun x y => x.target ≠ y.target

theorem lt_of_heap {w : World} {r : Nat} {o : Obj} (h : w.heap[r]? = some o) : r < w.heap.size := by
  rcases Nat.lt_or_ge r w.heap.size with h' | h'
  · exact h'
  · simp [Array.getElem?_eq_none h'] at h

theorem DefOK.keeps {ι ι' : Inj} {h h' : Log} {w w' : World} {nb : Nat} {ds : List Deferred} (hd : DefOK ι h w nb ds) (k : Keeps ι h w ι' h' w') : DefOK ι' h' w' nb ds :=
  ⟨fun d hm => let ⟨r, h1, h2, h3, h4⟩ := hd.1 d hm
    ⟨r, h1, h2, by rw [k.block r (lt_of_heap h3) h4]; exact h3, fun hl => h4 (k.live r (lt_of_heap h3) hl)⟩, hd.2⟩

theorem DefOK.nil (ι : Inj) (h : Log) (w : World) (nb : Nat) : DefOK ι h w nb [] := ⟨fun _ hm => by simp at hm, .nil⟩

structure Fit (E : Nat → Nat → Seg) (ra : Nat → Nat → Nat × Nat) (base : Nat) (ι : Inj) (h : Log) (w : World) (nb : Nat) (ts : Tmps) (a : Act) : Prop where
  rel : WRel E ra base ι h w
  tmps : RelL E ra ι ts a.tmps.toList
  defs : DefOK ι h w nb a.defers
  size : nb ≤ w.heap.size


theorem evalA_sound {ι : Inj} {ts : Tmps} {a : Act} (h : RelL E ra ι ts a.tmps.toList) (x : Operand) : Rel E ra ι (evalA ts x) (a.eval x) := by
  cases x with
  | tmp t =>
    have := h.getD t undef
    have e : a.tmps.toList.getD t undef = a.tmps.getD t undef := by
      rw [Array.getD_eq_getD_getElem?, List.getD_eq_getElem?_getD, Array.getElem?_toList]
    rw [e] at this
    exact this
  | const v => exact rel_absV ι v
  | global g => exact .undef _
  | func f => exact .fn .nil

theorem put_rel {ι : Inj} {ts : Tmps} {a : Act} (h : RelL E ra ι ts a.tmps.toList) (dst : Option Tmp) {v : AVal} {v' : Value} (hv : Rel E ra ι v v') : RelL E ra ι (putA ts dst v) (a.put dst v').tmps.toList := by
  cases dst with
  | none => exact h
  | some d => simpa [putA, Act.put] using h.set d hv

theorem put_defers (a : Act) (dst : Option Tmp) (v : Value) : (a.put dst v).defers = a.defers := by cases dst <;> rfl

theorem Fit.put {ι ι' : Inj} {h h' : Log} {w w' : World} {nb : Nat} {ts : Tmps} {a : Act} (f : Fit E ra base ι h w nb ts a) (H : WRel E ra base ι' h' w') (k : Keeps ι h w ι' h' w') (dst : Option Tmp) {v : AVal} {v' : Value} (hv : Rel E ra ι' v v') :
    Fit E ra base ι' h' w' nb (putA ts dst v) (a.put dst v') :=
  ⟨H, put_rel (f.tmps.mono k.ext) dst hv, by rw [put_defers]; exact f.defs.keeps k, Nat.le_trans f.size k.size⟩

theorem Fit.move {ι ι' : Inj} {h h' : Log} {w w' : World} {nb : Nat} {ts : Tmps} {a : Act} (f : Fit E ra base ι h w nb ts a) (H : WRel E ra base ι' h' w') (k : Keeps ι h w ι' h' w') : Fit E ra base ι' h' w' nb ts a :=
  ⟨H, f.tmps.mono k.ext, f.defs.keeps k, Nat.le_trans f.size k.size⟩

theorem loadVar_sound {ι : Inj} {h : Log} {w : World} (H : WRel E ra base ι h w) {t : TypeId} {a : AVal} {a' : Value} (ha : Rel E ra ι a a') {v : AVal} {d : Log} {r : List Nat} (hr : (loadA P E t a).Runs h v d r) :
    d = [] ∧ ∃ x v', a' = .pointer (some x) ∧ (loadVar t x).run P w = .ok v' w ∧ Rel E ra ι v v' := by
  simp only [loadA] at hr
  cases hi : P.info? t with
  | none => simp [hi, AM.Runs] at hr
  | some inf =>
    simp only [hi, runs_bind] at hr
    obtain ⟨cs, d₁, r₁, d₂, r₂, h1, h2, rfl, rfl⟩ := hr
    obtain ⟨rfl, b, x, vs, rfl, hl, hR, hc⟩ := cellsA_sound H ha h1
    have hlen := hR.length
    cases hu : P.underlying t with
    | none => simp [shapeA, hu, AM.Runs] at h2
    | some td =>
      have hagg := run_isAgg hu w
      have hsz := run_sizeOf hi w
      cases hag : aggB td with
      | true =>
        rw [hag] at hagg
        simp only [shapeA, hu, hag] at h2
        obtain ⟨rfl, rfl, rfl⟩ := h2
        refine ⟨rfl, _, .agg vs.toArray, rfl, ?_, .agg hR⟩
        simp [loadVar, hagg, hsz, run_loadCells' hl hc]
      | false =>
        rw [hag] at hagg
        simp only [shapeA, hu, hag] at h2
        match cs, vs, hR, hlen, h2 with
        | [v₀], [y], hR, _, h2 =>
          obtain ⟨rfl, rfl, rfl⟩ := h2
          refine ⟨rfl, _, y, rfl, ?_, ?_⟩
          · have hc0 := hc 0 (by simp at hl; omega)
            simp only [Nat.add_zero, List.getElem?_cons_zero] at hc0
            simp [loadVar, hagg, hc0]
          · cases hR with | cons h _ => exact h
        | [], _, _, _, h2 => simp [one1, AM.Runs] at h2
        | _ :: _ :: _, _, _, _, h2 => simp [one1, AM.Runs] at h2

/-! ### A function's results -/

def oneS (tmps : Array Value) : ResultVar → Sem Value
  | .tmp t => pure (tmps.getD t undef)
  | .cell a t => do loadVar t (← asAddr (tmps.getD a undef))

theorem oneA_sound {ι : Inj} {h : Log} {w : World} (H : WRel E ra base ι h w) {ts : Tmps} {tmps : Array Value} (ht : RelL E ra ι ts tmps.toList) (r : ResultVar) {v : AVal} {d : Log} {rs : List Nat} (hr : (oneA P E ts r).Runs h v d rs) :
    d = [] ∧ ∃ v', (oneS tmps r).run P w = .ok v' w ∧ Rel E ra ι v v' := by
  have hev : ∀ t, Rel E ra ι (ts.getD t .undef) (tmps.getD t undef) := fun t => by
    have := ht.getD t undef
    rwa [show tmps.toList.getD t undef = tmps.getD t undef by rw [Array.getD_eq_getD_getElem?, List.getD_eq_getElem?_getD, Array.getElem?_toList]] at this
  cases r with
  | tmp t =>
    obtain ⟨rfl, rfl, rfl⟩ := hr
    exact ⟨rfl, _, rfl, hev t⟩
  | cell a t =>
    simp only [oneA] at hr
    obtain ⟨h1, x, v', h2, h3, h4⟩ := loadVar_sound (P := P) H (hev a) hr
    exact ⟨h1, v', by simp [oneS, h2, asAddr, h3], h4⟩

theorem allA_sound {ι : Inj} {h : Log} {w : World} (H : WRel E ra base ι h w) {ts : Tmps} {tmps : Array Value} (ht : RelL E ra ι ts tmps.toList) : ∀ (l : List ResultVar) {vs : List AVal} {d : Log} {rs : List Nat}, (allA P E ts l).Runs h vs d rs →
    d = [] ∧ ∃ f : ResultVar → Value, (∀ x ∈ l, (oneS tmps x).run P w = .ok (f x) w) ∧ RelL E ra ι vs (l.map f) := by
  let f : ResultVar → Value := fun x => match (oneS tmps x).run P w with
    | .ok v _ => v
    | .halt _ _ => undef
  have key : ∀ (l : List ResultVar) {vs : List AVal} {d : Log} {rs : List Nat}, (allA P E ts l).Runs h vs d rs → d = [] ∧ (∀ x ∈ l, (oneS tmps x).run P w = .ok (f x) w) ∧ RelL E ra ι vs (l.map f) := by
    intro l
    induction l with
    | nil =>
      rintro vs d rs ⟨rfl, rfl, rfl⟩
      exact ⟨rfl, fun _ hx => by simp at hx, .nil⟩
    | cons r l ih =>
      intro vs d rs hr
      simp only [allA, runs_bind] at hr
      obtain ⟨v, d₁, r₁, d₂, r₂, h1, ⟨us, d₃, r₃, d₄, r₄, h2, ⟨rfl, rfl, rfl⟩, rfl, rfl⟩, rfl, rfl⟩ := hr
      obtain ⟨rfl, v', g1, g2⟩ := oneA_sound H ht r h1
      obtain ⟨rfl, g3, g4⟩ := ih h2
      have hf : f r = v' := by simp only [f, g1]
      refine ⟨rfl, fun x hx => ?_, ?_⟩
      · rcases List.mem_cons.1 hx with rfl | hx
        · rw [hf]; exact g1
        · exact g3 x hx
      · rw [List.map_cons, hf]; exact .cons g2 g4
  exact fun l vs d rs hr => let ⟨h1, h2, h3⟩ := key l hr; ⟨h1, f, h2, h3⟩

theorem resA_sound {ι : Inj} {h : Log} {w : World} (H : WRel E ra base ι h w) {ts : Tmps} {tmps : Array Value} (ht : RelL E ra ι ts tmps.toList) {fn : Func} {v : AVal} {d : Log} {rs : List Nat} (hr : (resA P E fn ts).Runs h v d rs) :
    d = [] ∧ ∃ v', (results fn tmps).run P w = .ok v' w ∧ Rel E ra ι v v' := by
  have hres : ∀ f : ResultVar → Value, (∀ x ∈ fn.results.toList, (oneS tmps x).run P w = .ok (f x) w) →
      (results fn tmps).run P w = .ok (if h : (fn.results.map f).size = 1 then (fn.results.map f)[0] else .tuple (fn.results.map f)) w := by
    intro f hf
    have hm := run_mapM (P := P) (w := w) (oneS tmps) f fn.results hf
    have e : results fn tmps = (do let vs ← fn.results.mapM (oneS tmps); pure (if h : vs.size = 1 then vs[0] else .tuple vs)) := rfl
    rw [e, Sem.run_bind, hm]
    rfl
  unfold resA at hr
  split at hr
  · rename_i r hl
    obtain ⟨h1, v', h2, h3⟩ := oneA_sound H ht r hr
    have := hres (fun _ => v') (fun x hx => by rw [hl] at hx; simp at hx; subst hx; exact h2)
    refine ⟨h1, v', ?_, h3⟩
    rw [this]
    have hs : fn.results.size = 1 := by rw [← Array.length_toList, hl]; rfl
    simp [hs]
  · rename_i hne
    simp only [runs_bind] at hr
    obtain ⟨vs, d₁, r₁, d₂, r₂, h1, ⟨rfl, rfl, rfl⟩, rfl, rfl⟩ := hr
    obtain ⟨rfl, f, h2, h3⟩ := allA_sound H ht _ h1
    refine ⟨rfl, _, hres f h2, ?_⟩
    have hs : (fn.results.map f).size ≠ 1 := by
      intro he
      simp only [← Array.length_toList] at he
      match hh : fn.results.toList with
      | [r] => exact hne r hh
      | [] => simp [hh] at he
      | _ :: _ :: _ => simp [hh] at he
    rw [dif_neg hs]
    have : fn.results.map f = (fn.results.toList.map f).toArray := by apply Array.ext'; simp
    rw [this]
    exact .tup h3

end Go.Proofs.Ytbdjcekekhgnkaa.Ab

namespace Go.Proofs.Ytbdjcekekhgnkaa.Ab

variable {P : Program} {E : Nat → Nat → Seg} {ra : Nat → Nat → Nat × Nat} {base : Nat} {S : Sums} {X : Exts} {R : Walk}

abbrev FW (ro : Option Nat) : Fence := { fn := fun _ => True, depth := none, alive := false, round := ro }

theorem FW_none : FW none = Fence.wide := rfl

/-- the part of a code to which a turn leads -/
def kid : Code → Bool → Option Code
  | .seq a _, false => some a
  | .seq _ b, true => some b
  | .cond _ a _, false => some a
  | .cond _ _ b, true => some b
  | .block _ a, false => some a
  | .loop a, false => some a
  | .scope a, false => some a
  | _, _ => none

/-- the code at a place: the last turn first -/
def codeAt (P : Program) (f : FuncId) : List Bool → Option Code
  | [] => match P.funcs[f]? with
    | some fn => fn.body
    | none => none
  | b :: p => match codeAt P f p with
    | some c => kid c b
    | none => none

def At (P : Program) (f : FuncId) (p : List Bool) (c : Code) : Prop := f = noF ∨ codeAt P f p = some c

theorem At.kid {f : FuncId} {p : List Bool} {c c' : Code} (h : At P f p c) {b : Bool} (hk : Ab.kid c b = some c') : At P f (b :: p) c' :=
  h.imp id fun e => by simp only [codeAt, e]; exact hk

def ExecOK (P : Program) (E : Nat → Nat → Seg) (ra : Nat → Nat → Nat × Nat) (base : Nat) (R : Walk) : Prop :=
  ∀ (f : FuncId) (pl : List Bool) (ro : Option Nat) (c : Code) (ts : Tmps) (ι : Inj) (h : Log) (w : World) (nb : Nat) (a : Act) (p : AExit × Tmps) (d : Log) (r : List Nat),
    At P f pl c → Fit E ra base ι h w nb ts a → (R f pl ro.isSome c ts).Runs h p d r → ∀ Q : Exit → Act → World → Prop,
    (∀ ι' a' w', Fit E ra base ι' (d ++ h) w' nb p.2 a' → Keeps ι h w ι' (d ++ h) w' → Q p.1.toExit a' w') → c.wpIn (FW ro) 0 P Q a w

def CallOK (P : Program) (E : Nat → Nat → Seg) (ra : Nat → Nat → Nat × Nat) (base : Nat) (f : FuncId) (as : List AVal) (h : Log) (v : AVal) (d : Log) : Prop :=
  ∀ (ι : Inj) (w : World) (as' : Array Value), WRel E ra base ι h w → RelL E ra ι as as'.toList →
    CallsIn (FW none) 0 P f as' w fun e w' => ∃ v' ι', e = .returned v' ∧ Rel E ra ι' v v' ∧ WRel E ra base ι' (d ++ h) w' ∧ Keeps ι h w ι' (d ++ h) w'

def HasBody (P : Program) (f : FuncId) : Prop := ∃ fn, P.funcs[f]? = some fn ∧ fn.body.isSome = true

def SumsOK (P : Program) (E : Nat → Nat → Seg) (ra : Nat → Nat → Nat × Nat) (base : Nat) (S : Sums) : Prop :=
  ∀ f s, S f = some s → HasBody P f ∧ ∀ as h v d r, (s as).Runs h v d r → CallOK P E ra base f as h v d

def ExtsOK (P : Program) (E : Nat → Nat → Seg) (ra : Nat → Nat → Nat × Nat) (X : Exts) : Prop :=
  ∀ f x as h v d r, X f = some x → (x as).Runs h v d r → d = [] ∧ ∀ (ι : Inj) (w : World) (as' : Array Value), RelL E ra ι as as'.toList → ∃ v', (callFunc f as').run P w = .ok (.value v') w ∧ Rel E ra ι v v'

/-- told loops: each is what its code does, where it stands -/
def LoopsOK (P : Program) (E : Nat → Nat → Seg) (ra : Nat → Nat → Nat × Nat) (base : Nat) (L : Loops) : Prop :=
  ∀ f pl m, L f pl = some m → f ≠ noF ∧ ∀ c, codeAt P f pl = some (.loop c) → ∀ (ts : Tmps) (ι : Inj) (h : Log) (w : World) (nb : Nat) (a : Act) (p : AExit × Tmps) (d : Log) (r : List Nat),
    Fit E ra base ι h w nb ts a → (m ts).Runs h p d r → ∀ Q : Exit → Act → World → Prop,
    (∀ ι' a' w', Fit E ra base ι' (d ++ h) w' nb p.2 a' → Keeps ι h w ι' (d ++ h) w' → Q p.1.toExit a' w') → (Code.loop c).wpIn (FW none) 0 P Q a w

def NamesOK (P : Program) : Prop := ∀ (f : FuncId) (fn : Func), P.funcs[f]? = some fn → (fn.name == "runtime.NumGoroutine") = false

theorem run_callFunc {f : FuncId} (hn : NamesOK P) (hb : HasBody P f) (as : Array Value) (w : World) : (callFunc f as).run P w = .ok (.enter f as) w := by
  obtain ⟨fn, h1, h2⟩ := hb
  have h3 : fn.name ≠ "runtime.NumGoroutine" := by simpa using hn f fn h1
  have h4 : fn.body ≠ none := by cases hh : fn.body <;> simp_all
  simp [callFunc, program, Sem.run, h1, h3, h4]

/-! ### A function -/

theorem leaves_marks {ι ι' : Inj} {h h' : Log} {w : World} {fn : Func} {ts : Tmps} {tmps : Array Value} {v : AVal} {rs : List Nat} {d : Log}
    (hle : ∀ b, Ro base b → b < w.heap.size) (ht : RelL E ra ι' ts tmps.toList) (hr : (resA P E fn ts).Runs h' v d rs) : ∀ (ds : List Deferred) (w' : World),
    DefOK ι' h' w' w.heap.size ds → WRel E ra base ι' h' w' → Keeps ι h w ι' h' w' →
    LeavesInM (FW none) 0 P fn tmps (fun e w' => ∃ v' ι', e = .returned v' ∧ Rel E ra ι' v v' ∧ WRel E ra base ι' h' w' ∧ Keeps ι h w ι' h' w') ds .returning w' := by
  intro ds
  induction ds with
  | nil =>
    intro w' _ H k
    obtain ⟨_, v', h1, h2⟩ := resA_sound H ht hr
    exact ⟨v', h1, v', ι', rfl, h2, H, k⟩
  | cons m ds ih =>
    intro w' hd H k
    obtain ⟨r, h1, h2, h3, h4⟩ := hd.1 m (by simp)
    refine ⟨by simp, .inl ⟨r, _, h1, run_takeDeferred h3, ih _ ⟨fun m' hm' => ?_, (List.pairwise_cons.1 hd.2).2⟩ ?_ ?_⟩⟩
    · obtain ⟨r', g1, g2, g3, g4⟩ := hd.1 m' (by simp [hm'])
      refine ⟨r', g1, g2, ?_, g4⟩
      have hne : r' ≠ r := fun e => (List.pairwise_cons.1 hd.2).1 m' hm' (by rw [h1, g1, e])
      rw [World.putObj_heap_other hne]; exact g3
    · refine ⟨H.dom, fun id B hB => (H.own id B hB).mono (.refl _) fun b o sz hb => World.putObj_heap_other fun e => h4 ⟨id, B, o, sz, hB, e ▸ hb⟩, H.inj, by rw [World.putObj_size]; exact H.le, H.roLt, H.roWF,
        H.roKeep (.refl _) fun b hb => World.putObj_heap_other fun e => ?_⟩
      have := hle b hb; omega
    · refine ⟨k.ext, k.os, k.tape, k.output, by rw [World.putObj_size]; exact k.size, fun b hb hn => ?_, k.live⟩
      rw [World.putObj_heap_other (by omega)]; exact k.block b hb hn

theorem resA_nil {h : Log} {fn : Func} {ts : Tmps} {ι : Inj} {w : World} {tmps : Array Value} {v : AVal} {rs : List Nat} {d : Log} (H : WRel E ra base ι h w) (ht : RelL E ra ι ts tmps.toList) (hr : (resA P E fn ts).Runs h v d rs) : d = [] :=
  (resA_sound H ht hr).1

theorem wide_n {n : Nat} {ro : Option Nat} : (FW ro).depth.isSome = true → 1 ≤ n := fun h => by simp at h

theorem callB_sound (hR : ExecOK P E ra base R) (hS : SumsOK P E ra base S) {f : FuncId} {as : List AVal} {h : Log} {v : AVal} {d : Log} {r : List Nat} (hr : (callB P E S R f as).Runs h v d r) :
    HasBody P f ∧ CallOK P E ra base f as h v d := by
  unfold callB at hr
  split at hr
  · rename_i s hs
    exact ⟨(hS f s hs).1, (hS f s hs).2 _ _ _ _ _ hr⟩
  · split at hr
    · rename_i fn hf
      split at hr
      · rename_i c hc
        refine ⟨⟨fn, hf, by simp [hc]⟩, fun ι w as' H ha => ?_⟩
        rw [runs_bind] at hr
        obtain ⟨p, d₁, r₁, d₂, r₂, h1, h2, rfl, rfl⟩ := hr
        have hlen : as'.size = as.length := by rw [← Array.length_toList]; exact ha.length
        refine callsIn_of_wp_marks hf hc trivial ?_
        have hfit : Fit E ra base ι h w w.heap.size (as ++ List.replicate (fn.ntmps - as.length) .undef) { tmps := as' ++ Array.replicate (fn.ntmps - as'.size) undef, defers := [] } :=
          ⟨H, by simp only [Array.toList_append, Array.toList_replicate, hlen]; exact ha.append (.replicate (.undef _) _), .nil _ _ _ _, Nat.le_refl _⟩
        refine hR f [] none c _ ι h w w.heap.size _ p d₁ r₁ (.inr (by simp only [codeAt, hf]; exact hc)) hfit h1 _ fun ι' a' w' hfit' k => ?_
        obtain ⟨e, ts⟩ := p
        have fin : (resA P E fn ts).Runs (d₁ ++ h) v d₂ r₂ → LeavesInM (FW none) 0 P fn a'.tmps (fun e w'' => ∃ v' ι'', e = .returned v' ∧ Rel E ra ι'' v v' ∧ WRel E ra base ι'' (d₂ ++ d₁ ++ h) w'' ∧ Keeps ι h w ι'' (d₂ ++ d₁ ++ h) w'') a'.defers .returning w' := by
          intro h2
          have hd := resA_nil hfit'.rel hfit'.tmps h2
          subst hd
          exact leaves_marks H.le hfit'.tmps h2 a'.defers w' hfit'.defs hfit'.rel k
        cases e with
        | normal => exact fin h2
        | ret => exact fin h2
        | exit id => exact (h2 : False).elim
      · exact hr.elim
    · exact hr.elim

/-! ### Rounds -/

theorem setAll_rel {ι : Inj} : ∀ (ps : List Tmp) (vs : List AVal) (us : List Value) (ts : Tmps) (tmps : Array Value), RelL E ra ι vs us → RelL E ra ι ts tmps.toList →
    RelL E ra ι (setAllA ts ps vs) ((ps.zip us).foldl (fun tmps (x : Tmp × Value) => tmps.setIfInBounds x.1 x.2) tmps).toList
  | [], _, _, _, _, hv, ht => by cases hv <;> exact ht
  | p :: ps, _, _, ts, tmps, hv, ht => by
    cases hv with
    | nil => exact ht
    | cons hv hvs => exact setAll_rel ps _ _ _ _ hvs (by simpa using ht.set p hv)

/-- A loop's record, found. -/
theorem loop_at {ι : Inj} {h : Log} {w : World} (H : WRel E ra base ι h w) {id : Nat} {ts : Tmps} {ps : List Nat} {as bd : Code} {st : LoopState} {pe : Option Code} (hv : view h id = some (.loop ts ps as bd st pe)) {b o sz : Nat} (hb : ι id = some (b, o, sz)) :
    ∃ l, w.heap[b]? = some (.loop l) ∧ ¬ Ro base b ∧ RelL E ra ι ts l.tmps.toList ∧ l.params.toList = ps ∧ l.assign = as ∧ l.body = bd ∧ l.state = st ∧ l.pending = pe := by
  obtain ⟨b', o', sz', l, h1, h2, h3, h4⟩ := H.own id _ hv
  rw [hb] at h1
  simp only [Option.some.injEq, Prod.mk.injEq] at h1
  obtain ⟨rfl, rfl, rfl⟩ := h1
  exact ⟨l, h3, h2, h4⟩

/-- It turns. -/
theorem loop_turn {ι : Inj} {h : Log} {w : World} (H : WRel E ra base ι h w) {id : Nat} {B : Blk} (hv : view h id = some B) {b o sz : Nat} (hb : ι id = some (b, o, sz)) {l : Loop} (hlt : b < w.heap.size) (hge : ¬ Ro base b)
    {ts : Tmps} {ps : List Nat} {as bd : Code} {st : LoopState} {pe : Option Code} (h4 : RelL E ra ι ts l.tmps.toList ∧ l.params.toList = ps ∧ l.assign = as ∧ l.body = bd ∧ l.state = st ∧ l.pending = pe) :
    WRel E ra base ι ((id, some (.loop ts ps as bd st pe)) :: h) (w.putObj b (.loop l)) ∧ Keeps ι h w ι ((id, some (.loop ts ps as bd st pe)) :: h) (w.putObj b (.loop l)) :=
  H.turn hv hb (fun _ hk => World.putObj_heap_other hk) World.putObj_size rfl rfl rfl ⟨b, o, sz, l, hb, hge, World.putObj_heap_same hlt, h4⟩

/-- Yield's contract, in the world. -/
theorem yieldA_sound (hR : ExecOK P E ra base R) {ι : Inj} {h : Log} {w : World} (H : WRel E ra base ι h w) {id : Nat} {args : List AVal} {args' : Array Value} (ha : RelL E ra ι args args'.toList) {b o sz : Nat} (hb : ι id = some (b, o, sz))
    {v : AVal} {d : Log} {r : List Nat} (hr : (yieldA R id args).Runs h v d r) :
    ∃ (g : FuncId) (tmps : Array Value) (as bd : Code), (Instr.yield b args').run P w = .ok (.round b g tmps as bd) w ∧
      ∀ ro, RoundIn (FW ro) 0 P b g tmps as bd w fun e w' => ∃ v' ι', e = .returned v' ∧ Rel E ra ι' v v' ∧ WRel E ra base ι' (d ++ h) w' ∧ Keeps ι h w ι' (d ++ h) w' := by
  simp only [yieldA, AM.Runs] at hr
  obtain ⟨B, r', hv, rfl, hr⟩ := hr
  cases B with
  | segs _ => exact hr.elim
  | map _ => exact hr.elim
  | loop ts ps as bd st pe =>
    obtain ⟨hlen, hr⟩ := hr
    have hlen := Nat.eq_of_beq_eq_true hlen
    rw [runs_bind] at hr
    obtain ⟨⟨e, t₁⟩, d₁, r₁, d₂, r₂, h1, h2, rfl, rfl⟩ := hr
    obtain ⟨l, l1, l2, l3, l4, l5, l6, l7, l8⟩ := loop_at H hv hb
    have hs : args'.size = l.params.size := by rw [← Array.length_toList, ← Array.length_toList, l4, hlen]; exact ha.length
    refine ⟨_, _, _, _, run_yield l1 hs, fun ro => roundIn_of_wpIn trivial ?_⟩
    have htm : RelL E ra ι (setAllA ts ps args) ((l.params.zip args').foldl (fun tmps (t, a) => tmps.setIfInBounds t a) l.tmps).toList := by
      have := setAll_rel (E := E) (ra := ra) (ι := ι) ps args args'.toList ts l.tmps ha l3
      rw [← Array.foldl_toList, Array.toList_zip, l4]
      exact this
    rw [l5, l6]
    cases e with
    | exit _ => exact (h2 : False).elim
    | ret => exact (h2 : False).elim
    | normal =>
      simp only [beginA, busyA, AM.Runs] at h2
      obtain ⟨B, r₃, hv₂, rfl, h2⟩ := h2
      refine hR noF [] (some b) as _ ι h w 0 { tmps := _, defers := [] } _ d₁ r₁ (.inl rfl) ⟨H, htm, .nil _ _ _ _, Nat.zero_le _⟩ h1 _ fun ι₁ a₁ w₁ f₁ k₁ => ?_
      match B, h2 with
      | .loop ts₂ ps₂ as₂ bd₂ .ready pe₂, h2 =>
        obtain ⟨B', d₃, r₄, hv₃, rfl, rfl, h3⟩ := h2
        rw [runs_bind] at h3
        obtain ⟨⟨e₂, t₂⟩, d₄, r₅, d₅, r₆, h4, h5, rfl, rfl⟩ := h3
        obtain ⟨l', m1, m2, m3, m4, m5, m6, m7, m8⟩ := loop_at f₁.rel hv₂ (k₁.ext _ _ hb)
        refine ⟨_, run_beginRound m1 m7, ?_⟩
        have T := loop_turn f₁.rel hv₂ (k₁.ext _ _ hb) (l := { l' with state := .busy }) (lt_of_heap m1) m2 (ts := ts₂) (ps := ps₂) (as := as₂) (bd := bd₂) (st := .busy) (pe := pe₂) ⟨m3, m4, m5, m6, rfl, m8⟩
        refine hR noF [] (some b) bd _ ι₁ _ _ 0 a₁ _ d₄ r₅ (.inl rfl) (f₁.move T.1 T.2) h4 _ fun ι₂ a₂ w₂ f₂ k₂ => ?_
        simp only [endRoundA, AM.Runs] at h5
        obtain ⟨B₃, r₇, hv₄, rfl, h5⟩ := h5
        match B₃, h5 with
        | .loop ts₃ ps₃ as₃ bd₃ .busy pe₃, h5 =>
          obtain ⟨B₄, d₆, r₈, hv₅, rfl, rfl, rfl, rfl, rfl⟩ := h5
          have hb₂ := k₂.ext _ _ (k₁.ext _ _ hb)
          obtain ⟨l₂, n1, n2, n3, n4, n5, n6, n7, n8⟩ := loop_at f₂.rel hv₄ hb₂
          have fin : ∀ (jump : Option Code), ∃ v w', (Instr.endRound b jump).run P w₂ = .ok v w' ∧ v = .bool jump.isNone ∧
              WRel E ra base ι₂ ((id, some (.loop ts₃ ps₃ as₃ bd₃ (if jump.isNone then .ready else .done) jump)) :: (d₄ ++ (id, some (.loop ts₂ ps₂ as₂ bd₂ .busy pe₂)) :: (d₁ ++ h))) w' ∧
              Keeps ι h w ι₂ ((id, some (.loop ts₃ ps₃ as₃ bd₃ (if jump.isNone then .ready else .done) jump)) :: (d₄ ++ (id, some (.loop ts₂ ps₂ as₂ bd₂ .busy pe₂)) :: (d₁ ++ h))) w' := by
            intro jump
            have T₂ := loop_turn f₂.rel hv₄ hb₂ (l := { l₂ with state := if jump.isNone then .ready else .done, pending := jump }) (lt_of_heap n1) n2 (ts := ts₃) (ps := ps₃) (as := as₃) (bd := bd₃) (st := if jump.isNone then .ready else .done) (pe := jump) ⟨n3, n4, n5, n6, rfl, rfl⟩
            exact ⟨_, _, run_endRound jump n1, rfl, T₂.1, ((k₁.trans T.2).trans k₂).trans T₂.2⟩
          cases e₂ with
          | normal =>
            obtain ⟨v, w', g1, rfl, g3, g4⟩ := fin none
            exact ⟨_, w', g1, _, ι₂, rfl, .bool true, by simpa [AExit.jump] using g3, by simpa [AExit.jump] using g4⟩
          | exit i =>
            obtain ⟨v, w', g1, rfl, g3, g4⟩ := fin (some (.exit i))
            exact ⟨_, w', g1, _, ι₂, rfl, .bool false, by simpa [AExit.jump] using g3, by simpa [AExit.jump] using g4⟩
          | ret =>
            obtain ⟨v, w', g1, rfl, g3, g4⟩ := fin (some .ret)
            exact ⟨_, w', g1, _, ι₂, rfl, .bool false, by simpa [AExit.jump] using g3, by simpa [AExit.jump] using g4⟩

/-! ### An operation -/

theorem opA_sound (hR : ExecOK P E ra base R) (hS : SumsOK P E ra base S) (hX : ExtsOK P E ra X) (hN : NamesOK P) {ι : Inj} {h : Log} {w : World} {a : Act} (H : WRel E ra base ι h w) {ρ : Operand → AVal} (hρ : ∀ x, Rel E ra ι (ρ x) (a.eval x))
    {o : Oper} {v : AVal} {d : Log} {r : List Nat} (hr : (opA P E S X R o ρ).Runs h v d r) (ro : Option Nat) {K : Act → World → Prop} {Q : Exit → Act → World → Prop}
    (hK : ∀ ι' v' w', Rel E ra ι' v v' → WRel E ra base ι' (d ++ h) w' → Keeps ι h w ι' (d ++ h) w' → K (a.put o.dst v') w') : o.wpIn (FW ro) 0 P a w K Q := by
  have simple : (aop P E o.op ρ).Runs h v d r → (∀ c, o.op ≠ .defer c) → o.wpIn (FW ro) 0 P a w K Q := by
    intro hr hnd
    obtain ⟨w', ι', h1, h2, h3⟩ := aop_sound H hρ hr
    refine ⟨fun _ _ => trivial, ?_⟩
    rw [Oper.semAt_eq _ _ _ hnd]
    rcases h1 with ⟨v', h1, h4⟩ | ⟨h1, rfl⟩
    · rw [h1]; exact hK ι' v' w' h4 h2 h3
    · rw [h1]; exact hK ι' undef w' (.undef _) h2 h3
  unfold opA at hr
  split at hr
  · rename_i c hc
    have hnd : ∀ c, o.op ≠ .defer c := fun c' h => by rw [hc] at h; cases h
    split at hr
    · rename_i f hf
      refine ⟨fun _ _ => trivial, ?_⟩
      rw [Oper.semAt_eq _ _ _ hnd]
      have hargs : RelL E ra ι (c.args.toList.map ρ) (c.args.map a.eval).toList := by
        rw [Array.toList_map]; exact relL_map hρ _
      have hex : execOp a.eval o = (do let d ← Deferred.ofValue (a.eval f) (c.args.map a.eval); invoke d.target d.args) := by
        simp only [execOp, hc, resolve, hf]
      rw [hex]
      have hfr := hρ f
      split at hr
      · rename_i g cap hg
        rw [hg] at hfr
        generalize a.eval f = fv at hfr
        cases hfr with | fn hcap =>
        rename_i caps
        have hrun : Sem.run P (do let d ← Deferred.ofValue (.func (.func g) #[] caps.toArray) (c.args.map a.eval); invoke d.target d.args) w = (callFunc g (c.args.map a.eval ++ caps.toArray)).run P w := by
          simp [Deferred.ofValue, invoke]
        rw [hrun]
        have hall : RelL E ra ι (c.args.toList.map ρ ++ cap) (c.args.map a.eval ++ caps.toArray).toList := by
          rw [Array.toList_append]; exact hargs.append (by simpa using hcap)
        unfold callA at hr
        split at hr
        · rename_i x hx
          obtain ⟨rfl, h1⟩ := hX g x _ h v d r hx hr
          obtain ⟨v', h2, h3⟩ := h1 ι w _ hall
          rw [h2]
          exact hK ι v' w h3 H (.refl _ _ _)
        · obtain ⟨h1, h2⟩ := callB_sound hR hS hr
          rw [run_callFunc hN h1]
          refine ⟨wide_n, CallsIn.mono (R := fun e w' => ∃ v' ι', e = .returned v' ∧ Rel E ra ι' v v' ∧ WRel E ra base ι' (d ++ h) w' ∧ Keeps ι h w ι' (d ++ h) w') (h2 ι w _ H hall) ?_⟩
          rintro e w' ⟨v', ι', rfl, h3, h4, h5⟩
          exact hK ι' v' w' h3 h4 h5
      · rename_i id hg
        rw [hg] at hfr
        generalize a.eval f = fv at hfr
        cases hfr with | yld hb =>
        rename_i b oo sz
        obtain ⟨g, tmps, as, bd, h1, h2⟩ := yieldA_sound hR H hargs hb hr
        have hrun : Sem.run P (do let d ← Deferred.ofValue (.func (.yield b) #[] #[]) (c.args.map a.eval); invoke d.target d.args) w = (Instr.yield b (c.args.map a.eval)).run P w := by
          simp [Deferred.ofValue, invoke]
        rw [hrun, h1]
        refine ⟨wide_n, (h2 ro).mono ?_⟩
        rintro e w' ⟨v', ι', rfl, h3, h4, h5⟩
        exact hK ι' v' w' h3 h4 h5
      · exact hr.elim
    · exact simple hr hnd
    · exact hr.elim
  · rename_i hnc
    refine simple hr fun c hc => ?_
    rw [hc] at hr
    exact hr

end Go.Proofs.Ytbdjcekekhgnkaa.Ab

namespace Go.Proofs.Ytbdjcekekhgnkaa.Ab

variable {P : Program} {E : Nat → Nat → Seg} {ra : Nat → Nat → Nat × Nat} {base : Nat} {S : Sums} {X : Exts} {R : Walk}

def wantedA (all : List Oper) (o : Oper) (ts : Tmps) : Option Bool :=
  match o.guard with
  | none => some true
  | some (j, want) => match all[j]? with
    | some oj => match oj.dst with
      | some d => match ts.getD d .undef with
        | .bool b => some (b == want)
        | .tup [] => some false
        | _ => none
      | none => none
    | none => none

section
variable (P E S X R)
def StepR (all : List Oper) (o : Oper) (ts : Tmps) (h : Log) (v : AVal) (d : Log) (r : List Nat) : Prop :=
  (wantedA all o ts = some true ∧ (opA P E S X R o (evalA ts)).Runs h v d r) ∨ (wantedA all o ts = some false ∧ v = .tup [] ∧ d = [] ∧ r = [])
end

theorem set_getD : ∀ (ts : Tmps) (d : Nat) (b : Bool), ts.getD d .undef = .bool b → ts.set d (.bool b) = ts
  | [], _, _, h => by simp at h
  | x :: ts, 0, b, h => by simp at h; simp [h]
  | x :: ts, d + 1, b, h => by simpa using set_getD ts d b (by simpa using h)

theorem gstep_runs {all : List Oper} {o : Oper} {ts ts' : Tmps} {h : Log} {d : Log} {r : List Nat} (hr : (gstepA P E S X R all o ts).Runs h ts' d r) :
    ∃ v, ts' = putA ts o.dst v ∧ StepR P E S X R all o ts h v d r := by
  have fin : ((opA P E S X R o (evalA ts)).bind fun v => .pure (putA ts o.dst v)).Runs h ts' d r → wantedA all o ts = some true → ∃ v, ts' = putA ts o.dst v ∧ StepR P E S X R all o ts h v d r := by
    intro hr hw
    rw [runs_bind] at hr
    obtain ⟨v, d₁, r₁, d₂, r₂, h1, ⟨rfl, rfl, rfl⟩, rfl, rfl⟩ := hr
    exact ⟨v, rfl, .inl ⟨hw, h1⟩⟩
  have fin2 : (AM.pure (putA ts o.dst (.tup []))).Runs h ts' d r → wantedA all o ts = some false → ∃ v, ts' = putA ts o.dst v ∧ StepR P E S X R all o ts h v d r := by
    rintro ⟨rfl, rfl, rfl⟩ hw
    exact ⟨.tup [], rfl, .inr ⟨hw, rfl, rfl, rfl⟩⟩
  unfold gstepA at hr
  split at hr
  · rename_i hg
    exact fin hr (by simp [wantedA, hg])
  · rename_i j want hg
    split at hr
    · rename_i oj hj
      split at hr
      · rename_i dd hdd
        split at hr
        · rename_i b hb
          have hset := set_getD ts dd b hb
          have hw : wantedA all o ts = some (b == want) := by simp only [wantedA, hg, hj, hdd, hb]
          cases b <;> cases want <;> simp only [AM.Runs, hset] at hr
          · exact fin hr hw
          · exact fin2 hr hw
          · exact fin2 hr hw
          · exact fin hr hw
        · rename_i hb
          exact fin2 hr (by simp only [wantedA, hg, hj, hdd, hb])
        · exact hr.elim
      · exact hr.elim
    · exact hr.elim

theorem wanted_sound {ι : Inj} {ts : Tmps} {tmps : Array Value} (ht : RelL E ra ι ts tmps.toList) {ops : Array Oper} {o : Oper} {x : Bool} (h : wantedA ops.toList o ts = some x) : Region.wanted o (yielded ops tmps) = x := by
  unfold wantedA at h
  unfold Region.wanted
  split at h
  · rename_i hg
    simp only [Option.some.injEq] at h
    simp [hg, h]
  · rename_i j want hg
    split at h
    · rename_i oj hj
      split at h
      · rename_i d hd
        split at h
        · rename_i b hb
          simp only [Option.some.injEq] at h
          have hget : ts[d]? = some (.bool b) := by
            rw [List.getD_eq_getElem?_getD] at hb
            cases hh : ts[d]? with
            | none => simp [hh] at hb
            | some y => simp [hh] at hb; rw [hb]
          obtain ⟨y, hy, hry⟩ := ht.get hget
          cases hry
          have hy' : tmps[d]? = some (.bool b) := by simpa using hy
          have hj' : ops[j]? = some oj := by simpa using hj
          have : yielded ops tmps j = some b := by simp [yielded, hj', hd, hy']
          rw [hg]
          simp only [this]
          rw [← h]
          cases b <;> cases want <;> rfl
        · rename_i hb
          simp only [Option.some.injEq] at h
          have hget : ts[d]? = some (.tup []) := by
            rw [List.getD_eq_getElem?_getD] at hb
            cases hh : ts[d]? with
            | none => simp [hh] at hb
            | some y => simp [hh] at hb; rw [hb]
          obtain ⟨y, hy, hry⟩ := ht.get hget
          cases hry with
          | tup hl =>
            have hy' : tmps[d]? = some (.tuple #[]) := by cases hl; simpa using hy
            have hj' : ops[j]? = some oj := by simpa using hj
            have : yielded ops tmps j = none := by simp [yielded, hj', hd, hy']
            rw [hg]
            simp only [this]
            rw [← h]
            cases want <;> rfl
        · cases h
      · cases h
    · cases h

theorem step_sound (hR : ExecOK P E ra base R) (hS : SumsOK P E ra base S) (hX : ExtsOK P E ra X) (hN : NamesOK P) {ι : Inj} {h : Log} {w : World} {nb : Nat} {ts : Tmps} {a : Act} (hf : Fit E ra base ι h w nb ts a) {ops : Array Oper} {i : Nat} {o : Oper} (ho : ops[i]? = some o)
    {v : AVal} {d : Log} {r : List Nat} (hs : StepR P E S X R ops.toList o ts h v d r) (ro : Option Nat) {K : Act → World → Prop} {Q : Exit → Act → World → Prop}
    (hK : ∀ ι' a' w', Fit E ra base ι' (d ++ h) w' nb (putA ts o.dst v) a' → Keeps ι h w ι' (d ++ h) w' → K a' w') : wpOpIn (FW ro) 0 P ops Q i K a w := by
  unfold wpOpIn
  simp only [ho]
  rcases hs with ⟨hw, hr⟩ | ⟨hw, rfl, rfl, rfl⟩
  · rw [if_pos (wanted_sound hf.tmps hw)]
    exact opA_sound hR hS hX hN hf.rel (evalA_sound hf.tmps) hr ro fun ι' v' w' h1 h2 h3 => hK ι' _ w' (hf.put h2 h3 _ h1) h3
  · rw [if_neg (by rw [wanted_sound hf.tmps hw]; simp)]
    exact ⟨fun _ _ => trivial, hK ι _ w (hf.put hf.rel (.refl _ _ _) _ (.tup .nil)) (.refl _ _ _)⟩

theorem opsA_sound (hR : ExecOK P E ra base R) (hS : SumsOK P E ra base S) (hX : ExtsOK P E ra X) (hN : NamesOK P) {ops : Array Oper} (ro : Option Nat) {Q : Exit → Act → World → Prop} : ∀ (l : List Oper) (i : Nat), ops.toList.drop i = l → ∀ {ι : Inj} {h : Log} {w : World} {nb : Nat} {ts : Tmps} {a : Act}, Fit E ra base ι h w nb ts a →
    ∀ {p : AExit × Tmps} {d : Log} {r : List Nat}, (opsA P E S X R ops.toList l ts).Runs h p d r →
    (∀ ι' a' w', Fit E ra base ι' (d ++ h) w' nb p.2 a' → Keeps ι h w ι' (d ++ h) w' → Q p.1.toExit a' w') → wpOpsIn (FW ro) 0 P ops Q (List.range' i l.length) a w := by
  intro l
  induction l with
  | nil =>
    rintro i _ ι h w nb ts a hf p d r ⟨rfl, rfl, rfl⟩ hQ
    exact hQ ι a w hf (.refl _ _ _)
  | cons o l ih =>
    intro i hd ι h w nb ts a hf p d r hr hQ
    simp only [opsA, runs_bind] at hr
    obtain ⟨ts', d₁, r₁, d₂, r₂, h1, h2, rfl, rfl⟩ := hr
    obtain ⟨v, rfl, hs⟩ := gstep_runs h1
    have ho : ops[i]? = some o := by
      have : ops.toList[i]? = some o := by
        rw [← List.head?_drop, hd]; rfl
      simpa using this
    rw [List.length_cons, List.range'_succ, wpOpsIn_cons]
    refine step_sound hR hS hX hN hf ho hs ro fun ι' a' w' f' k' => ?_
    refine ih (i + 1) (by rw [← List.drop_drop, hd]; rfl) f' h2 fun ι₂ a₂ w₂ f₂ k₂ => ?_
    rw [List.append_assoc] at hQ
    exact hQ ι₂ a₂ w₂ f₂ (k'.trans k₂)

/-! ### In any order -/

def Eqv (h h' : Log) : Prop := (∀ i, view h' i = view h i) ∧ ∀ i, i ∈ ids h' ↔ i ∈ ids h

theorem Eqv.refl (h : Log) : Eqv h h := ⟨fun _ => rfl, fun _ => Iff.rfl⟩
theorem Eqv.symm {h h' : Log} (e : Eqv h h') : Eqv h' h := ⟨fun i => (e.1 i).symm, fun i => (e.2 i).symm⟩
theorem Eqv.trans {a b c : Log} (x : Eqv a b) (y : Eqv b c) : Eqv a c := ⟨fun i => (y.1 i).trans (x.1 i), fun i => (y.2 i).trans (x.2 i)⟩
theorem Eqv.app {h h' : Log} (e : Eqv h h') (d : Log) : Eqv (d ++ h) (d ++ h') :=
  ⟨fun i => by rw [view_append, view_append, e.1 i], fun i => by simp only [ids, List.map_append, List.mem_append]; exact or_congr Iff.rfl (e.2 i)⟩

theorem Eqv.comm {x y : Log} (h : Log) (hd : ∀ i ∈ ids y, i ∉ ids x) : Eqv (y ++ (x ++ h)) (x ++ (y ++ h)) := by
  refine ⟨fun i => ?_, fun i => ?_⟩
  · simp only [view_append]
    by_cases hx : i ∈ ids x <;> by_cases hy : i ∈ ids y <;> simp [hx, hy]
    exact absurd hx (hd i hy)
  · simp only [ids, List.map_append, List.mem_append]
    constructor
    · rintro (h | h | h) <;> simp [h]
    · rintro (h | h | h) <;> simp [h]

theorem runs_eqv {α : Type} {m : AM α} {h h' : Log} (e : Eqv h h') {a : α} {d : Log} {r : List Nat} (hr : m.Runs h a d r) : m.Runs h' a d r :=
  runs_local m h h' a d r hr (fun i _ => e.1 i) (fun i _ hn hm => hn ((e.2 i).1 hm))

theorem Live.eqv {ι : Inj} {h h' : Log} (e : Eqv h h') {b : Nat} (hl : Live ι h' b) : Live ι h b := by
  obtain ⟨id, B, o, sz, h1, h2⟩ := hl
  exact ⟨id, B, o, sz, by rw [← e.1]; exact h1, h2⟩

theorem WRel.eqv {ι : Inj} {h h' : Log} {w : World} (H : WRel E ra base ι h w) (e : Eqv h h') : WRel E ra base ι h' w :=
  ⟨fun id x hx => (e.2 id).2 (H.dom id x hx), fun id B hB => H.own id B (by rw [← e.1]; exact hB), fun id id' B B' x x' h1 h2 => H.inj id id' B B' x x' (by rw [← e.1]; exact h1) (by rw [← e.1]; exact h2), H.le, H.roLt, H.roWF, H.ro⟩

theorem Keeps.eqv {ι ι' : Inj} {h h' h'' : Log} {w w' : World} (k : Keeps ι h w ι' h' w') (e : Eqv h' h'') : Keeps ι h w ι' h'' w' :=
  ⟨k.ext, k.os, k.tape, k.output, k.size, k.block, fun b hb hl => k.live b hb (hl.eqv e)⟩

theorem DefOK.eqv {ι : Inj} {h h' : Log} {w : World} {nb : Nat} {ds : List Deferred} (hd : DefOK ι h w nb ds) (e : Eqv h h') : DefOK ι h' w nb ds :=
  ⟨fun d hm => let ⟨r, h1, h2, h3, h4⟩ := hd.1 d hm; ⟨r, h1, h2, h3, fun hl => h4 (hl.eqv e)⟩, hd.2⟩

theorem Fit.eqv {ι : Inj} {h h' : Log} {w : World} {nb : Nat} {ts : Tmps} {a : Act} (f : Fit E ra base ι h w nb ts a) (e : Eqv h h') : Fit E ra base ι h' w nb ts a := ⟨f.rel.eqv e, f.tmps, f.defs.eqv e, f.size⟩

end Go.Proofs.Ytbdjcekekhgnkaa.Ab

namespace Go.Proofs.Ytbdjcekekhgnkaa.Ab

variable {P : Program} {E : Nat → Nat → Seg} {ra : Nat → Nat → Nat × Nat} {base : Nat} {S : Sums} {X : Exts} {R : Walk}

structure Yld where
  i : Nat
  o : Oper
  v : AVal
  d : Log
  r : List Nat

section
variable (P E S X R)
def Chain (all : List Oper) : Tmps → Log → List Yld → Prop
  | _, _, [] => True
  | ts, h, y :: l => StepR P E S X R all y.o ts h y.v y.d y.r ∧ Chain all (putA ts y.o.dst y.v) (y.d ++ h) l
end

def endT : Tmps → List Yld → Tmps
  | ts, [] => ts
  | ts, y :: l => endT (putA ts y.o.dst y.v) l

def endH : Log → List Yld → Log
  | h, [] => h
  | h, y :: l => endH (y.d ++ h) l

def Indep (all : List Oper) (x y : Yld) : Prop :=
  (∀ i ∈ ids y.d, i ∉ ids x.d) ∧ (∀ i ∈ ids y.d, i ∉ x.r) ∧ (∀ i ∈ y.r, i ∉ ids x.d) ∧ x.o.apart all.toArray y.o = true

theorem chain_eqv {all : List Oper} : ∀ (l : List Yld) {ts : Tmps} {h h' : Log}, Eqv h h' → Chain P E S X R all ts h l → Chain P E S X R all ts h' l
  | [], _, _, _, _, _ => trivial
  | y :: l, _, _, _, e, hc => ⟨hc.1.imp (fun x => ⟨x.1, runs_eqv e x.2⟩) id, chain_eqv l (e.app y.d) hc.2⟩

theorem endH_eqv : ∀ (l : List Yld) {h h' : Log}, Eqv h h' → Eqv (endH h l) (endH h' l)
  | [], _, _, e => e
  | y :: l, _, _, e => endH_eqv l (e.app y.d)

/-! What an operation hangs on, of the temporaries. -/

theorem evalA_put {ts : Tmps} {dst : Option Tmp} {v : AVal} {x : Operand} (h : ∀ d, dst = some d → x ≠ .tmp d) : evalA (putA ts dst v) x = evalA ts x := by
  cases dst with
  | none => rfl
  | some d =>
    cases x with
    | tmp t =>
      have hne : d ≠ t := fun e => h d rfl (e ▸ rfl)
      simp [evalA, putA, List.getD_eq_getElem?_getD, List.getElem?_set_ne hne]
    | _ => rfl

theorem opA_congr {o : Oper} {ρ ρ' : Operand → AVal} (h : ∀ x ∈ o.op.operands, ρ x = ρ' x) : opA P E S X R o ρ = opA P E S X R o ρ' := by
  unfold opA
  split
  · rename_i c hc
    rw [hc] at h
    split
    · rename_i f hf
      have hmap : c.args.toList.map ρ = c.args.toList.map ρ' := map_congr' fun x hx => h x (by simp [Op.operands, Call.operands, hf]; exact .inr (by simpa using hx))
      have hfe : ρ f = ρ' f := h f (by simp [Op.operands, Call.operands, hf])
      rw [hmap, hfe]
    · rw [hc]; exact aop_congr h
    · rfl
  · exact aop_congr h

theorem opA_put {all : List Oper} {o : Oper} {ts : Tmps} {dst : Option Tmp} {v : AVal} (h : ∀ d, dst = some d → d ∉ o.looksAt all.toArray) : opA P E S X R o (evalA (putA ts dst v)) = opA P E S X R o (evalA ts) :=
  opA_congr fun x hx => evalA_put fun d hd hxd => h d hd (by
    subst hxd
    exact List.mem_append_left _ (List.mem_filterMap.2 ⟨.tmp d, by simpa using hx, rfl⟩))

theorem wantedA_put {all : List Oper} {o : Oper} {ts : Tmps} {dst : Option Tmp} {v : AVal} (h : ∀ d, dst = some d → d ∉ o.looksAt all.toArray) : wantedA all o (putA ts dst v) = wantedA all o ts := by
  cases dst with
  | none => rfl
  | some d =>
    unfold wantedA
    cases hg : o.guard with
    | none => rfl
    | some gw =>
      obtain ⟨g, want⟩ := gw
      simp only
      cases hj : all[g]? with
      | none => rfl
      | some oj =>
        simp only
        cases hd : oj.dst with
        | none => rfl
        | some t =>
          have hne : d ≠ t := by
            intro e
            subst e
            refine h d rfl (List.mem_append_right _ ?_)
            simp [hg, hj, hd]
          simp [putA, List.getD_eq_getElem?_getD, List.getElem?_set_ne hne]

theorem stepR_put {all : List Oper} {o : Oper} {ts : Tmps} {dst : Option Tmp} {u : AVal} (hn : ∀ d, dst = some d → d ∉ o.looksAt all.toArray) {h : Log} {v : AVal} {d : Log} {r : List Nat} :
    StepR P E S X R all o (putA ts dst u) h v d r ↔ StepR P E S X R all o ts h v d r := by
  unfold StepR
  rw [opA_put hn, wantedA_put hn]

theorem put_comm {ts : Tmps} {a b : Option Tmp} {u v : AVal} (h : ∀ d, a = some d → b ≠ some d) : putA (putA ts a u) b v = putA (putA ts b v) a u := by
  cases a with
  | none => rfl
  | some x =>
    cases b with
    | none => rfl
    | some y =>
      have : x ≠ y := fun e => h x rfl (by rw [e])
      exact List.set_comm _ _ this

/-- Two that are apart, swapped. -/
theorem swap_steps {all : List Oper} {x y : Yld} (hi : Indep all x y) {ts : Tmps} {h : Log} (h1 : StepR P E S X R all x.o ts h x.v x.d x.r) (h2 : StepR P E S X R all y.o (putA ts x.o.dst x.v) (x.d ++ h) y.v y.d y.r) :
    StepR P E S X R all y.o ts h y.v y.d y.r ∧ StepR P E S X R all x.o (putA ts y.o.dst y.v) (y.d ++ h) x.v x.d x.r := by
  obtain ⟨i1, i2, i3, i4⟩ := hi
  obtain ⟨a1, a2, a3⟩ := Oper.apart_spec i4
  rw [stepR_put a1] at h2
  rw [stepR_put a3]
  refine ⟨h2.imp (fun q => ⟨q.1, ?_⟩) id, h1.imp (fun q => ⟨q.1, ?_⟩) id⟩
  · refine runs_local _ _ _ _ _ _ q.2 (fun i hr => ?_) (fun i _ hn hm => hn (by simp only [ids, List.map_append, List.mem_append]; exact .inr hm))
    rw [view_append, if_neg (i3 i hr)]
  · refine runs_local _ _ _ _ _ _ q.2 (fun i hr => ?_) (fun i hm hn hm' => ?_)
    · rw [view_append, if_neg (fun hy => i2 i hy hr)]
    · simp only [ids, List.map_append, List.mem_append] at hm'
      rcases hm' with h' | h'
      · exact i1 i h' hm
      · exact hn h'

theorem move_front {all : List Oper} {y : Yld} {post : List Yld} : ∀ (pre : List Yld) {ts : Tmps} {h : Log}, (∀ x ∈ pre, Indep all x y) → Chain P E S X R all ts h (pre ++ y :: post) →
    StepR P E S X R all y.o ts h y.v y.d y.r ∧ Chain P E S X R all (putA ts y.o.dst y.v) (y.d ++ h) (pre ++ post) ∧
    endT ts (pre ++ y :: post) = endT (putA ts y.o.dst y.v) (pre ++ post) ∧ Eqv (endH h (pre ++ y :: post)) (endH (y.d ++ h) (pre ++ post))
  | [], _, _, _, hc => ⟨hc.1, hc.2, rfl, .refl _⟩
  | x :: pre, ts, h, hp, hc => by
    obtain ⟨c1, c2⟩ := hc
    have hi := hp x (by simp)
    obtain ⟨m1, m2, m3, m4⟩ := move_front pre (fun z hz => hp z (by simp [hz])) c2
    obtain ⟨s1, s2⟩ := swap_steps hi c1 m1
    have ecomm : putA (putA ts x.o.dst x.v) y.o.dst y.v = putA (putA ts y.o.dst y.v) x.o.dst x.v := put_comm fun d hd => (Oper.apart_spec hi.2.2.2).2.1 d hd
    have heq := Eqv.comm (x := x.d) (y := y.d) h hi.1
    rw [ecomm] at m2 m3
    exact ⟨s1, ⟨s2, chain_eqv _ heq m2⟩, m3, m4.trans (endH_eqv _ heq)⟩

/-! ### Which come behind which, whatever the order -/

inductive Bef (all : List Oper) : Nat → Nat → Prop
  | edge {i : Nat} {o : Oper} {e : Edge} (ho : all[i]? = some o) (he : e ∈ o.after) (hb : Region.binds .any e = true) : Bef all e.on i
  | trans {i j : Nat} {o : Oper} {e : Edge} (ho : all[i]? = some o) (he : e ∈ o.after) (hb : Region.binds .any e = true) (h : Bef all j e.on) : Bef all j i

theorem before_aux (all : List Oper) : ∀ (l : List Oper) (acc : List Nat), all.drop acc.length = l →
    (∀ i j, (acc.getD i 0).testBit j = true → Bef all j i) → ∀ i j, ((before l acc).getD i 0).testBit j = true → Bef all j i
  | [], acc, _, h => h
  | o :: l, acc, hd, h => by
    have ho : all[acc.length]? = some o := by rw [← List.head?_drop, hd]; rfl
    refine before_aux all l _ (by rw [List.length_append, List.length_singleton, ← List.drop_drop, hd]; rfl) fun i j hb => ?_
    rw [List.getD_eq_getElem?_getD] at hb
    rcases Nat.lt_trichotomy i acc.length with hlt | heq | hgt
    · rw [List.getElem?_append_left hlt] at hb
      exact h i j (by rw [List.getD_eq_getElem?_getD]; exact hb)
    · subst heq
      rw [List.getElem?_append_right (Nat.le_refl _)] at hb
      simp only [Nat.sub_self, List.getElem?_cons_zero, Option.getD_some] at hb
      have key : ∀ (es : List Edge) (s : Nat), (∀ e ∈ es, e ∈ o.after) → (∀ j, s.testBit j = true → Bef all j acc.length) → ∀ j, (es.foldl (fun s e => bif Region.binds .any e then s ||| 2 ^ e.on ||| acc.getD e.on 0 else s) s).testBit j = true → Bef all j acc.length := by
        intro es
        induction es with
        | nil => exact fun s _ hs j hj => hs j hj
        | cons e es ih =>
          intro s hm hs j hj
          refine ih _ (fun e he => hm e (by simp [he])) (fun j hj => ?_) j hj
          cases hbe : Region.binds .any e with
          | false => simp only [hbe, cond_false] at hj; exact hs j hj
          | true =>
            simp only [hbe, cond_true, Nat.testBit_or, Bool.or_eq_true] at hj
            rcases hj with (hj | hj) | hj
            · exact hs j hj
            · have : j = e.on := by
                rw [Nat.testBit_two_pow] at hj
                simpa using (of_decide_eq_true hj).symm
              subst this
              exact .edge ho (hm e (by simp)) hbe
            · exact .trans ho (hm e (by simp)) hbe (h _ _ hj)
      exact key o.after.toList 0 (fun e he => by simpa using he) (fun j hj => by simp at hj) j hb
    · rw [List.getElem?_append_right (by omega)] at hb
      have : i - acc.length ≠ 0 := by omega
      obtain ⟨k, hk⟩ : ∃ k, i - acc.length = k + 1 := ⟨i - acc.length - 1, by omega⟩
      simp [hk] at hb

theorem before_spec (all : List Oper) (i j : Nat) (h : ((before all []).getD i 0).testBit j = true) : Bef all j i :=
  before_aux all all [] rfl (fun i j h => by simp at h) i j h

theorem edgesOk_spec {all : List Oper} : ∀ (l : List Oper) (k : Nat), all.drop k = l → edgesOk k l = true → ∀ i o, k ≤ i → all[i]? = some o → ∀ e ∈ o.after, Region.binds .any e = true → e.on < i
  | [], k, hd, _, i, o, hi, ho => by
    have : all.length ≤ k := by
      have := congrArg List.length hd
      simp at this; omega
    rw [List.getElem?_eq_none (by omega)] at ho
    cases ho
  | x :: l, k, hd, h, i, o, hi, ho => by
    have hx : all[k]? = some x := by rw [← List.head?_drop, hd]; rfl
    simp only [edgesOk, Bool.and_eq_true, List.all_eq_true] at h
    rcases Nat.eq_or_lt_of_le hi with rfl | hlt
    · rw [hx] at ho
      cases ho
      intro e he hb
      have := h.1 e (by simpa using he)
      simp only [hb, Bool.not_true, Bool.false_or] at this
      exact Nat.le_of_ble_eq_true this
    · exact edgesOk_spec l (k + 1) (by rw [← List.drop_drop, hd]; rfl) h.2 i o hlt ho

/-! ### The draw's own steps -/

def foot (y : Yld) : Nat × List Nat × List Nat := (y.i, y.r, ids y.d)

theorem draw_runs {all : List Oper} {bef : List Nat} : ∀ (l : List Oper) (i : Nat), all.drop i = l → ∀ {ts : Tmps} {h : Log} {fs : List (Nat × List Nat × List Nat)} {p : AExit × Tmps} {d : Log} {r : List Nat}, (drawA P E S X R all bef i l ts fs).Runs h p d r →
    ∃ ys : List Yld, Chain P E S X R all ts h ys ∧ ys.map (·.i) = List.range' i l.length ∧ (∀ y ∈ ys, all[y.i]? = some y.o) ∧ p = (.normal, endT ts ys) ∧ d ++ h = endH h ys ∧
      foots all bef ((ys.map foot).reverse ++ fs) = true ∧ Region.noSelect all.toArray = true ∧ edgesOk 0 all = true
  | [], i, _, ts, h, fs, p, d, r, hr => by
    obtain ⟨hc, rfl, rfl, rfl⟩ := hr
    simp only [Bool.and_eq_true] at hc
    exact ⟨[], trivial, rfl, by simp, rfl, rfl, by simpa using hc.1.1, hc.1.2, hc.2⟩
  | o :: l, i, hd, ts, h, fs, p, d, r, hr => by
    obtain ⟨ts', d₁, r₁, d₂, r₂, h1, h2, rfl, rfl⟩ := hr
    obtain ⟨v, rfl, hs⟩ := gstep_runs h1
    obtain ⟨ys, c1, c2, c3, c4, c5, c6, c7⟩ := draw_runs l (i + 1) (by rw [← List.drop_drop, hd]; rfl) h2
    have ho : all[i]? = some o := by rw [← List.head?_drop, hd]; rfl
    refine ⟨⟨i, o, v, d₁, r₁⟩ :: ys, ⟨hs, c1⟩, ?_, ?_, c4, ?_, ?_, c7⟩
    · rw [List.map_cons, c2, List.length_cons, List.range'_succ]
    · intro y hy
      rcases List.mem_cons.1 hy with rfl | hy
      · exact ho
      · exact c3 y hy
    · rw [List.append_assoc]; exact c5
    · rw [List.map_cons, List.reverse_cons, List.append_assoc]; exact c6

theorem apartL_spec {a b : List Nat} (h : apartL a b = true) : ∀ i ∈ a, i ∉ b := by
  intro i hi hb
  simp only [apartL, List.all_eq_true] at h
  have := h i hi i hb
  simp at this

theorem footOk_spec {all : List Oper} {x y : Yld} (hx : all[x.i]? = some x.o) (hy : all[y.i]? = some y.o) (h : footOk all (before all []) y.i y.r (ids y.d) (foot x) = true) : Bef all x.i y.i ∨ Indep all x y := by
  simp only [footOk, foot, Bool.or_eq_true, Bool.and_eq_true] at h
  rcases h with h | ⟨⟨⟨h1, h2⟩, h3⟩, h4⟩
  · exact .inl (before_spec all _ _ h)
  · rw [hx, hy] at h4
    exact .inr ⟨apartL_spec h1, apartL_spec h2, apartL_spec h3, h4⟩

theorem foots_spec {all : List Oper} : ∀ (ys : List Yld), (∀ y ∈ ys, all[y.i]? = some y.o) → foots all (before all []) (ys.map foot) = true → ys.Pairwise fun y x => Bef all x.i y.i ∨ Indep all x y
  | [], _, _ => .nil
  | y :: ys, ho, h => by
    simp only [List.map_cons, foots, foot, Bool.and_eq_true, List.all_eq_true, List.mem_map] at h
    refine .cons (fun x hx => footOk_spec (ho x (by simp [hx])) (ho y (by simp)) (h.1 _ ⟨x, hx, rfl⟩)) (foots_spec ys (fun z hz => ho z (by simp [hz])) h.2)

/-! ### Any order -/

def Shut (ops : Array Oper) (listed : Array Bool) : Prop := ∀ i o, listed.getD i false = true → ops[i]? = some o → ∀ e ∈ o.after, Region.binds .any e = true → listed.getD e.on false = true

theorem bef_listed {ops : Array Oper} {listed : Array Bool} (hs : Shut ops listed) {i j : Nat} (h : Bef ops.toList j i) (hr : ∀ o, ops[i]? = some o → ∀ e ∈ o.after, Region.binds .any e = true → listed.getD e.on false = true) : listed.getD j false = true := by
  induction h with
  | edge ho he hb => exact hr _ (by simpa using ho) _ he hb
  | trans ho he hb _ ih => exact ih fun o' ho' e' he' hb' => hs _ _ (hr _ (by simpa using ho) _ he hb) ho' e' he' hb'

theorem getD_conv {l : Array Bool} {i : Nat} (h : i < l.size) (a b : Bool) : l.getD i a = l.getD i b := by simp [Array.getD, h]

theorem getD_size {l : Array Bool} {i : Nat} (h : l.getD i true = false) : i < l.size := by
  rcases Nat.lt_or_ge i l.size with h' | h'
  · exact h'
  · simp [Array.getD, Nat.not_lt.2 h'] at h

theorem draw_any (hR : ExecOK P E ra base R) (hS : SumsOK P E ra base S) (hX : ExtsOK P E ra X) (hN : NamesOK P) {ops : Array Oper} (ro : Option Nat) {Q : Exit → Act → World → Prop} (hedge : edgesOk 0 ops.toList = true) {nb : Nat} : ∀ (fuel : Nat) (listed : Array Bool) (ys : List Yld) {ι : Inj} {h : Log} {w : World} {ts : Tmps} {a : Act},
    ys.length ≤ fuel → listed.size = ops.size → (∀ y ∈ ys, ops[y.i]? = some y.o) → (∀ i, listed.getD i true = false ↔ ∃ y ∈ ys, y.i = i) → ys.Pairwise (fun x y => x.i < y.i) →
    ys.Pairwise (fun x y => Bef ops.toList x.i y.i ∨ Indep ops.toList x y) → Shut ops listed → Fit E ra base ι h w nb ts a → Chain P E S X R ops.toList ts h ys →
    (∀ ι' a' w' h', Fit E ra base ι' h' w' nb (endT ts ys) a' → Eqv h' (endH h ys) → Keeps ι h w ι' h' w' → Q .normal a' w') → wpAnyIn (FW ro) 0 P .any ops Q fuel listed a w := by
  have hdone : ∀ (listed : Array Bool) (ys : List Yld), listed.size = ops.size → (∀ y ∈ ys, ops[y.i]? = some y.o) → (∀ i, listed.getD i true = false ↔ ∃ y ∈ ys, y.i = i) → ys.Pairwise (fun x y => x.i < y.i) → Region.ready .any ops listed = [] → ys = [] := by
    intro listed ys hsz ho hun hsort hrd
    match ys with
    | [] => rfl
    | y :: ys =>
      exfalso
      have : y.i ∈ Region.ready .any ops listed := by
        rw [mem_ready]
        refine ⟨(hun y.i).2 ⟨y, by simp, rfl⟩, y.o, ho y (by simp), fun e he hb => ?_⟩
        have hlt := edgesOk_spec ops.toList 0 rfl hedge y.i y.o (Nat.zero_le _) (by simpa using ho y (by simp)) e he hb
        have hys : y.i < listed.size := getD_size ((hun y.i).2 ⟨y, by simp, rfl⟩)
        rw [getD_conv (by omega) false true]
        cases hh : listed.getD e.on true with
        | true => rfl
        | false =>
          obtain ⟨z, hz, hze⟩ := (hun e.on).1 hh
          rcases List.mem_cons.1 hz with rfl | hz
          · omega
          · have := (List.pairwise_cons.1 hsort).1 z hz
            omega
      rw [hrd] at this
      cases this
  intro fuel
  induction fuel with
  | zero =>
    intro listed ys ι h w ts a hl hsz ho hun hsort hpw hshut hf hc hQ
    have : ys = [] := List.length_eq_zero_iff.1 (by omega)
    subst this
    refine ⟨?_, hQ ι a w h hf (.refl _) (.refl _ _ _)⟩
    rw [List.eq_nil_iff_forall_not_mem]
    intro j hj
    obtain ⟨z, hz, _⟩ := (hun j).1 (mem_ready.1 hj).1
    cases hz
  | succ fuel ih =>
    intro listed ys ι h w ts a hl hsz ho hun hsort hpw hshut hf hc hQ
    refine ⟨fun hrd => ?_, fun i hi => ?_⟩
    · have := hdone listed ys hsz ho hun hsort hrd
      subst this
      exact hQ ι a w h hf (.refl _) (.refl _ _ _)
    · obtain ⟨hu, o, hoi, hall⟩ := mem_ready.1 hi
      obtain ⟨y, hy, hyi⟩ := (hun i).1 hu
      obtain ⟨pre, post, rfl⟩ := List.append_of_mem hy
      have hyo : y.o = o := by
        have := ho y hy
        rw [hyi, hoi] at this
        exact (Option.some.inj this).symm
      have hind : ∀ x ∈ pre, Indep ops.toList x y := by
        intro x hx
        refine ((List.pairwise_append.1 hpw).2.2 x hx y (by simp)).resolve_left fun hb => ?_
        have h1 := bef_listed hshut (hyi ▸ hb) (fun o' ho' e he hbb => by rw [hoi] at ho'; cases ho'; exact hall e he hbb)
        have h2 := (hun x.i).2 ⟨x, by simp [hx], rfl⟩
        rw [getD_conv (getD_size h2) true false, h1] at h2
        cases h2
      obtain ⟨s1, s2, s3, s4⟩ := move_front pre hind hc
      have hne : ∀ z ∈ pre ++ post, z.i ≠ i := by
        intro z hz
        rcases List.mem_append.1 hz with hz | hz
        · have := (List.pairwise_append.1 hsort).2.2 z hz y (by simp)
          omega
        · have := (List.pairwise_cons.1 (List.pairwise_append.1 hsort).2.1).1 z hz
          omega
      have hsub : (pre ++ post).Sublist (pre ++ y :: post) := List.Sublist.append_left (List.sublist_cons_self _ _) _
      refine step_sound hR hS hX hN hf (o := y.o) (by rw [hyo]; exact hoi) s1 ro fun ι' a' w' f' k' => ?_
      refine ih (listed.setIfInBounds i true) (pre ++ post) (by simp at hl ⊢; omega) (by simpa using hsz) (fun z hz => ho z (hsub.subset hz)) (fun j => ?_) (hsort.sublist hsub) (hpw.sublist hsub) ?_ f' s2 fun ι₂ a₂ w₂ h₂ f₂ e₂ k₂ => ?_
      · by_cases hj : j = i
        · subst hj
          have hlt := getD_size hu
          constructor
          · intro hh
            simp [Array.getD, hlt] at hh
          · rintro ⟨z, hz, hzi⟩
            exact absurd hzi (hne z hz)
        · rw [getD_set_ne true (Ne.symm hj), hun j]
          constructor
          · rintro ⟨z, hz, hzj⟩
            rcases List.mem_append.1 hz with hz | hz
            · exact ⟨z, List.mem_append_left _ hz, hzj⟩
            · rcases List.mem_cons.1 hz with rfl | hz
              · exact absurd (hzj.symm.trans hyi) hj
              · exact ⟨z, List.mem_append_right _ hz, hzj⟩
          · rintro ⟨z, hz, hzj⟩
            exact ⟨z, hsub.subset hz, hzj⟩
      · intro j oj hj hoj e he hb
        refine getD_set_true ?_
        by_cases hji : j = i
        · subst hji
          rw [hoi] at hoj; cases hoj
          exact hall e he hb
        · rw [getD_set_ne false (Ne.symm hji)] at hj
          exact hshut j oj hj hoj e he hb
      · refine hQ ι₂ a₂ w₂ h₂ (by rw [s3]; exact f₂) (e₂.trans s4.symm) (k'.trans k₂)

end Go.Proofs.Ytbdjcekekhgnkaa.Ab
