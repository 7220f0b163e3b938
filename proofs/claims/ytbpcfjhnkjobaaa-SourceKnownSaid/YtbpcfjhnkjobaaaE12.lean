/- copy; texts and bytes; conversions: against the model's. -/
import Derived.Test.YtbpcfjhnkjobaaaE11
namespace Go.Proofs.Ytbpcfjhnkjobaaa.Ab

variable {P : Program} {E : Nat → Nat → Seg} {ra : Nat → Nat → Nat × Nat} {base : Nat}

section
variable (P E)
def copyA (ts : Array TypeId) (d x : AVal) : AM AVal :=
  match (ts[0]?).bind P.underlying with
  | some (.slice e) => match P.info? e, lenN d, lenN x with
    | some inf, some dl, some xl => match d with
      | .nils => .pure (.int .i64 0)
      | .slice (.own id 0 i st) _ _ => match Nat.beq st inf.size with
        | true => .read id fun b => match b with
          | .segs [s0] => match Nat.beq s0.st inf.size with
            | true => .need (decide (i + min xl dl ≤ s0.n)) <| (newRowsA E inf.size (min xl dl) x s0.cols).bind fun new => .need (new.all colCells) <| match colsPut s0.cols i new with
              | some cols => .upd id (some (.segs [{ s0 with cols }])) (.pure (.int .i64 (min xl dl : Nat)))
              | none => .fail
            | false => .fail
          | _ => .fail
        | false => .fail
      | _ => .fail
    | _, _, _ => .fail
  | _ => .fail

def toBytesA (s : ByteArray) : AM AVal :=
  .need (decide (s.size ≤ 4294967296)) <| .alloc (.segs [{ n := s.size, st := 1, cols := [.int .u8 (s.data.toList.map fun b => (b.toNat : Int))] }]) fun id => .pure (.slice (.own id 0 0 1) s.size none)

def toTextA (id i len : Nat) : AM AVal :=
  .read id fun b => match b with
    | .segs [s0] => match Nat.beq s0.st 1, s0.cols with
      | true, [.int .u8 xs] => .need (decide (i + len ≤ s0.n)) (.pure (.str (strOfNums ((xs.drop i).take len))))
      | _, _ => .fail
    | _ => .fail

def convA (src dst : TypeId) (x : AVal) : AM AVal :=
  match P.underlying src, P.underlying dst with
  | some s, some d => match d, x with
    | .int k, .int _ n => .pure (.int k (wr k n))
    | .string, .str t => .pure (.str t)
    | .slice e, .str t => match P.underlying e with
      | some (.int .u8) => toBytesA t
      | _ => .fail
    | .string, .nils => match s with
      | .slice e => match P.underlying e with
        | some (.int .u8) => .pure (.str ByteArray.empty)
        | _ => .fail
      | _ => .fail
    | .string, .slice (.own id 0 i 1) len _ => match s with
      | .slice e => match P.underlying e with
        | some (.int .u8) => toTextA id i len
        | _ => .fail
      | _ => .fail
    | _, _ => .fail
  | _, _ => .fail
end

theorem newRowsA_sound' {ι : Inj} {h : Log} {w : World} (H : WRel E ra base ι h w) {sz n m : Nat} {x : AVal} {x' : Value} (hx : Rel E ra ι x x') {like cols : List Col} {d : Log} {r : List Nat} (hr : (newRowsA E sz n x like).Runs h cols d r)
    (hm : lenN x = some m) (hnm : n ≤ m) (hl : like.length = sz) : d = [] ∧ ∃ vs, (∀ w₁ : World, w₁.heap = w.heap → (Builtin.firstCells sz n x').run P w₁ = .ok vs.toArray w₁) ∧ RowsIn E ra ι n sz cols vs := by
  unfold newRowsA at hr
  split at hr
  · have : n = m := by simp only [lenN, Option.some.injEq] at hm; omega
    subst this
    exact newRowsA_sound H hx (by unfold newRowsA; exact hr) hm hl
  · exact rowsA_sound H hx hr (fun a l c e => by subst e; simp only [lenN, Option.some.injEq] at hm; omega)

theorem copyA_sound {ι : Inj} {h : Log} {w : World} (H : WRel E ra base ι h w) {ts : Array TypeId} {ty : TypeId} {s x : AVal} {s' x' : Value} (hs : Rel E ra ι s s') (hx : Rel E ra ι x x') :
    SoundAt P E ra base ι h w (copyA P E ts s x) (Builtin.copy_ ts ty #[s', x']) := by
  intro v d r hr
  unfold copyA at hr
  split at hr
  case h_2 => simp [AM.Runs] at hr
  rename_i e hu
  cases ht : ts[0]? with
  | none => simp [ht] at hu
  | some t =>
  simp only [ht, Option.bind_some] at hu
  split at hr
  case h_2 => simp [AM.Runs] at hr
  rename_i inf dl xl hi hd hxl
  have hlx := lenN_run (P := P) (w := w) hx hxl
  split at hr
  · cases hs
    simp only [lenN, Option.some.injEq] at hd
    subst hd
    simp only [AM.Runs] at hr
    obtain ⟨rfl, rfl, rfl⟩ := hr
    have hf0 : (Builtin.firstCells inf.size 0 x').run P w = .ok ([] : List Value).toArray w := by
      cases hx <;> simp only [lenN] at hxl <;> first | (cases hxl; done) | skip
      all_goals simp [Builtin.firstCells, loadCells, loadCellsFrom]
    refine ⟨.int .i64 0, w, ι, ?_, .int _ _, H, .refl _ _ _⟩
    simp [Builtin.copy_, ht, run_underlying hu, hlx, run_sizeOf hi, hf0, goInt]
  · rename_i id i st len cap
    cases hs with | slice hS hNm =>
    rename_i y cap'
    simp only [lenN, Option.some.injEq] at hd
    subst hd
    cases hst : Nat.beq st inf.size with
    | false => simp [hst, AM.Runs] at hr
    | true =>
    have := Nat.eq_of_beq_eq_true hst
    subst this
    simp only [hst, AM.Runs] at hr
    obtain ⟨B, r', hv, rfl, hr⟩ := hr
    split at hr
    case h_2 => simp [AM.Runs] at hr
    rename_i s0
    cases hss : Nat.beq s0.st inf.size with
    | false => simp [hss, AM.Runs] at hr
    | true =>
    have hse := Nat.eq_of_beq_eq_true hss
    simp only [hss, AM.Runs, runs_bind] at hr
    obtain ⟨hrow, new, d₁, r₁, d₂, r₂, g1, ⟨hcc, hr⟩, rfl, rfl⟩ := hr
    have hrow' := of_decide_eq_true hrow
    obtain ⟨b, o, cs', el, fz, q1, q2, q3, q4, q5, q6, q7⟩ := H.own id _ hv
    have hwf : s0.WF := q6 s0 (by simp)
    obtain ⟨rfl, vs, k1, k2⟩ := newRowsA_sound' (P := P) H hx g1 hxl (Nat.min_le_left _ _) (by rw [hwf.1, hse])
    cases hp : colsPut s0.cols i new with
    | none => simp [hp, AM.Runs] at hr
    | some cols =>
    simp only [hp, AM.Runs] at hr
    obtain ⟨b', d', r3, _, rfl, rfl, rfl, rfl, rfl⟩ := hr
    have hsets := put_sets hwf hp k2.2.2.1 hrow'
    have hR := flatOf_rel k2
    rw [← hse] at hR
    have hone := rows_oneCell k2 hcc
    obtain ⟨w', t1, t2, t3⟩ := turn_sound (P := P) H hv q1 hsets hR hone
    refine ⟨.int .i64 (min xl len : Nat), w', ι, ?_, .int _ _, by simpa using t2, by simpa using t3⟩
    have hstore : (storeCells y vs).run P w = .ok () w' := by
      rcases hS.2.2 with hc0 | ⟨b2, o2, sz2, g4, rfl, g5⟩
      · have h0 : min xl len = 0 := by have := hS.1; omega
        have hvs : vs = [] := List.eq_nil_of_length_eq_zero (by rw [k2.1, h0]; simp)
        subst hvs
        simp only [storeCells] at t1 ⊢
        exact t1
      · rw [q1] at g4
        simp only [Option.some.injEq, Prod.mk.injEq] at g4
        obtain ⟨rfl, rfl, rfl⟩ := g4
        rw [← t1, hse]; rfl
    have hmin : Nat.min xl len = min xl len := rfl
    simp [Builtin.copy_, ht, run_underlying hu, hlx, run_sizeOf hi, hmin, k1 w rfl, hstore, goInt]
  · simp [AM.Runs] at hr

theorem toBytesA_sound {ι : Inj} {h : Log} {w : World} (H : WRel E ra base ι h w) {e : TypeId} {s : ByteArray} : SoundAt P E ra base ι h w (toBytesA s) (Conv.stringToBytes e s) := by
  intro v d r hr
  simp only [toBytesA, AM.Runs] at hr
  obtain ⟨hn, i, d', hi, rfl, rfl, rfl, rfl⟩ := hr
  have hn' := of_decide_eq_true hn
  let cap := (Question.appendCap s.size 0 e).cut (w.tape w.drawn (.appendCap s.size 0 e))
  have hcap : s.size ≤ cap := by simp [cap, Question.cut]
  let cells : Array Value := (s.data.map fun b => Value.int .u8 b.toNat) ++ Array.replicate (cap - s.size) (.int .u8 0)
  have hsz : cells.size = cap := by simp [cells]; show s.size + _ = _; omega
  let w' : World := { w with drawn := w.drawn + 1, heap := w.heap.push (.cells cells e (cells.size, cells.size + 1)) }
  have hrun : (Conv.stringToBytes e s).run P w = .ok (.slice (some ⟨w.heap.size, 0, none⟩) s.size cap) w' := by
    have hforced : (Question.appendCap s.size 0 e).forced = false := rfl
    have hshape : ∀ o : Obj, ∀ x n, (match o with | .cells c el _ => some (el, c.size) | _ => none) = some (x, n) → ({ w with drawn := w.drawn + 1, heap := w.heap.push o } : World).shape? w.heap.size = some (x, n) := by
      intro o x n ho
      simp only [World.shape?]
      rw [show (w.heap.push o)[w.heap.size]? = some o by simp]
      cases o <;> simp_all
    simp only [Conv.stringToBytes, Sem.run_bind, run_choose, hforced, Bool.false_eq_true, if_false, Result.andThen_ok, newRow, run_newObj, Sem.run_pure, markStringish, run_shape]
    rw [hshape (.cells cells e) e cells.size rfl]
    simp only [run_freeze, Result.andThen_ok]
    congr 1
    show World.mk _ _ _ _ _ = World.mk _ _ _ _ _
    congr 1
    apply Array.ext_getElem?
    intro k
    rw [Array.getElem?_modify, Array.getElem?_push, Array.getElem?_push]
    by_cases hk : k = w.heap.size
    · subst hk; simp [cells, cap]
    · rw [if_neg (Ne.symm hk), if_neg hk, if_neg hk]
  have hlen : (s.data.toList.map fun b => (b.toNat : Int)).length = s.size := by simp
  have := alloc_sound_mark (w' := w') (l := [{ n := s.size, st := 1, cols := [.int .u8 (s.data.toList.map fun b => (b.toNat : Int))] }]) H hi (fun q hq => by
      simp only [List.mem_singleton] at hq; subst hq
      exact ⟨rfl, fun c hc => by simp only [List.mem_singleton] at hc; subst hc; exact hlen⟩) (cells := cells) (el := e) (by simp only [total]; omega) (fun j y hy => by
      have hj := cellOf_lt hy
      simp only [total, Nat.mul_one, Nat.add_zero] at hj
      rw [rows_cell (by simpa using hj)] at hy
      simp only [Nat.mod_one, List.getElem?_cons_zero, Nat.div_one, Option.map_some, Option.some.injEq] at hy
      subst hy
      have hjl : j < s.data.size := hj
      refine ⟨.int .u8 (s.data[j].toNat : Int), ?_, ?_⟩
      · simp only [cells]
        rw [Array.getElem?_append_left (by simpa using hjl), Array.getElem?_map, Array.getElem?_eq_getElem hjl]; rfl
      · simp only [colAt, List.getD_eq_getElem?_getD, List.getElem?_map]
        rw [List.getElem?_eq_getElem (by simpa using hjl)]
        exact .int _ _) rfl rfl rfl rfl
  exact ⟨_, w', _, hrun, .slice ⟨hcap, fun c hc => by simp at hc, .inr ⟨w.heap.size, 0, cells.size, by simp [put], by simp, by rw [hsz]; simp⟩⟩ ⟨_, by simp [put]; rfl⟩, this⟩

theorem convA_sound {ι : Inj} {h : Log} {w : World} (H : WRel E ra base ι h w) {src dst : TypeId} {x : AVal} {x' : Value} (hx : Rel E ra ι x x') : SoundAt P E ra base ι h w (convA P src dst x) (convert src dst x') := by
  intro v d r hr
  unfold convA at hr
  split at hr
  case h_2 => simp [AM.Runs] at hr
  rename_i s dd hs hd
  split at hr
  · cases hx
    simp only [AM.Runs] at hr
    obtain ⟨rfl, rfl, rfl⟩ := hr
    exact ⟨_, w, ι, by simp [convert, run_underlying hs, run_underlying hd, Conv.intToInt, wr_eq], .int _ _, H, .refl _ _ _⟩
  · cases hx
    simp only [AM.Runs] at hr
    obtain ⟨rfl, rfl, rfl⟩ := hr
    exact ⟨_, w, ι, by simp [convert, run_underlying hs, run_underlying hd], .str _, H, .refl _ _ _⟩
  · rename_i e t
    cases hx
    split at hr
    · rename_i he
      obtain ⟨v', w', ι', h1, h2⟩ := toBytesA_sound (P := P) (e := e) H v d r hr
      exact ⟨v', w', ι', by simp [convert, run_underlying hs, run_underlying hd, run_underlying he, h1], h2⟩
    · simp [AM.Runs] at hr
  · split at hr
    · rename_i e
      split at hr
      · rename_i he
        cases hx
        simp only [AM.Runs] at hr
        obtain ⟨rfl, rfl, rfl⟩ := hr
        exact ⟨_, w, ι, run_convert_bytes_nil w src e hs he 0 0 dst hd, .str _, H, .refl _ _ _⟩
      · simp [AM.Runs] at hr
    · simp [AM.Runs] at hr
  · rename_i id i len cap
    split at hr
    · rename_i e
      split at hr
      · rename_i he
        cases hx with | slice hS hNm =>
        rename_i y cap'
        simp only [toTextA, AM.Runs] at hr
        obtain ⟨B, r', hv, rfl, hr⟩ := hr
        split at hr
        · rename_i s0
          split at hr
          · rename_i xs hst hcols
            have hse := Nat.eq_of_beq_eq_true hst
            simp only [AM.Runs] at hr
            obtain ⟨hn, rfl, rfl, rfl⟩ := hr
            have hn' := of_decide_eq_true hn
            obtain ⟨b, o, cs', el, fz, q1, q2, q3, q4, q5, q6, q7⟩ := H.own id _ hv
            have hwf : s0.WF := q6 s0 (by simp)
            have hxl : xs.length = s0.n := by have := hwf.2 (.int .u8 xs) (by rw [hcols]; simp); simpa [Col.len] using this
            have hlen : ((xs.drop i).take len).length = len := by simp; omega
            refine ⟨.string (strOfNums ((xs.drop i).take len)), w, ι, ?_, .str _, H, .refl _ _ _⟩
            rcases hS.2.2 with hc0 | ⟨b2, o2, sz2, g4, rfl, g5⟩
            · have hl0 : len = 0 := by have := hS.1; omega
              subst hl0
              obtain ⟨yb, yo, ys⟩ := y
              have : (loadCells ⟨yb, yo, ys⟩ 0).run P w = .ok (([] : List Int).map (Value.int .u8)).toArray w := by simp [loadCells, loadCellsFrom]
              rw [run_convert_bytes_string w src dst e _ 0 cap' hs he hd, run_bytesToString w _ 0 cap' [] this]
              rfl
            · rw [q1] at g4
              simp only [Option.some.injEq, Prod.mk.injEq] at g4
              obtain ⟨rfl, rfl, rfl⟩ := g4
              refine run_convert_bytes_arg w src e hs he b (o + 0 + i * 1) len cap' _ hlen (fun k hk => ?_) dst hd
              have hj : i + k < s0.n := by omega
              have hcell := seg_cell (s := s0) (l := []) (i := i + k) (c := 0) hj (by omega)
              rw [hcols] at hcell
              simp only [List.getElem?_cons_zero, Option.map_some, Nat.zero_add, hse, Nat.mul_one] at hcell
              obtain ⟨c, hc1, hc2⟩ := q7 _ _ hcell
              rw [cell_at q3]
              simp only [colAt] at hc2
              cases hc2
              rw [show o + 0 + i * 1 + k = o + (i + k) by omega, hc1]
              congr 2
              simp [hk, List.getElem?_drop]
          · simp [AM.Runs] at hr
        · simp [AM.Runs] at hr
      · simp [AM.Runs] at hr
    · simp [AM.Runs] at hr
  · simp [AM.Runs] at hr

end Go.Proofs.Ytbpcfjhnkjobaaa.Ab
