/- States told anew: what is kept of the blocks, under new names, and of the temporaries; a code's contract from state to state; loops. -/
import Derived.Test.YtcgebafffkpmfaaE21
namespace Go.Proofs.Ytcgebafffkpmfaa.Ab

variable {P : Program} {E : Nat → Nat → Seg} {ra : Nat → Nat → Nat × Nat} {base : Nat} {S : Sums} {X : Exts} {L : Loops} {R : Walk}

def idx : List Nat → Nat → Nat
  | [], _ => 0
  | j :: l, i => match Nat.beq j i with
    | true => 0
    | false => idx l i + 1

def memB : List Nat → Nat → Bool
  | [], _ => false
  | j :: l, i => match Nat.beq j i with
    | true => true
    | false => memB l i

def nodupB : List Nat → Bool
  | [] => true
  | j :: l => !memB l j && nodupB l

def fixB (k : Nat) (l : List Nat) : Bool := (List.range k).all fun i => Nat.beq (l.getD i (i + 1)) i

theorem memB_iff : ∀ {l : List Nat} {i : Nat}, memB l i = true ↔ i ∈ l
  | [], i => by simp [memB]
  | j :: l, i => by
    simp only [memB, List.mem_cons]
    cases h : Nat.beq j i with
    | true => have := Nat.eq_of_beq_eq_true h; simp [this]
    | false =>
      have : i ≠ j := fun e => by subst e; simp at h
      simp [this, memB_iff (l := l)]

theorem idx_get : ∀ {l : List Nat} {i : Nat}, memB l i = true → l.getD (idx l i) 0 = i ∧ idx l i < l.length
  | [], i, h => by simp [memB] at h
  | j :: l, i, h => by
    simp only [memB] at h
    simp only [idx]
    cases hj : Nat.beq j i with
    | true => have := Nat.eq_of_beq_eq_true hj; simp [this]
    | false =>
      rw [hj] at h
      have := idx_get h
      simpa using this

theorem nodupB_nodup : ∀ {l : List Nat}, nodupB l = true → l.Nodup
  | [], _ => .nil
  | j :: l, h => by
    simp only [nodupB, Bool.and_eq_true, Bool.not_eq_true'] at h
    refine List.nodup_cons.2 ⟨fun hm => ?_, nodupB_nodup h.2⟩
    rw [memB_iff.2 hm] at h
    exact absurd h.1 (by simp)

theorem fixB_get {k : Nat} {l : List Nat} (h : fixB k l = true) {i : Nat} (hi : i < k) : i < l.length ∧ l.getD i 0 = i := by
  have := List.all_eq_true.1 h i (List.mem_range.2 hi)
  have e := Nat.eq_of_beq_eq_true this
  rw [List.getD_eq_getElem?_getD] at e
  cases hh : l[i]? with
  | none => rw [hh] at e; simp at e
  | some y =>
    rw [hh] at e
    simp only [Option.getD_some] at e
    subst e
    refine ⟨?_, by rw [List.getD_eq_getElem?_getD, hh]; rfl⟩
    rcases Nat.lt_or_ge y l.length with h' | h'
    · exact h'
    · simp [List.getElem?_eq_none h'] at hh

/-! ### Names there and back -/

section
variable {p : Nat → Bool} {σ τ : Nat → Nat}
theorem renA_back (hs : ∀ i, p i = true → σ (τ i) = i) {a : AAddr} (hu : usesA p a = true) : renA σ (renA τ a) = a := by
  cases a with
  | own id off i st => simp only [renA, hs _ hu]
  | ro tid par i c => rfl

mutual
theorem renV_back (hs : ∀ i, p i = true → σ (τ i) = i) : ∀ (v : AVal), usesV p v = true → renV σ (renV τ v) = v
  | .undef, _ => by rw [renV, renV]
  | .bool _, _ => by rw [renV, renV]
  | .int _ _, _ => by rw [renV, renV]
  | .str _, _ => by rw [renV, renV]
  | .nilp, _ => by rw [renV, renV]
  | .ptr a, hu => by rw [usesV] at hu; rw [renV, renV, renA_back hs hu]
  | .nils, _ => by rw [renV, renV]
  | .slice a _ _, hu => by rw [usesV] at hu; rw [renV, renV, renA_back hs hu]
  | .nilf, _ => by rw [renV, renV]
  | .fn _ cs, hu => by rw [usesV] at hu; rw [renV, renV, renL_back hs cs hu]
  | .yld id, hu => by rw [usesV] at hu; rw [renV, renV, hs _ hu]
  | .nili, _ => by rw [renV, renV]
  | .iface _ v, hu => by rw [usesV] at hu; rw [renV, renV, renV_back hs v hu]
  | .nilm, _ => by rw [renV, renV]
  | .mapv id, hu => by rw [usesV] at hu; rw [renV, renV, hs _ hu]
  | .agg cs, hu => by rw [usesV] at hu; rw [renV, renV, renL_back hs cs hu]
  | .tup cs, hu => by rw [usesV] at hu; rw [renV, renV, renL_back hs cs hu]
theorem renL_back (hs : ∀ i, p i = true → σ (τ i) = i) : ∀ (l : List AVal), usesL p l = true → renL σ (renL τ l) = l
  | [], _ => by rw [renL, renL]
  | v :: l, hu => by rw [usesL, Bool.and_eq_true] at hu; rw [renL, renL, renV_back hs v hu.1, renL_back hs l hu.2]
end

theorem renB_back (hs : ∀ i, p i = true → σ (τ i) = i) {B : Blk} (hu : usesB p B = true) : renB σ (renB τ B) = B := by
  cases B with
  | segs l =>
    simp only [renB, Blk.segs.injEq, List.map_map]
    conv => rhs; rw [← List.map_id l]
    refine List.map_congr_left fun s hs' => ?_
    obtain ⟨n, st, cols⟩ := s
    simp only [Function.comp, renS, id, Seg.mk.injEq, true_and, List.map_map]
    conv => rhs; rw [← List.map_id cols]
    refine List.map_congr_left fun c hc => ?_
    have := List.all_eq_true.1 (List.all_eq_true.1 hu _ hs') c hc
    cases c with
    | val xs => simp only [Function.comp, renC, id]; rw [renL_back hs xs this]
    | _ => rfl
  | map es => cases hu
  | loop ts ps as bd st pe => simp only [renB]; rw [renL_back hs ts hu]

variable {q : Nat → Bool}
theorem usesA_ren (hq : ∀ i, p i = true → q (τ i) = true) {a : AAddr} (hu : usesA p a = true) : usesA q (renA τ a) = true := by
  cases a with
  | own id off i st => exact hq _ hu
  | ro tid par i c => rfl

mutual
theorem usesV_ren (hq : ∀ i, p i = true → q (τ i) = true) : ∀ (v : AVal), usesV p v = true → usesV q (renV τ v) = true
  | .undef, _ => by rw [renV, usesV]
  | .bool _, _ => by rw [renV, usesV]
  | .int _ _, _ => by rw [renV, usesV]
  | .str _, _ => by rw [renV, usesV]
  | .nilp, _ => by rw [renV, usesV]
  | .ptr a, hu => by rw [usesV] at hu; rw [renV, usesV]; exact usesA_ren hq hu
  | .nils, _ => by rw [renV, usesV]
  | .slice a _ _, hu => by rw [usesV] at hu; rw [renV, usesV]; exact usesA_ren hq hu
  | .nilf, _ => by rw [renV, usesV]
  | .fn _ cs, hu => by rw [usesV] at hu; rw [renV, usesV]; exact usesL_ren hq cs hu
  | .yld id, hu => by rw [usesV] at hu; rw [renV, usesV]; exact hq _ hu
  | .nili, _ => by rw [renV, usesV]
  | .iface _ v, hu => by rw [usesV] at hu; rw [renV, usesV]; exact usesV_ren hq v hu
  | .nilm, _ => by rw [renV, usesV]
  | .mapv id, hu => by rw [usesV] at hu; rw [renV, usesV]; exact hq _ hu
  | .agg cs, hu => by rw [usesV] at hu; rw [renV, usesV]; exact usesL_ren hq cs hu
  | .tup cs, hu => by rw [usesV] at hu; rw [renV, usesV]; exact usesL_ren hq cs hu
theorem usesL_ren (hq : ∀ i, p i = true → q (τ i) = true) : ∀ (l : List AVal), usesL p l = true → usesL q (renL τ l) = true
  | [], _ => by rw [renL, usesL]
  | v :: l, hu => by
    rw [usesL, Bool.and_eq_true] at hu
    rw [renL, usesL, Bool.and_eq_true]
    exact ⟨usesV_ren hq v hu.1, usesL_ren hq l hu.2⟩
end

theorem usesB_ren (hq : ∀ i, p i = true → q (τ i) = true) {B : Blk} (hu : usesB p B = true) : usesB q (renB τ B) = true := by
  cases B with
  | segs l =>
    simp only [renB, usesB, List.all_map, List.all_eq_true] at hu ⊢
    intro s hs
    simp only [Function.comp, renS, List.all_map, List.all_eq_true]
    intro c hc
    have := hu s hs c hc
    cases c with
    | val xs => exact usesL_ren hq xs this
    | _ => rfl
  | map es => cases hu
  | loop ts ps as bd st pe => exact usesL_ren hq ts hu
end

/-! ### A state told anew -/

/-- temporaries of which some are told -/
def mkT (n : Nat) : List (Nat × AVal) → Tmps
  | [] => List.replicate n .undef
  | (j, v) :: l => (mkT n l).set j v


def maskT (m : Nat) : Nat → Tmps → Tmps
  | _, [] => []
  | i, v :: ts => (match Nat.testBit m i with
    | true => v
    | false => .undef) :: maskT m (i + 1) ts

theorem maskT_rel {ι : Inj} (m : Nat) : ∀ (i : Nat) {ts : Tmps} {vs : List Value}, RelL E ra ι ts vs → RelL E ra ι (maskT m i ts) vs
  | _, [], _, h => h
  | i, v :: ts, _, h => by
    cases h with
    | cons h t =>
      simp only [maskT]
      refine .cons ?_ (maskT_rel m (i + 1) t)
      cases Nat.testBit m i with
      | true => exact h
      | false => exact .undef _

def canH (h : Log) (l : List Nat) : Nat → List Nat → Option (Bool × Log)
  | _, [] => some (true, [])
  | i, j :: r => match view h j with
    | some B => match canH h l (i + 1) r with
      | some (b, t) => some (usesB (memB l) B && b, (i, some (renB (idx l) B)) :: t)
      | none => none
    | none => none

/-- a state, of whose blocks some are kept, under new names -/
abbrev State := AExit × Tmps × Log

def canon (k : Nat) (l : List Nat) (mask : Nat) (p : AExit × Tmps) (h : Log) : Option (Bool × State) :=
  match canH h l 0 l with
  | some (b, t) => some (fixB k l && (nodupB l && (usesL (memB l) (maskT mask 0 p.2) && b)), (p.1, renL (idx l) (maskT mask 0 p.2), t))
  | none => none

theorem canH_spec {h : Log} {l : List Nat} : ∀ (r : List Nat) (i : Nat) {t : Log}, canH h l i r = some (true, t) →
    (∀ x, x ∈ ids t ↔ i ≤ x ∧ x < i + r.length) ∧ ∀ x, i ≤ x → x < i + r.length → ∃ B, view h (r.getD (x - i) 0) = some B ∧ usesB (memB l) B = true ∧ view t x = some (renB (idx l) B)
  | [], i, t, e => by
    simp only [canH, Option.some.injEq, Prod.mk.injEq, true_and] at e
    subst e
    refine ⟨fun x => ?_, fun x h1 h2 => ?_⟩
    · simp only [ids, List.map_nil, List.not_mem_nil, List.length_nil, false_iff]; omega
    · simp only [List.length_nil] at h2; omega
  | j :: r, i, t, e => by
    simp only [canH] at e
    cases hv : view h j with
    | none => rw [hv] at e; cases e
    | some B =>
      rw [hv] at e
      cases hc : canH h l (i + 1) r with
      | none => rw [hc] at e; cases e
      | some bt =>
        obtain ⟨b, t'⟩ := bt
        rw [hc] at e
        simp only [Option.some.injEq, Prod.mk.injEq, Bool.and_eq_true] at e
        obtain ⟨⟨h1, rfl⟩, rfl⟩ := e
        obtain ⟨k1, k2⟩ := canH_spec r (i + 1) hc
        refine ⟨fun x => ?_, fun x hx1 hx2 => ?_⟩
        · simp only [ids, List.map_cons, List.mem_cons, List.length_cons]
          have := k1 x
          simp only [ids] at this
          rw [this]
          omega
        · simp only [List.length_cons] at hx2
          rcases Nat.eq_or_lt_of_le hx1 with rfl | hlt
          · exact ⟨B, by simpa using hv, h1, by simp [view]⟩
          · obtain ⟨B', h3, h4, h5⟩ := k2 x hlt (by omega)
            refine ⟨B', ?_, h4, ?_⟩
            · have : x - i = (x - (i + 1)) + 1 := by omega
              rw [this]; simpa using h3
            · have : Nat.beq i x = false := by
                cases hb : Nat.beq i x with
                | false => rfl
                | true => exact absurd (Nat.eq_of_beq_eq_true hb) (by omega)
              simp only [view, this]; exact h5

/-- the worlds of two states, one before, one behind: the first k blocks have the names that they had -/
structure KeepsK (k : Nat) (ι : Inj) (h : Log) (w : World) (ι' : Inj) (h' : Log) (w' : World) : Prop where
  ext : ∀ i x, i < k → ι i = some x → ι' i = some x
  os : w'.os = w.os
  tape : w'.tape = w.tape
  output : w'.output = w.output
  size : w.heap.size ≤ w'.heap.size
  block : ∀ b, b < w.heap.size → ¬ Live ι h b → w'.heap[b]? = w.heap[b]?
  live : ∀ b, b < w.heap.size → Live ι' h' b → Live ι h b

theorem KeepsK.refl (k : Nat) (ι : Inj) (h : Log) (w : World) : KeepsK k ι h w ι h w := ⟨fun _ _ _ h => h, rfl, rfl, rfl, Nat.le_refl _, fun _ _ _ => rfl, fun _ _ h => h⟩

theorem KeepsK.trans {k : Nat} {ι₁ ι₂ ι₃ : Inj} {h₁ h₂ h₃ : Log} {w₁ w₂ w₃ : World} (a : KeepsK k ι₁ h₁ w₁ ι₂ h₂ w₂) (b : KeepsK k ι₂ h₂ w₂ ι₃ h₃ w₃) : KeepsK k ι₁ h₁ w₁ ι₃ h₃ w₃ :=
  ⟨fun i x hi hx => b.ext i x hi (a.ext i x hi hx), b.os.trans a.os, b.tape.trans a.tape, b.output.trans a.output, Nat.le_trans a.size b.size,
    fun k hk hn => (b.block k (Nat.lt_of_lt_of_le hk a.size) (fun hl => hn (a.live k hk hl))).trans (a.block k hk hn),
    fun k hk hl => a.live k hk (b.live k (Nat.lt_of_lt_of_le hk a.size) hl)⟩

theorem Keeps.K {ι ι' : Inj} {h h' : Log} {w w' : World} (a : Keeps ι h w ι' h' w') (k : Nat) : KeepsK k ι h w ι' h' w' :=
  ⟨fun i x _ hx => a.ext i x hx, a.os, a.tape, a.output, a.size, a.block, a.live⟩

/-- a mark of a loop is no block of the heap's -/
theorem not_live {ι : Inj} {h : Log} {w : World} (H : WRel E ra base ι h w) {r : Nat} {l : Option (List Deferred)} (hr : w.heap[r]? = some (.deferred l)) : ¬ Live ι h r := by
  rintro ⟨id, B, o, sz, hB, hi⟩
  have := H.own id B hB
  cases B with
  | segs s => obtain ⟨b, o', cs, el, fz, h1, _, h3, _⟩ := this; rw [hi] at h1; simp only [Option.some.injEq, Prod.mk.injEq] at h1; rw [← h1.1, hr] at h3; cases h3
  | map es => obtain ⟨b, o', sz', ms, c, h1, _, h3, _⟩ := this; rw [hi] at h1; simp only [Option.some.injEq, Prod.mk.injEq] at h1; rw [← h1.1, hr] at h3; cases h3
  | loop ts ps as bd s p => obtain ⟨b, o', sz', q, h1, _, h3, _⟩ := this; rw [hi] at h1; simp only [Option.some.injEq, Prod.mk.injEq] at h1; rw [← h1.1, hr] at h3; cases h3

theorem DefOK.any {ι ι' : Inj} {h h' : Log} {w : World} {nb : Nat} {ds : List Deferred} (hd : DefOK ι h w nb ds) (H : WRel E ra base ι' h' w) : DefOK ι' h' w nb ds :=
  ⟨fun d hm => let ⟨r, h1, h2, h3, _⟩ := hd.1 d hm; ⟨r, h1, h2, h3, not_live H h3⟩, hd.2⟩

theorem canon_spec {k : Nat} {l : List Nat} {mask : Nat} {p : AExit × Tmps} {h : Log} {x : State} (hc : canon k l mask p h = some (true, x)) :
    x.1 = p.1 ∧ Small h x.2.2 l.length (fun i => l.getD i 0) ∧ (∀ i, i < k → i < l.length ∧ l.getD i 0 = i) ∧
      renL (fun i => l.getD i 0) x.2.1 = maskT mask 0 p.2 ∧ usesL (fun i => Nat.blt i l.length) x.2.1 = true := by
  unfold canon at hc
  cases hh : canH h l 0 l with
  | none => rw [hh] at hc; cases hc
  | some bt =>
    obtain ⟨b, t⟩ := bt
    rw [hh] at hc
    simp only [Option.some.injEq, Prod.mk.injEq, Bool.and_eq_true] at hc
    obtain ⟨⟨h1, h2, h3, rfl⟩, rfl⟩ := hc
    obtain ⟨g1, g2⟩ := canH_spec l 0 hh
    have hs : ∀ i, memB l i = true → l.getD (idx l i) 0 = i := fun i hi => (idx_get hi).1
    have hq : ∀ i, memB l i = true → Nat.blt (idx l i) l.length = true := fun i hi => blt_iff.2 (idx_get hi).2
    refine ⟨rfl, ⟨fun i => ?_, fun i hi => ?_, fun i B hB => ?_, fun i j hi hj e => ?_, fun i B hB => ?_⟩, fun i hi => fixB_get h1 hi, renL_back hs _ h3, usesL_ren hq _ h3⟩
    · rw [g1 i]; simp
    · obtain ⟨B, _, _, h6⟩ := g2 i (Nat.zero_le _) (by simpa using hi)
      exact ⟨_, h6⟩
    · have hi := (g1 i).1 (view_mem hB)
      obtain ⟨B', h4, h5, h6⟩ := g2 i hi.1 hi.2
      rw [hB] at h6
      simp only [Option.some.injEq] at h6
      subst h6
      rw [renB_back hs h5]
      simpa using h4
    · have hn := nodupB_nodup h2
      have e' : l[i] = l[j] := by simpa [List.getD_eq_getElem?_getD, hi, hj] using e
      exact (List.getElem_inj hn).1 e'
    · have hi := (g1 i).1 (view_mem hB)
      obtain ⟨B', h4, h5, h6⟩ := g2 i hi.1 hi.2
      rw [hB] at h6
      simp only [Option.some.injEq] at h6
      subst h6
      exact usesB_ren hq h5

theorem canon_fit (hE : Plain E) {k : Nat} {l : List Nat} {mask : Nat} {p : AExit × Tmps} {h : Log} {x : State} (hc : canon k l mask p h = some (true, x)) {ι : Inj} {w : World} {nb : Nat} {a : Act} (hf : Fit E ra base ι h w nb p.2 a) :
    ∃ ι', Fit E ra base ι' x.2.2 w nb x.2.1 a ∧ KeepsK k ι h w ι' x.2.2 w := by
  obtain ⟨h1, h2, h3, h4, h5⟩ := canon_spec hc
  have H := h2.fwd hE hf.rel
  refine ⟨canI ι _ l.length, ⟨H, ?_, hf.defs.any H, hf.size⟩, ⟨fun i y hi hy => ?_, rfl, rfl, rfl, Nat.le_refl _, fun _ _ _ => rfl, fun b _ hl => h2.live hl⟩⟩
  · refine relL_fwd canI_eq _ h5 ?_
    rw [h4]
    exact maskT_rel mask 0 hf.tmps
  · obtain ⟨g1, g2⟩ := h3 i hi
    simp only [canI, if_pos g1, g2]
    exact hy

/-! ### Trees of states -/

def Tree.take (k : Nat) : Tree ((AExit × Tmps) × St) → Pat → Tree State
  | .leaf b, .leaf l mask => match canon k l mask b.1 b.2.h with
    | some (true, x) => .leaf x
    | _ => .dead
  | .leaf b, .leafN l mask => match canon k l mask b.1 b.2.h with
    | some (c, x) => .need c (.leaf x)
    | none => .dead
  | .br c t e, .c p => match c with
    | true => t.take k p
    | false => e.take k p
  | .br c t _, .t p => .need c (t.take k p)
  | .br c _ e, .f p => .but c (e.take k p)
  | .br c t e, .x p q => .br c (t.take k p) (e.take k q)
  | .need c t, .c p => match c with
    | true => t.take k p
    | false => .dead
  | .need c t, .n p => .need c (t.take k p)
  | _, _ => .dead

/-- a state's contract: told anew, it is as is asked -/
def Comes (k : Nat) (Q : State → Prop) (b : (AExit × Tmps) × St) : Prop := ∃ l mask x, canon k l mask b.1 b.2.h = some (true, x) ∧ Q x

theorem take_holds {k : Nat} {Q : State → Prop} : ∀ (t : Tree ((AExit × Tmps) × St)) (p : Pat), (t.take k p).holds Q → t.holds (Comes k Q)
  | .leaf b, .leaf l mask, h => by
    simp only [Tree.take] at h
    split at h
    · rename_i x hx; exact (⟨l, mask, x, hx, h⟩ : Comes k Q b)
    · exact h.elim
  | .leaf b, .leafN l mask, h => by
    simp only [Tree.take] at h
    split at h
    · rename_i c x hx
      obtain ⟨rfl, h⟩ := h
      exact (⟨l, mask, x, hx, h⟩ : Comes k Q b)
    · exact h.elim
  | .br c t e, .c p, h => by
    simp only [Tree.take] at h
    cases c
    · exact ⟨fun hf => (by cases hf), fun _ => take_holds e p h⟩
    · exact ⟨fun _ => take_holds t p h, fun hf => (by cases hf)⟩
  | .br c t e, .t p, h => ⟨fun _ => take_holds t p h.2, fun hc => by rw [h.1] at hc; cases hc⟩
  | .br c t e, .f p, h => ⟨fun hc => (by rw [h.1] at hc; cases hc), fun _ => take_holds e p h.2⟩
  | .br c t e, .x p q, h => ⟨fun hc => take_holds t p (h.1 hc), fun hc => take_holds e q (h.2 hc)⟩
  | .need c t, .c p, h => by
    simp only [Tree.take] at h
    cases c
    · exact h.elim
    · exact ⟨rfl, take_holds t p h⟩
  | .need c t, .n p, h => ⟨h.1, take_holds t p h.2⟩
  | .leaf _, .c _, h | .leaf _, .t _, h | .leaf _, .f _, h | .leaf _, .x _ _, h | .leaf _, .n _, h => h.elim
  | .br _ _ _, .leaf _ _, h | .br _ _ _, .leafN _ _, h | .br _ _ _, .n _, h => h.elim
  | .need _ _, .leaf _ _, h | .need _ _, .leafN _ _, h | .need _ _, .t _, h | .need _ _, .f _, h | .need _ _, .x _ _, h => h.elim
  | .but _ _, p, h => by cases p <;> exact h.elim
  | .dead, p, h => by cases p <;> exact h.elim

/-! ### Codes from state to state -/

def Takes (P : Program) (E : Nat → Nat → Seg) (ra : Nat → Nat → Nat × Nat) (base k : Nat) (c : Code) (ts : Tmps) (h : Log) (Q : State → Prop) : Prop :=
  ∀ ι w nb a, Fit E ra base ι h w nb ts a → c.wpIn (FW none) 0 P (fun e a' w' => ∃ x ι', e = x.1.toExit ∧ Q x ∧ Fit E ra base ι' x.2.2 w' nb x.2.1 a' ∧ KeepsK k ι h w ι' x.2.2 w') a w

def leafS (p : AExit × Tmps) (s : St) : Tree ((AExit × Tmps) × St) := .leaf (p, s)

theorem takes_of_tree (hE : Plain E) (hR : ExecOK P E ra base R) {k : Nat} {f : FuncId} {pl : List Bool} {c : Code} (hat : At P f pl c) {ts : Tmps} {h : Log} {nx : Nat} (hnx : Below h nx) {p : Pat} {T : Tree State} {Q : State → Prop}
    (ht : ((R f pl false c ts).full ⟨h, nx, [], []⟩ leafS).take k p = T) (hT : T.holds Q) : Takes P E ra base k c ts h Q := by
  intro ι w nb a hf
  rw [← ht] at hT
  have h1 := full_wp _ _ _ _ (take_holds _ _ hT)
  obtain ⟨q, s', d, r, h2, h3, _, _, _, h4⟩ := wp_runs _ _ _ hnx h1
  refine hR f pl none c ts ι h w nb a q d r hat hf h2 _ fun ι' a' w' f' k' => ?_
  obtain ⟨l, mask, x, hx, hQ⟩ := (h4 : Comes k Q (q, s'))
  simp only at hx
  rw [h3] at hx
  obtain ⟨ι'', f'', k''⟩ := canon_fit hE hx f'
  exact ⟨x, ι'', by rw [(canon_spec hx).1], hQ, f'', (k'.K k).trans k''⟩

theorem Takes.mono {k : Nat} {c : Code} {ts : Tmps} {h : Log} {Q Q' : State → Prop} (hq : ∀ x, Q x → Q' x) (t : Takes P E ra base k c ts h Q) : Takes P E ra base k c ts h Q' := by
  intro ι w nb a hf
  refine wpIn_mono (t ι w nb a hf) ?_
  rintro e a' w' ⟨x, ι', h1, h2, h3⟩
  exact ⟨x, ι', h1, hq x h2, h3⟩

/-- one round more, or the loop's end -/
def Round (I : Tmps → Log → Prop) (Q : State → Prop) (x : State) : Prop :=
  match x.1 with
  | .normal => I x.2.1 x.2.2
  | _ => Q x

theorem takes_loop {k : Nat} {c : Code} {Q : State → Prop} (I : Nat → Tmps → Log → Prop) (h0 : ∀ ts h, ¬ I 0 ts h) (round : ∀ j ts h, I (j + 1) ts h → Takes P E ra base k c ts h (Round (I j) Q)) {j : Nat} {ts : Tmps} {h : Log} (hI : I j ts h) :
    Takes P E ra base k (.loop c) ts h Q := by
  intro ι w nb a hf
  refine wpIn_loop_count (fun j a' w' => ∃ ts' h' ι', I j ts' h' ∧ Fit E ra base ι' h' w' nb ts' a' ∧ KeepsK k ι h w ι' h' w') ?_ ?_ (j := j) ⟨ts, h, ι, hI, hf, .refl _ _ _ _⟩
  · rintro a w ⟨ts', h', ι', h1, _⟩
    exact h0 _ _ h1
  · rintro j a₁ w₁ ⟨ts₁, h₁, ι₁, h1, h2, h3⟩
    refine wpIn_mono (round j ts₁ h₁ h1 ι₁ w₁ nb a₁ h2) ?_
    rintro e a' w' ⟨⟨xe, xt, xh⟩, ι', rfl, g1, g2, g3⟩
    cases xe with
    | normal => exact ⟨xt, xh, ι', g1, g2, h3.trans g3⟩
    | exit i => exact ⟨_, ι', rfl, g1, g2, h3.trans g3⟩
    | ret => exact ⟨_, ι', rfl, g1, g2, h3.trans g3⟩

/-- Names that need not be kept. -/
theorem Takes.free {k : Nat} {c : Code} {ts : Tmps} {h : Log} {Q : State → Prop} (t : Takes P E ra base k c ts h Q) : Takes P E ra base 0 c ts h Q := by
  intro ι w nb a hf
  refine wpIn_mono (t ι w nb a hf) ?_
  rintro e a' w' ⟨x, ι', h1, h2, h3, h4⟩
  exact ⟨x, ι', h1, h2, h3, ⟨fun i _ hi => absurd hi (Nat.not_lt_zero i), h4.os, h4.tape, h4.output, h4.size, h4.block, h4.live⟩⟩

/-- One code behind another. -/
def Then (P : Program) (E : Nat → Nat → Seg) (ra : Nat → Nat → Nat × Nat) (base k : Nat) (c : Code) (Q : State → Prop) (x : State) : Prop :=
  match x.1 with
  | .normal => Takes P E ra base k c x.2.1 x.2.2 Q
  | _ => Q x

theorem takes_seq {k : Nat} {a b : Code} {ts : Tmps} {h : Log} {Q : State → Prop} (t : Takes P E ra base k a ts h (Then P E ra base k b Q)) : Takes P E ra base k (.seq a b) ts h Q := by
  intro ι w nb ac hf
  refine wpIn_seq (wpIn_mono (t ι w nb ac hf) ?_)
  rintro e a' w' ⟨⟨xe, xt, xh⟩, ι', rfl, g1, g2, g3⟩
  cases xe with
  | normal =>
    refine wpIn_mono (g1 ι' w' nb a' g2) ?_
    rintro e a'' w'' ⟨y, ι'', rfl, q1, q2, q3⟩
    exact ⟨y, ι'', rfl, q1, q2, g3.trans q3⟩
  | exit i => exact ⟨_, ι', rfl, g1, g2, g3⟩
  | ret => exact ⟨_, ι', rfl, g1, g2, g3⟩

/-- A block: an exit that is its own ends it. -/
def InBlock (id : Nat) (Q : State → Prop) (x : State) : Prop :=
  match x.1 with
  | .exit i => if i = id then Q (.normal, x.2.1, x.2.2) else Q x
  | _ => Q x

theorem takes_block {k id : Nat} {a : Code} {ts : Tmps} {h : Log} {Q : State → Prop} (t : Takes P E ra base k a ts h (InBlock id Q)) : Takes P E ra base k (.block id a) ts h Q := by
  intro ι w nb ac hf
  refine wpIn_block (wpIn_mono (t ι w nb ac hf) ?_)
  rintro e a' w' ⟨⟨xe, xt, xh⟩, ι', rfl, g1, g2, g3⟩
  cases xe with
  | normal => exact ⟨_, ι', rfl, g1, g2, g3⟩
  | exit i =>
    simp only [AExit.toExit, Exit.inBlock]
    simp only [InBlock] at g1
    by_cases hi : i = id
    · rw [if_pos hi] at g1 ⊢; exact ⟨_, ι', rfl, g1, g2, g3⟩
    · rw [if_neg hi] at g1 ⊢; exact ⟨_, ι', rfl, g1, g2, g3⟩
  | ret => exact ⟨_, ι', rfl, g1, g2, g3⟩

end Go.Proofs.Ytcgebafffkpmfaa.Ab
