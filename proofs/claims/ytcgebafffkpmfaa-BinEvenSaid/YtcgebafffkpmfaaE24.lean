/- Told loops and calls: the blocks by their names in a list. -/
import Derived.Test.YtcgebafffkpmfaaE23
namespace Go.Proofs.Ytcgebafffkpmfaa.Ab

variable {P : Program} {E : Nat → Nat → Seg} {ra : Nat → Nat → Nat × Nat} {base : Nat} {S : Sums} {X : Exts} {L : Loops} {R : Walk}

/-- blocks, numbered from a number on -/
def hp : Nat → List Blk → Log
  | _, [] => []
  | i, B :: r => (i, some B) :: hp (i + 1) r

theorem hp_ids : ∀ (Bs : List Blk) (i x : Nat), x ∈ ids (hp i Bs) ↔ i ≤ x ∧ x < i + Bs.length
  | [], i, x => by
    simp only [hp, ids, List.map_nil, List.not_mem_nil, List.length_nil, false_iff]
    omega
  | B :: r, i, x => by
    have := hp_ids r (i + 1) x
    simp only [ids] at this
    simp only [hp, ids, List.map_cons, List.mem_cons, List.length_cons, this]
    omega

theorem hp_view : ∀ (Bs : List Blk) (i x : Nat), i ≤ x → view (hp i Bs) x = Bs[x - i]?
  | [], i, x, _ => by simp [hp, view]
  | B :: r, i, x, hx => by
    simp only [hp, view]
    cases hb : Nat.beq i x with
    | true => have := Nat.eq_of_beq_eq_true hb; subst this; simp
    | false =>
      have hne : i ≠ x := fun e => by subst e; simp at hb
      have := hp_view r (i + 1) x (by omega)
      rw [this]
      have e : x - i = (x - (i + 1)) + 1 := by omega
      rw [e]; simp

theorem hp_below (Bs : List Blk) : Below (hp 0 Bs) Bs.length := fun i hi => by have := (hp_ids Bs 0 i).1 hi; omega

/-- the name of a number -/
def nm (l : List Nat) (i : Nat) : Nat := l.getD i 0

/-- the blocks stand under these names -/
def Stand (h : Log) (σ : Nat → Nat) (k : Nat) : List Nat → List Blk → Prop
  | [], [] => True
  | j :: l, B :: Bs => view h j = some (renB σ B) ∧ usesB (fun i => Nat.blt i k) B = true ∧ Stand h σ k l Bs
  | _, _ => False

theorem Stand.length {h : Log} {σ : Nat → Nat} {k : Nat} : ∀ {l : List Nat} {Bs : List Blk}, Stand h σ k l Bs → l.length = Bs.length
  | [], [], _ => rfl
  | _ :: _, _ :: _, s => by simp [Stand.length s.2.2]
  | [], _ :: _, s => s.elim
  | _ :: _, [], s => s.elim

theorem Stand.get {h : Log} {σ : Nat → Nat} {k : Nat} : ∀ {l : List Nat} {Bs : List Blk}, Stand h σ k l Bs → ∀ {i : Nat} {B : Blk}, Bs[i]? = some B → view h (l.getD i 0) = some (renB σ B) ∧ usesB (fun i => Nat.blt i k) B = true
  | [], [], _, i, B, hi => by simp at hi
  | j :: l, B' :: Bs, s, i, B, hi => by
    cases i with
    | zero => simp at hi; subst hi; exact ⟨s.1, s.2.1⟩
    | succ i => simpa using Stand.get s.2.2 (i := i) (B := B) (by simpa using hi)
  | [], _ :: _, s, _, _, _ => s.elim
  | _ :: _, [], s, _, _, _ => s.elim

theorem nm_get {l : List Nat} {i : Nat} (hi : i < l.length) : nm l i = l[i] := by
  rw [nm, List.getD_eq_getElem?_getD, List.getElem?_eq_getElem hi]; rfl

theorem getD_inj {l : List Nat} (hn : l.Nodup) {i j : Nat} (hi : i < l.length) (hj : j < l.length) (e : l.getD i 0 = l.getD j 0) : i = j := by
  have e' : l[i] = l[j] := by simpa [List.getD_eq_getElem?_getD, hi, hj] using e
  exact (List.getElem_inj hn).1 e'

theorem small_hp {h : Log} {l : List Nat} {Bs : List Blk} (hn : l.Nodup) (hs : Stand h (nm l) l.length l Bs) : Small h (hp 0 Bs) l.length (nm l) := by
  have hl := hs.length
  refine ⟨fun i => ?_, fun i hi => ?_, fun i B hB => ?_, fun i j hi hj e => getD_inj hn hi hj e, fun i B hB => ?_⟩
  · rw [hp_ids]; omega
  · rw [hp_view _ _ _ (Nat.zero_le _)]
    exact ⟨Bs[i]'(by omega), List.getElem?_eq_getElem _⟩
  · rw [hp_view _ _ _ (Nat.zero_le _)] at hB
    exact (hs.get (by simpa using hB)).1
  · rw [hp_view _ _ _ (Nat.zero_le _)] at hB
    exact (hs.get (by simpa using hB)).2

/-- Behind it, under the old names and some new ones. -/
theorem tells_hp {h hc d : Log} {l new : List Nat} {Bs' : List Blk} (hn : (l ++ new).Nodup) (hnew : ∀ j ∈ new, j ∉ ids h ∧ j ∈ ids d) (hd : ∀ j ∈ ids d, j ∈ l ++ new)
    (hs : Stand (d ++ h) (nm (l ++ new)) (l ++ new).length (l ++ new) Bs') : Tells h hc (hp 0 Bs') d l.length (nm l) (nm (l ++ new)) (fun i => Nat.blt i (l ++ new).length) := by
  have hl := hs.length
  have hlt : ∀ i, Nat.blt i (l ++ new).length = true ↔ i < (l ++ new).length := fun i => blt_iff
  have hget : ∀ i, l.length ≤ i → i < (l ++ new).length → nm (l ++ new) i ∈ new := by
    intro i h1 h2
    have : (l ++ new)[i]'h2 ∈ new := by rw [List.getElem_append_right h1]; exact List.getElem_mem _
    rw [nm_get h2]; exact this
  refine ⟨fun i hi => ⟨?_, (hlt i).2 (by simp; omega)⟩, fun i h1 h2 => ?_, fun i j h1 h2 h3 h4 e => getD_inj hn ((hlt i).1 h3) ((hlt j).1 h4) e, fun i h1 h2 => ?_, fun j hj => ?_, fun i B h1 h2 => ?_⟩
  · simp [nm, List.getD_eq_getElem?_getD, List.getElem?_append_left hi]
  · have := hnew _ (hget i h1 ((hlt i).1 h2))
    exact ⟨this.1, fun _ => this.2⟩
  · have hi := (hlt i).1 h1
    rw [hp_view _ _ _ (Nat.zero_le _)]
    have hb : Bs'[i]? = some (Bs'[i]'(by omega)) := List.getElem?_eq_getElem _
    rw [Nat.sub_zero, hb]
    exact (hs.get hb).1
  · have := hd j hj
    obtain ⟨i, hi, e⟩ := List.getElem_of_mem this
    exact ⟨i, (hlt i).2 hi, (hp_ids _ _ _).2 (by omega), by rw [nm_get hi, e]⟩
  · rw [hp_view _ _ _ (Nat.zero_le _)] at h2
    exact (hs.get (by simpa using h2)).2

/-! ### Temporaries -/

theorem Under.blank {σ : Nat → Nat} {p : Nat → Bool} : ∀ (ts : Tmps), Under σ p ts (List.replicate ts.length .undef)
  | [] => .nil
  | _ :: ts => .skip (Under.blank ts)

theorem Under.set {σ : Nat → Nat} {p : Nat → Bool} {ts tc : Tmps} (u : Under σ p ts tc) : ∀ {j : Nat} {v : AVal}, ts.getD j .undef = renV σ v → usesV p v = true → Under σ p ts (tc.set j v) := by
  induction u with
  | nil => intro j v _ _; cases j <;> exact .nil
  | skip t ih =>
    intro j v e hv
    cases j with
    | zero => simp only [List.getD_cons_zero] at e; subst e; exact .cons hv t
    | succ j => exact .skip (ih (by simpa using e) hv)
  | cons hc t ih =>
    intro j v e hv
    cases j with
    | zero => simp only [List.getD_cons_zero] at e; rw [e]; exact .cons hv t
    | succ j => exact .cons hc (ih (by simpa using e) hv)

/-- each of these stands in its place -/
def Reads (σ : Nat → Nat) (p : Nat → Bool) (ts : Tmps) : List (Nat × AVal) → Prop
  | [] => True
  | (j, v) :: l => ts.getD j .undef = renV σ v ∧ usesV p v = true ∧ Reads σ p ts l

theorem under_mkT {σ : Nat → Nat} {p : Nat → Bool} {ts : Tmps} {n : Nat} (hn : ts.length = n) : ∀ {l : List (Nat × AVal)}, Reads σ p ts l → Under σ p ts (mkT n l)
  | [], _ => by subst hn; exact .blank ts
  | (j, v) :: l, h => (under_mkT hn h.2.2).set h.1 h.2.1

theorem Out.blank {τ : Nat → Nat} {p : Nat → Bool} : ∀ (ts : Tmps), Out τ p ts (List.replicate ts.length .undef)
  | [] => .nil
  | _ :: ts => .skip (Out.blank ts)

theorem Out.set {τ : Nat → Nat} {p : Nat → Bool} {ts tc : Tmps} (u : Out τ p ts tc) : ∀ {j : Nat} {v : AVal}, v = renV τ (ts.getD j .undef) → usesV p (ts.getD j .undef) = true → Out τ p ts (tc.set j v) := by
  induction u with
  | nil => intro j v _ _; cases j <;> exact .nil
  | skip t ih =>
    intro j v e hv
    cases j with
    | zero => simp only [List.getD_cons_zero] at e hv; subst e; exact .cons hv t
    | succ j => exact .skip (ih (by simpa using e) (by simpa using hv))
  | cons hc t ih =>
    intro j v e hv
    cases j with
    | zero => simp only [List.getD_cons_zero] at e hv; subst e; exact .cons hv t
    | succ j => exact .cons hc (ih (by simpa using e) (by simpa using hv))

def Writes (τ : Nat → Nat) (p : Nat → Bool) (ts : Tmps) : List (Nat × AVal) → Prop
  | [] => True
  | (j, v) :: l => v = renV τ (ts.getD j .undef) ∧ usesV p (ts.getD j .undef) = true ∧ Writes τ p ts l

theorem out_mkT {τ : Nat → Nat} {p : Nat → Bool} {ts : Tmps} {n : Nat} (hn : ts.length = n) : ∀ {l : List (Nat × AVal)}, Writes τ p ts l → Out τ p ts (mkT n l)
  | [], _ => by subst hn; exact .blank ts
  | (j, v) :: l, h => (out_mkT hn h.2.2).set h.1 h.2.1

theorem mkT_length (n : Nat) : ∀ l : List (Nat × AVal), (mkT n l).length = n
  | [] => by simp [mkT]
  | (j, v) :: l => by simp [mkT, mkT_length n l]

/-- A loop that stands in a code, told: found for its own blocks, it is told for any that are like them. -/
theorem sumL_told (hE : Plain E) (hL : LoopsOK P E ra base L) {f : FuncId} (hf : Nat.beq f noF = false) {pl : List Bool} {c : Code} (hc : codeAt P f (false :: pl) = some c) {m : Tmps → AM (AExit × Tmps)}
    (hm : ∀ (ts : Tmps) (h : Log) (p : AExit × Tmps) (d : Log) (r : List Nat), (m ts).Runs h p d r → ∃ (l : List Nat) (tc : Tmps) (Bs : List Blk), l.Nodup ∧ Stand h (nm l) l.length l Bs ∧ Under (nm l) (fun i => Nat.blt i l.length) ts tc ∧
      Takes P E ra base l.length (.loop c) tc (hp 0 Bs) fun x => x.1 = p.1 ∧ ∃ (new : List Nat) (Bs' : List Blk), x.2.2 = hp 0 Bs' ∧ (l ++ new).Nodup ∧ (∀ j ∈ new, j ∉ ids h ∧ j ∈ ids d) ∧ (∀ j ∈ ids d, j ∈ l ++ new) ∧
        Stand (d ++ h) (nm (l ++ new)) (l ++ new).length (l ++ new) Bs' ∧ Out (nm (l ++ new)) (fun i => Nat.blt i (l ++ new).length) x.2.1 p.2) : LoopsOK P E ra base (sumL f pl m L) := by
  refine sumL_ok hL hf fun c' hc' ts ι h w nb a p d r hfit hr Q hQ => ?_
  have : c' = c := by
    simp only [codeAt] at hc
    rw [hc'] at hc
    simpa [kid] using hc
  subst this
  obtain ⟨l, tc, Bs, h1, h2, h3, h4⟩ := hm ts h p d r hr
  refine told_loop hE (small_hp h1 h2) h3 (h4.mono fun x hx => ?_) hfit hQ
  obtain ⟨g1, new, Bs', g2, g3, g4, g5, g6, g7⟩ := hx
  exact ⟨g1, _, _, by rw [g2]; exact tells_hp g3 g4 g5 g6, g7⟩

/-- A function told: found for its own blocks, it is told for any that are like them. -/
theorem sumF_told (hE : Plain E) (hS : SumsOK P E ra base S) {f : FuncId} (hb : HasBody P f) {m : List AVal → AM AVal}
    (hm : ∀ (as : List AVal) (h : Log) (v : AVal) (d : Log) (r : List Nat), (m as).Runs h v d r → ∃ (l : List Nat) (ac : List AVal) (Bs : List Blk), l.Nodup ∧ Stand h (nm l) l.length l Bs ∧ as = renL (nm l) ac ∧ usesL (fun i => Nat.blt i l.length) ac = true ∧
      Gives P E ra base l.length f ac (hp 0 Bs) fun vc h' => ∃ (new : List Nat) (Bs' : List Blk), h' = hp 0 Bs' ∧ (l ++ new).Nodup ∧ (∀ j ∈ new, j ∉ ids h ∧ j ∈ ids d) ∧ (∀ j ∈ ids d, j ∈ l ++ new) ∧
        Stand (d ++ h) (nm (l ++ new)) (l ++ new).length (l ++ new) Bs' ∧ v = renV (nm (l ++ new)) vc ∧ usesV (fun i => Nat.blt i (l ++ new).length) vc = true) : SumsOK P E ra base (sumF f m S) := by
  refine sumF_ok hS hb fun as h v d r hr => ?_
  obtain ⟨l, ac, Bs, h1, h2, h3, h4, h5⟩ := hm as h v d r hr
  refine told_call hE (small_hp h1 h2) h3 h4 (h5.mono fun vc h' hx => ?_)
  obtain ⟨new, Bs', g2, g3, g4, g5, g6, g7, g8⟩ := hx
  exact ⟨_, _, by rw [g2]; exact tells_hp g3 g4 g5 g6, g7, g8⟩

/-! ### What has no blocks -/

mutual
theorem renV_of_plain {σ : Nat → Nat} : ∀ {v : AVal}, usesV (fun _ => false) v = true → renV σ v = v
  | .undef, _ => by rw [renV]
  | .bool _, _ => by rw [renV]
  | .int _ _, _ => by rw [renV]
  | .str _, _ => by rw [renV]
  | .nilp, _ => by rw [renV]
  | .ptr (.own _ _ _ _), h => by rw [usesV, usesA] at h; cases h
  | .ptr (.ro _ _ _ _), _ => by rw [renV, renA]
  | .nils, _ => by rw [renV]
  | .slice (.own _ _ _ _) _ _, h => by rw [usesV, usesA] at h; cases h
  | .slice (.ro _ _ _ _) _ _, _ => by rw [renV, renA]
  | .nilf, _ => by rw [renV]
  | .fn _ _, h => by rw [usesV] at h; rw [renV, renL_of_plain h]
  | .yld _, h => by rw [usesV] at h; cases h
  | .nili, _ => by rw [renV]
  | .iface _ _, h => by rw [usesV] at h; rw [renV, renV_of_plain h]
  | .nilm, _ => by rw [renV]
  | .mapv _, h => by rw [usesV] at h; cases h
  | .agg _, h => by rw [usesV] at h; rw [renV, renL_of_plain h]
  | .tup _, h => by rw [usesV] at h; rw [renV, renL_of_plain h]
theorem renL_of_plain {σ : Nat → Nat} : ∀ {l : List AVal}, usesL (fun _ => false) l = true → renL σ l = l
  | [], _ => by rw [renL]
  | v :: l, h => by rw [usesL, Bool.and_eq_true] at h; rw [renL, renV_of_plain h.1, renL_of_plain h.2]
end

theorem renB_of_plain {σ : Nat → Nat} {B : Blk} (h : usesB (fun _ => false) B = true) : renB σ B = B := by
  have := renB_congr (p := fun _ => false) (σ := id) (τ := σ) (fun i hi => by cases hi) h
  rw [this]
  cases B with
  | segs l =>
    simp only [renB, Blk.segs.injEq]
    conv => rhs; rw [← List.map_id l]
    refine List.map_congr_left fun s hs => ?_
    obtain ⟨n, st, cols⟩ := s
    simp only [renS, id, Seg.mk.injEq, true_and]
    conv => rhs; rw [← List.map_id cols]
    refine List.map_congr_left fun c hc => ?_
    have := List.all_eq_true.1 (List.all_eq_true.1 h _ hs) c hc
    cases c with
    | val xs => simp only [renC, id]; rw [renL_of_plain this]
    | _ => rfl
  | map es => cases h
  | loop ts ps as bd st pe => simp only [renB]; rw [renL_of_plain h]

end Go.Proofs.Ytcgebafffkpmfaa.Ab
