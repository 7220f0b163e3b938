/- Loops and calls that are told by a contract: what must stand in the temporaries (or arguments) and blocks, and what stands there behind. All that is asked is looked up when it is used. -/
import Derived.Test.YtcgebafffkpmfaaE24
namespace Go.Proofs.Ytcgebafffkpmfaa.Ab

variable {P : Program} {E : Nat → Nat → Seg} {ra : Nat → Nat → Nat × Nat} {base : Nat} {S : Sums} {X : Exts} {L : Loops} {R : Walk}

/-! ### The same -/

def sameA : AAddr → AAddr → Bool
  | .own i o j s, .own i' o' j' s' => Nat.beq i i' && (Nat.beq o o' && (decide (j = j') && Nat.beq s s'))
  | .ro t p i c, .ro t' p' i' c' => Nat.beq t t' && (decide (p = p') && (decide (i = i') && Nat.beq c c'))
  | _, _ => false

def sameCap : Option Nat → Option Nat → Bool
  | none, none => true
  | some a, some b => decide (a = b)
  | _, _ => false

mutual
def sameV : AVal → AVal → Bool
  | .undef, .undef => true
  | .bool a, .bool b => decide (a = b)
  | .int k n, .int k' n' => decide (k = k') && decide (n = n')
  | .str a, .str b => decide (a = b)
  | .nilp, .nilp => true
  | .ptr a, .ptr b => sameA a b
  | .nils, .nils => true
  | .slice a l c, .slice b m d => sameA a b && (decide (l = m) && sameCap c d)
  | .nilf, .nilf => true
  | .fn f cs, .fn g ds => Nat.beq f g && sameL cs ds
  | .yld i, .yld j => Nat.beq i j
  | .nili, .nili => true
  | .iface t v, .iface u w => Nat.beq t u && sameV v w
  | .nilm, .nilm => true
  | .mapv i, .mapv j => Nat.beq i j
  | .agg cs, .agg ds => sameL cs ds
  | .tup cs, .tup ds => sameL cs ds
  | _, _ => false
def sameL : List AVal → List AVal → Bool
  | [], [] => true
  | a :: l, b :: m => sameV a b && sameL l m
  | _, _ => false
end

theorem beq_of {a b : Nat} (h : Nat.beq a b = true) : a = b := Nat.eq_of_beq_eq_true h

theorem sameA_eq {a b : AAddr} (h : sameA a b = true) : a = b := by
  cases a <;> cases b <;> simp only [sameA, Bool.and_eq_true, decide_eq_true_eq] at h
  · obtain ⟨h1, h2, h3, h4⟩ := h; rw [beq_of h1, beq_of h2, h3, beq_of h4]
  · cases h
  · cases h
  · obtain ⟨h1, h2, h3, h4⟩ := h; rw [beq_of h1, h2, h3, beq_of h4]

theorem sameCap_eq {a b : Option Nat} (h : sameCap a b = true) : a = b := by
  cases a <;> cases b <;> simp only [sameCap, decide_eq_true_eq] at h
  · rfl
  · cases h
  · cases h
  · rw [h]

mutual
theorem sameV_eq : ∀ {a b : AVal}, sameV a b = true → a = b
  | .undef, b, h => by cases b <;> simp only [sameV] at h <;> first | rfl | cases h
  | .bool _, b, h => by cases b <;> simp only [sameV, decide_eq_true_eq] at h <;> first | rw [h] | cases h
  | .int _ _, b, h => by cases b <;> simp only [sameV, Bool.and_eq_true, decide_eq_true_eq] at h <;> first | rw [h.1, h.2] | cases h
  | .str _, b, h => by cases b <;> simp only [sameV, decide_eq_true_eq] at h <;> first | rw [h] | cases h
  | .nilp, b, h => by cases b <;> simp only [sameV] at h <;> first | rfl | cases h
  | .ptr _, b, h => by cases b <;> simp only [sameV] at h <;> first | rw [sameA_eq h] | cases h
  | .nils, b, h => by cases b <;> simp only [sameV] at h <;> first | rfl | cases h
  | .slice _ _ _, b, h => by cases b <;> simp only [sameV, Bool.and_eq_true, decide_eq_true_eq] at h <;> first | rw [sameA_eq h.1, h.2.1, sameCap_eq h.2.2] | cases h
  | .nilf, b, h => by cases b <;> simp only [sameV] at h <;> first | rfl | cases h
  | .fn _ _, b, h => by cases b <;> simp only [sameV, Bool.and_eq_true] at h <;> first | rw [beq_of h.1, sameL_eq h.2] | cases h
  | .yld _, b, h => by cases b <;> simp only [sameV] at h <;> first | rw [beq_of h] | cases h
  | .nili, b, h => by cases b <;> simp only [sameV] at h <;> first | rfl | cases h
  | .iface _ _, b, h => by cases b <;> simp only [sameV, Bool.and_eq_true] at h <;> first | rw [beq_of h.1, sameV_eq h.2] | cases h
  | .nilm, b, h => by cases b <;> simp only [sameV] at h <;> first | rfl | cases h
  | .mapv _, b, h => by cases b <;> simp only [sameV] at h <;> first | rw [beq_of h] | cases h
  | .agg _, b, h => by cases b <;> simp only [sameV] at h <;> first | rw [sameL_eq h] | cases h
  | .tup _, b, h => by cases b <;> simp only [sameV] at h <;> first | rw [sameL_eq h] | cases h
theorem sameL_eq : ∀ {a b : List AVal}, sameL a b = true → a = b
  | [], b, h => by cases b <;> simp only [sameL] at h <;> first | rfl | cases h
  | _ :: _, b, h => by cases b <;> simp only [sameL, Bool.and_eq_true] at h <;> first | rw [sameV_eq h.1, sameL_eq h.2] | cases h
end

def sameC : Col → Col → Bool
  | .int k xs, .int k' ys => decide (k = k') && decide (xs = ys)
  | .bool xs, .bool ys => decide (xs = ys)
  | .str xs, .str ys => decide (xs = ys)
  | .val xs, .val ys => sameL xs ys
  | _, _ => false

def sameCs : List Col → List Col → Bool
  | [], [] => true
  | a :: l, b :: m => sameC a b && sameCs l m
  | _, _ => false

def sameSs : List Seg → List Seg → Bool
  | [], [] => true
  | a :: l, b :: m => decide (a.n = b.n) && (decide (a.st = b.st) && (sameCs a.cols b.cols && sameSs l m))
  | _, _ => false

def sameB : Blk → Blk → Bool
  | .segs l, .segs m => sameSs l m
  | _, _ => false

theorem sameC_eq {a b : Col} (h : sameC a b = true) : a = b := by
  cases a <;> cases b <;> simp only [sameC, Bool.and_eq_true, decide_eq_true_eq] at h <;> first | cases h; done | skip
  · rw [h.1, h.2]
  · rw [h]
  · rw [h]
  · rw [sameL_eq h]

theorem sameCs_eq : ∀ {a b : List Col}, sameCs a b = true → a = b
  | [], [], _ => rfl
  | a :: l, b :: m, h => by simp only [sameCs, Bool.and_eq_true] at h; rw [sameC_eq h.1, sameCs_eq h.2]
  | [], _ :: _, h => by cases h
  | _ :: _, [], h => by cases h

theorem sameSs_eq : ∀ {a b : List Seg}, sameSs a b = true → a = b
  | [], [], _ => rfl
  | a :: l, b :: m, h => by
    obtain ⟨n, st, cs⟩ := a
    obtain ⟨n', st', cs'⟩ := b
    simp only [sameSs, Bool.and_eq_true, decide_eq_true_eq] at h
    rw [h.1, h.2.1, sameCs_eq h.2.2.1, sameSs_eq h.2.2.2]
  | [], _ :: _, h => by cases h
  | _ :: _, [], h => by cases h

theorem sameB_eq {a b : Blk} (h : sameB a b = true) : a = b := by
  cases a <;> cases b <;> simp only [sameB] at h <;> first | rw [sameSs_eq h] | cases h

/-! ### Contracts -/

/-- what is asked and given, in names of one's own: 0, 1, .. are the blocks that are asked, then the new ones -/
structure Deal (ξ : Type) where
  ins : ξ → List (Nat × AVal)
  blks : ξ → List Blk
  pre : ξ → Bool
  ex : ξ → AExit
  outs : ξ → List (Nat × AVal)
  blks' : ξ → List Blk

def sameTs (σ : Nat → Nat) (ts : Tmps) : List (Nat × AVal) → Bool
  | [] => true
  | (j, v) :: l => sameV (ts.getD j .undef) (renV σ v) && sameTs σ ts l

def usesTs (p : Nat → Bool) : List (Nat × AVal) → Bool
  | [] => true
  | (_, v) :: l => usesV p v && usesTs p l

def usesBs (p : Nat → Bool) : List Blk → Bool
  | [] => true
  | B :: l => usesB p B && usesBs p l

def sameBs (σ : Nat → Nat) : List Blk → List Blk → Bool
  | [], [] => true
  | A :: l, B :: m => sameB A (renB σ B) && sameBs σ l m
  | _, _ => false

def readsA {α : Type} : List Nat → (List Blk → AM α) → AM α
  | [], k => k []
  | i :: l, k => .read i fun B => readsA l fun Bs => k (B :: Bs)

def updsA {α : Type} (σ : Nat → Nat) : List Nat → List Blk → AM α → AM α
  | i :: l, B :: Bs, k => .upd i (some (renB σ B)) (updsA σ l Bs k)
  | _, _, k => k

/-- new blocks, one behind the other; each may hold those before it -/
def newsA {α : Type} : List Nat → List Blk → (List Nat → AM α) → AM α
  | l, [], k => k l
  | l, B :: Bs, k => .alloc (renB (nm l) B) fun i => newsA (l ++ [i]) Bs k

def usesNews : Nat → List Blk → Bool
  | _, [] => true
  | m, B :: l => usesB (fun i => Nat.blt i m) B && usesNews (m + 1) l

/-- the blocks that are laid anew come first -/
def dealOk {ξ : Type} (D : Deal ξ) (l : List Nat) (x : ξ) (Bs : List Blk) : Bool :=
  nodupB l && (Nat.beq (D.blks x).length l.length && (Nat.ble l.length (D.blks' x).length && (sameBs (nm l) Bs (D.blks x) && (usesBs (fun i => Nat.blt i l.length) (D.blks x) &&
    (usesBs (fun i => Nat.blt i (D.blks' x).length) ((D.blks' x).take l.length) && usesNews l.length ((D.blks' x).drop l.length))))))

def dealA (n : Nat) {ξ : Type} (D : Deal ξ) (l : List Nat) (x : ξ) (ts : Tmps) (Bs : List Blk) : AM (AExit × Tmps) :=
  .need (dealOk D l x Bs) (.need (Nat.beq ts.length n && (sameTs (nm l) ts (D.ins x) && (usesTs (fun i => Nat.blt i l.length) (D.ins x) && usesTs (fun i => Nat.blt i (D.blks' x).length) (D.outs x))))
  (.need (D.pre x) (newsA l ((D.blks' x).drop l.length) fun l' => updsA (nm l') l ((D.blks' x).take l.length) (.pure (D.ex x, mkT n ((D.outs x).map fun o => (o.1, renV (nm l') o.2)))))))

def loopA' (n : Nat) {ξ : Type} (D : Deal ξ) (ids : Tmps → Option (List Nat)) (dec : Tmps → List Blk → Option ξ) (ts : Tmps) : AM (AExit × Tmps) :=
  match ids ts with
  | some l => readsA l fun Bs => match dec ts Bs with
    | some x => dealA n D l x ts Bs
    | none => .fail
  | none => .fail

theorem reads_runs {α : Type} : ∀ {l : List Nat} {k : List Blk → AM α} {h : Log} {v : α} {d : Log} {r : List Nat}, (readsA l k).Runs h v d r →
    ∃ Bs r', Bs.length = l.length ∧ (∀ i, i < l.length → view h (l.getD i 0) = Bs[i]?) ∧ (k Bs).Runs h v d r'
  | [], k, h, v, d, r, hr => ⟨[], r, rfl, fun i hi => absurd hi (Nat.not_lt_zero _), hr⟩
  | i :: l, k, h, v, d, r, hr => by
    obtain ⟨B, r', hv, rfl, hr⟩ := hr
    obtain ⟨Bs, r'', h1, h2, h3⟩ := reads_runs hr
    refine ⟨B :: Bs, r'', by simp [h1], fun j hj => ?_, h3⟩
    cases j with
    | zero => simpa using hv
    | succ j => simpa using h2 j (by simpa using hj)

theorem upds_runs {α : Type} {σ : Nat → Nat} : ∀ {l : List Nat} {Bs : List Blk} {k : AM α} {h : Log} {v : α} {d : Log} {r : List Nat}, l.Nodup → l.length ≤ Bs.length → (updsA σ l Bs k).Runs h v d r →
    ∃ d₁ d₂ r', d = d₂ ++ d₁ ∧ (∀ j, j ∈ ids d₁ ↔ j ∈ l) ∧ (∀ i, i < l.length → view d₁ (l.getD i 0) = (Bs[i]?).map (renB σ)) ∧ k.Runs (d₁ ++ h) v d₂ r'
  | [], Bs, k, h, v, d, r, _, _, hr => ⟨[], d, r, by simp, fun j => by simp [ids], fun i hi => absurd hi (Nat.not_lt_zero _), by cases Bs <;> exact hr⟩
  | i :: l, [], k, h, v, d, r, _, hl, hr => by simp at hl
  | i :: l, B :: Bs, k, h, v, d, r, hn, hl, hr => by
    obtain ⟨B', d', r', hv, rfl, rfl, hr⟩ := hr
    rw [List.nodup_cons] at hn
    obtain ⟨d₁, d₂, r'', rfl, h1, h2, h3⟩ := upds_runs hn.2 (by simpa using hl) hr
    refine ⟨d₁ ++ [(i, some (renB σ B))], d₂, r'', by simp, fun j => ?_, fun j hj => ?_, by simpa using h3⟩
    · have := h1 j
      simp only [ids, List.map_append, List.map_cons, List.map_nil, List.mem_append, List.mem_cons, List.not_mem_nil, or_false] at this ⊢
      rw [this]; exact or_comm
    · rw [view_append]
      cases j with
      | zero =>
        simp only [List.getD_cons_zero, h1, if_neg hn.1]
        simp [view]
      | succ j =>
        have hj' : j < l.length := by simpa using hj
        have hm : l.getD j 0 ∈ l := by
          rw [List.getD_eq_getElem?_getD, List.getElem?_eq_getElem hj']; exact List.getElem_mem _
        simp only [List.getD_cons_succ, h1, if_pos hm, List.getElem?_cons_succ]
        exact h2 j hj'

theorem nm_take {l m : List Nat} {i : Nat} (h : i < l.length) : nm (l ++ m) i = nm l i := by
  rw [nm_get h, nm_get (by simp; omega), List.getElem_append_left h]

theorem news_runs {α : Type} : ∀ {Bs : List Blk} {l : List Nat} {k : List Nat → AM α} {h : Log} {v : α} {d : Log} {r : List Nat}, usesNews l.length Bs = true → (newsA l Bs k).Runs h v d r →
    ∃ new d₁ d₂, new.length = Bs.length ∧ new.Nodup ∧ (∀ j ∈ new, j ∉ ids h) ∧ d = d₂ ++ d₁ ∧ (∀ j, j ∈ ids d₁ ↔ j ∈ new) ∧ (∀ i, i < new.length → view d₁ (new.getD i 0) = (Bs[i]?).map (renB (nm (l ++ new)))) ∧ (k (l ++ new)).Runs (d₁ ++ h) v d₂ r
  | [], l, k, h, v, d, r, _, hr => ⟨[], [], d, rfl, .nil, fun j hj => by simp at hj, by simp, fun j => by simp [ids], fun i hi => absurd hi (Nat.not_lt_zero _), by rw [List.append_nil]; exact hr⟩
  | B :: Bs, l, k, h, v, d, r, hu, hr => by
    simp only [usesNews, Bool.and_eq_true] at hu
    obtain ⟨i, d', hi, rfl, hr⟩ := hr
    obtain ⟨new, d₁, d₂, h1, h2, h3, rfl, h4, h5, h6⟩ := news_runs (l := l ++ [i]) (by simpa using hu.2) hr
    have hin : i ∉ new := fun hm => h3 i hm (by simp [ids])
    have hB : renB (nm l) B = renB (nm (l ++ i :: new)) B := (renB_congr (fun j hj => nm_take (blt_iff.1 hj)) hu.1).symm
    refine ⟨i :: new, d₁ ++ [(i, some (renB (nm l) B))], d₂, by simp [h1], List.nodup_cons.2 ⟨hin, h2⟩, fun j hj => ?_, by simp, fun j => ?_, fun j hj => ?_, by simpa using h6⟩
    · rcases List.mem_cons.1 hj with rfl | hj
      · exact hi
      · intro hm; exact h3 j hj (by simp only [ids, List.map_cons, List.mem_cons]; exact .inr hm)
    · have := h4 j
      simp only [ids, List.map_append, List.map_cons, List.map_nil, List.mem_append, List.mem_cons, List.not_mem_nil, or_false] at this ⊢
      rw [this]; exact or_comm
    · rw [view_append]
      cases j with
      | zero =>
        simp only [List.getD_cons_zero, h4, if_neg hin]
        simp [view, hB]
      | succ j =>
        have hj' : j < new.length := by simpa using hj
        have hm : new.getD j 0 ∈ new := by
          rw [List.getD_eq_getElem?_getD, List.getElem?_eq_getElem hj']; exact List.getElem_mem _
        simp only [List.getD_cons_succ, h4, if_pos hm, List.getElem?_cons_succ]
        simpa using h5 j hj'

theorem sameBs_get {σ : Nat → Nat} : ∀ {Bs Cs : List Blk}, sameBs σ Bs Cs = true → ∀ i : Nat, Bs[i]? = (Cs[i]?).map (renB σ)
  | [], [], _, i => by simp
  | A :: l, B :: m, h, i => by
    simp only [sameBs, Bool.and_eq_true] at h
    cases i with
    | zero => simp [sameB_eq h.1]
    | succ i => simpa using sameBs_get h.2 i
  | [], _ :: _, h, _ => by cases h
  | _ :: _, [], h, _ => by cases h

theorem usesBs_get {p : Nat → Bool} : ∀ {Bs : List Blk}, usesBs p Bs = true → ∀ {i : Nat} {B : Blk}, Bs[i]? = some B → usesB p B = true
  | [], _, i, B, hi => by simp at hi
  | A :: l, h, i, B, hi => by
    simp only [usesBs, Bool.and_eq_true] at h
    cases i with
    | zero => simp at hi; subst hi; exact h.1
    | succ i => exact usesBs_get h.2 (by simpa using hi)

theorem stand_of {h : Log} {σ : Nat → Nat} {k : Nat} : ∀ {l : List Nat} {Bs : List Blk}, l.length = Bs.length → (∀ (i : Nat) (B : Blk), Bs[i]? = some B → view h (l.getD i 0) = some (renB σ B) ∧ usesB (fun i => Nat.blt i k) B = true) → Stand h σ k l Bs
  | [], [], _, _ => trivial
  | j :: l, B :: Bs, hl, hg => ⟨(hg 0 B rfl).1, (hg 0 B rfl).2, stand_of (by simpa using hl) fun i C hi => by simpa using hg (i + 1) C (by simpa using hi)⟩
  | [], _ :: _, hl, _ => by simp at hl
  | _ :: _, [], hl, _ => by simp at hl

theorem reads_of {σ : Nat → Nat} {p : Nat → Bool} {ts : Tmps} : ∀ {l : List (Nat × AVal)}, sameTs σ ts l = true → usesTs p l = true → Reads σ p ts l
  | [], _, _ => trivial
  | (j, v) :: l, h, u => by
    simp only [sameTs, Bool.and_eq_true] at h
    simp only [usesTs, Bool.and_eq_true] at u
    exact ⟨sameV_eq h.1, u.1, reads_of h.2 u.2⟩

theorem renA_id (a : AAddr) : renA id a = a := by cases a <;> rfl

mutual
theorem renV_id : ∀ v : AVal, renV id v = v
  | .undef => by rw [renV]
  | .bool _ => by rw [renV]
  | .int _ _ => by rw [renV]
  | .str _ => by rw [renV]
  | .nilp => by rw [renV]
  | .ptr a => by rw [renV, renA_id]
  | .nils => by rw [renV]
  | .slice a _ _ => by rw [renV, renA_id]
  | .nilf => by rw [renV]
  | .fn _ cs => by rw [renV, renL_id cs]
  | .yld _ => by rw [renV]; rfl
  | .nili => by rw [renV]
  | .iface _ v => by rw [renV, renV_id v]
  | .nilm => by rw [renV]
  | .mapv _ => by rw [renV]; rfl
  | .agg cs => by rw [renV, renL_id cs]
  | .tup cs => by rw [renV, renL_id cs]
theorem renL_id : ∀ l : List AVal, renL id l = l
  | [] => by rw [renL]
  | v :: l => by rw [renL, renV_id v, renL_id l]
end

theorem usesV_mono {p q : Nat → Bool} (hq : ∀ i, p i = true → q i = true) {v : AVal} (hu : usesV p v = true) : usesV q v = true := by
  have := usesV_ren (τ := id) hq v hu
  rwa [renV_id] at this

theorem usesL_mono {p q : Nat → Bool} (hq : ∀ i, p i = true → q i = true) {v : List AVal} (hu : usesL p v = true) : usesL q v = true := by
  have := usesL_ren (τ := id) hq v hu
  rwa [renL_id] at this

theorem usesB_mono {p q : Nat → Bool} (hq : ∀ i, p i = true → q i = true) {B : Blk} (hu : usesB p B = true) : usesB q B = true := by
  cases B with
  | segs l =>
    simp only [usesB, List.all_eq_true] at hu ⊢
    intro s hs c hc
    have := hu s hs c hc
    cases c with
    | val xs => exact usesL_mono hq this
    | _ => rfl
  | map es => cases hu
  | loop ts ps as bd st pe => exact usesL_mono hq hu

theorem usesNews_get : ∀ {Bs : List Blk} {m : Nat}, usesNews m Bs = true → ∀ {i : Nat} {B : Blk}, Bs[i]? = some B → usesB (fun j => Nat.blt j (m + i)) B = true
  | [], _, _, i, B, hi => by simp at hi
  | A :: l, m, h, i, B, hi => by
    simp only [usesNews, Bool.and_eq_true] at h
    cases i with
    | zero => simp at hi; subst hi; exact h.1
    | succ i =>
      have := usesNews_get h.2 (i := i) (B := B) (by simpa using hi)
      rwa [show m + 1 + i = m + (i + 1) by omega] at this

/-- what a deal does to the blocks -/
theorem deal_blocks {ξ : Type} {D : Deal ξ} {l : List Nat} {x : ξ} {Bs : List Blk} {h : Log} (hok : dealOk D l x Bs = true) (hlen : Bs.length = l.length) (hv : ∀ i, i < l.length → view h (l.getD i 0) = Bs[i]?)
    {α : Type} {k : List Nat → AM α} {v : α} {d : Log} {r : List Nat} (hr : (newsA l ((D.blks' x).drop l.length) fun l' => updsA (nm l') l ((D.blks' x).take l.length) (k l')).Runs h v d r) :
    l.Nodup ∧ (D.blks x).length = l.length ∧ Stand h (nm l) l.length l (D.blks x) ∧ ∃ (new : List Nat) (d₀ d₁ : Log) (r' : List Nat), (l ++ new).length = (D.blks' x).length ∧ (l ++ new).Nodup ∧ (∀ j ∈ new, j ∉ ids h) ∧ d = d₁ ++ d₀ ∧
      (∀ j, j ∈ ids d₀ ↔ j ∈ l ++ new) ∧ Stand (d₀ ++ h) (nm (l ++ new)) (l ++ new).length (l ++ new) (D.blks' x) ∧ (k (l ++ new)).Runs (d₀ ++ h) v d₁ r' := by
  simp only [dealOk, Bool.and_eq_true] at hok
  obtain ⟨k1, k2, k3, k4, k5, k6, k7⟩ := hok
  have hn := nodupB_nodup k1
  have k2 := beq_of k2
  have k3 := Nat.le_of_ble_eq_true k3
  obtain ⟨new, d₁, d₂, g1, g2, g3, rfl, g4, g5, g6⟩ := news_runs k7 hr
  have hsub : ∀ j ∈ l, j ∈ ids h := fun j hj => by
    obtain ⟨i, hi, e⟩ := List.getElem_of_mem hj
    have := hv i hi
    rw [List.getD_eq_getElem?_getD, List.getElem?_eq_getElem hi, Option.getD_some, e, List.getElem?_eq_getElem (by omega)] at this
    exact view_mem this
  have hnd : (l ++ new).Nodup := List.nodup_append.2 ⟨hn, g2, fun a ha b hb e => g3 b hb (e ▸ hsub a ha)⟩
  obtain ⟨e₁, e₂, r', rfl, m1, m2, m3⟩ := upds_runs hn (by simp; omega) g6
  have hlen' : (l ++ new).length = (D.blks' x).length := by simp [g1]; omega
  refine ⟨hn, k2, stand_of k2.symm fun i B hi => ⟨?_, usesBs_get k5 hi⟩, new, e₁ ++ d₁, e₂, r', hlen', hnd, g3, by simp, fun j => ?_, ?_, by simpa using m3⟩
  · have hi' : i < l.length := by
      rcases Nat.lt_or_ge i (D.blks x).length with h' | h'
      · omega
      · simp [List.getElem?_eq_none h'] at hi
    rw [hv i hi', sameBs_get k4 i, hi]; rfl
  · simp only [ids, List.map_append, List.mem_append]
    have a1 := m1 j
    have a2 := g4 j
    simp only [ids] at a1 a2
    rw [a1, a2]
  · refine stand_of hlen' fun i B hi => ?_
    have hib : i < (l ++ new).length := by
      rcases Nat.lt_or_ge i (D.blks' x).length with h' | h'
      · omega
      · simp [List.getElem?_eq_none h'] at hi
    have hmn : (l ++ new).getD i 0 = (l ++ new)[i] := nm_get hib
    rw [List.append_assoc, view_append, hmn]
    rcases Nat.lt_or_ge i l.length with h' | h'
    · have e : (l ++ new)[i] = l[i] := List.getElem_append_left h'
      have hm : l[i] ∈ l := List.getElem_mem _
      rw [e, if_pos ((m1 _).2 hm)]
      have := m2 i h'
      rw [List.getD_eq_getElem?_getD, List.getElem?_eq_getElem h', Option.getD_some] at this
      have ht : ((D.blks' x).take l.length)[i]? = some B := by rw [List.getElem?_take, if_pos h', hi]
      rw [this, ht]
      exact ⟨rfl, by rw [hlen']; exact usesBs_get k6 ht⟩
    · have e : (l ++ new)[i] = new[i - l.length]'(by simp at hib; omega) := List.getElem_append_right h'
      have hm : new[i - l.length]'(by simp at hib; omega) ∈ new := List.getElem_mem _
      have hnl : new[i - l.length]'(by simp at hib; omega) ∉ l := fun hl => (List.nodup_append.1 hnd).2.2 _ hl _ hm rfl
      rw [e, if_neg (fun hc => hnl ((m1 _).1 hc)), view_append, if_pos ((g4 _).2 hm)]
      have hq : i - l.length < new.length := by simp at hib; omega
      have := g5 (i - l.length) hq
      rw [List.getD_eq_getElem?_getD, List.getElem?_eq_getElem hq, Option.getD_some] at this
      have ht : ((D.blks' x).drop l.length)[i - l.length]? = some B := by rw [List.getElem?_drop, show l.length + (i - l.length) = i by omega, hi]
      rw [this, ht]
      refine ⟨rfl, usesB_mono (fun j hj => ?_) (usesNews_get k7 ht)⟩
      rw [blt_iff] at hj ⊢
      omega

theorem writes_of {τ : Nat → Nat} {p : Nat → Bool} {n : Nat} : ∀ {l : List (Nat × AVal)} {ts : Tmps}, (∀ o ∈ l, ts.getD o.1 .undef = o.2) → usesTs p l = true → Writes τ p ts (l.map fun o => (o.1, renV τ o.2))
  | [], _, _, _ => trivial
  | (j, v) :: l, ts, h, u => by
    simp only [usesTs, Bool.and_eq_true] at u
    have e := h (j, v) (by simp)
    simp only at e
    exact ⟨by rw [e], by rw [e]; exact u.1, writes_of (n := n) (fun o ho => h o (by simp [ho])) u.2⟩

/-- each place is told once, and is one -/
def onceB (n : Nat) : List (Nat × AVal) → Bool
  | [] => true
  | (j, _) :: l => Nat.blt j n && (l.all (fun o => !Nat.beq j o.1) && onceB n l)

theorem mkT_get {n : Nat} : ∀ {l : List (Nat × AVal)}, onceB n l = true → ∀ o ∈ l, (mkT n l).getD o.1 .undef = o.2
  | [], _, o, ho => by simp at ho
  | (j, v) :: l, h, o, ho => by
    simp only [onceB, Bool.and_eq_true] at h
    have hj := blt_iff.1 h.1
    rw [List.getD_eq_getElem?_getD]
    rcases List.mem_cons.1 ho with rfl | ho
    · simp only [mkT]
      rw [List.getElem?_set_self (by rw [mkT_length]; exact hj)]; rfl
    · have hne : j ≠ o.1 := fun e => by
        have := List.all_eq_true.1 h.2.1 o ho
        simp [e] at this
      simp only [mkT]
      rw [List.getElem?_set_ne hne, ← List.getD_eq_getElem?_getD]
      exact mkT_get h.2.2 o ho

/-- A loop's contract. -/
theorem sumL_deal (hE : Plain E) (hL : LoopsOK P E ra base L) {f : FuncId} (hf : Nat.beq f noF = false) {pl : List Bool} {c : Code} (hc : codeAt P f (false :: pl) = some c) {n : Nat} {ξ : Type} {D : Deal ξ} {gets : Tmps → Option (List Nat)} {dec : Tmps → List Blk → Option ξ}
    (hone : ∀ x, onceB n (D.outs x) = true)
    (ht : ∀ x, D.pre x = true → Takes P E ra base (D.blks x).length (.loop c) (mkT n (D.ins x)) (hp 0 (D.blks x)) fun y => y = (D.ex x, mkT n (D.outs x), hp 0 (D.blks' x))) : LoopsOK P E ra base (sumL f pl (loopA' n D gets dec) L) := by
  refine sumL_told hE hL hf hc fun ts h p d r hr => ?_
  unfold loopA' at hr
  split at hr
  · rename_i l hl
    obtain ⟨Bs, r', h1, h2, hr⟩ := reads_runs hr
    split at hr
    · rename_i x hx
      obtain ⟨hok, hr⟩ := hr
      obtain ⟨hts, hr⟩ := hr
      obtain ⟨hpre, hr⟩ := hr
      simp only [Bool.and_eq_true] at hts
      obtain ⟨t1, t2, t3, t4⟩ := hts
      obtain ⟨k1, k2, k3, new, d₀, d₁, r'', k4, k5, k6, rfl, k7, k8, rfl, rfl, rfl⟩ := deal_blocks (α := AExit × Tmps) (k := fun l' => .pure (D.ex x, mkT n ((D.outs x).map fun o => (o.1, renV (nm l') o.2)))) hok h1 h2 hr
      refine ⟨l, mkT n (D.ins x), D.blks x, k1, k3, under_mkT (beq_of t1) (reads_of t2 t3), ?_⟩
      have := ht x hpre
      rw [k2] at this
      refine this.mono fun y hy => ?_
      subst hy
      refine ⟨rfl, new, D.blks' x, rfl, k5, fun j hj => ⟨k6 j hj, (k7 j).2 (by simp [hj])⟩, fun j hj => (k7 j).1 hj, by simpa using k8, ?_⟩
      refine out_mkT (mkT_length n _) (writes_of (n := n) (mkT_get (hone x)) ?_)
      rw [k4]; exact t4
    · exact hr.elim
  · exact hr.elim

/-! ### Calls -/

structure CDeal (ξ : Type) where
  args : ξ → List AVal
  blks : ξ → List Blk
  pre : ξ → Bool
  out : ξ → AVal
  blks' : ξ → List Blk

def CDeal.deal {ξ : Type} (D : CDeal ξ) : Deal ξ := ⟨fun _ => [], D.blks, D.pre, fun _ => .ret, fun _ => [], D.blks'⟩

def callD {ξ : Type} (D : CDeal ξ) (gets : List AVal → Option (List Nat)) (dec : List AVal → List Blk → Option ξ) (as : List AVal) : AM AVal :=
  match gets as with
  | some l => readsA l fun Bs => match dec as Bs with
    | some x => .need (dealOk D.deal l x Bs) (.need (sameL as (renL (nm l) (D.args x)) && (usesL (fun i => Nat.blt i l.length) (D.args x) && usesV (fun i => Nat.blt i (D.blks' x).length) (D.out x)))
      (.need (D.pre x) (newsA l ((D.blks' x).drop l.length) fun l' => updsA (nm l') l ((D.blks' x).take l.length) (.pure (renV (nm l') (D.out x))))))
    | none => .fail
  | none => .fail

/-- A function's contract. -/
theorem sumF_deal (hE : Plain E) (hS : SumsOK P E ra base S) {f : FuncId} (hb : HasBody P f) {ξ : Type} {D : CDeal ξ} {gets : List AVal → Option (List Nat)} {dec : List AVal → List Blk → Option ξ}
    (ht : ∀ x, D.pre x = true → Gives P E ra base (D.blks x).length f (D.args x) (hp 0 (D.blks x)) fun v h' => v = D.out x ∧ h' = hp 0 (D.blks' x)) : SumsOK P E ra base (sumF f (callD D gets dec) S) := by
  refine sumF_told hE hS hb fun as h v d r hr => ?_
  unfold callD at hr
  split at hr
  · rename_i l hl
    obtain ⟨Bs, r', h1, h2, hr⟩ := reads_runs hr
    split at hr
    · rename_i x hx
      obtain ⟨hok, hr⟩ := hr
      obtain ⟨hts, hr⟩ := hr
      obtain ⟨hpre, hr⟩ := hr
      simp only [Bool.and_eq_true] at hts
      obtain ⟨t1, t2, t3⟩ := hts
      obtain ⟨k1, k2, k3, new, d₀, d₁, r'', k4, k5, k6, rfl, k7, k8, rfl, rfl, rfl⟩ := deal_blocks (D := D.deal) (α := AVal) (k := fun l' => .pure (renV (nm l') (D.out x))) hok h1 h2 hr
      refine ⟨l, D.args x, D.blks x, k1, k3, sameL_eq t1, t2, ?_⟩
      have := ht x hpre
      rw [show (D.blks x).length = l.length from k2] at this
      refine this.mono fun y h' hy => ?_
      obtain ⟨rfl, rfl⟩ := hy
      refine ⟨new, D.blks' x, rfl, k5, fun j hj => ⟨k6 j hj, (k7 j).2 (by simp [hj])⟩, fun j hj => (k7 j).1 hj, k8, rfl, ?_⟩
      rw [k4]; exact t3
    · exact hr.elim
  · exact hr.elim

/-- A contract of a call that has to do with no blocks. -/
structure PDeal (ξ : Type) where
  args : ξ → List AVal
  pre : ξ → Bool
  out : ξ → AVal

def callP {ξ : Type} (D : PDeal ξ) (dec : List AVal → Option ξ) (as : List AVal) : AM AVal :=
  match dec as with
  | some x => .need (D.pre x) (.pure (D.out x))
  | none => .fail

theorem sumF_plain (hE : Plain E) (hS : SumsOK P E ra base S) {f : FuncId} (hb : HasBody P f) {ξ : Type} {D : PDeal ξ} {dec : List AVal → Option ξ} (hd : ∀ as x, dec as = some x → as = D.args x)
    (hu : ∀ x, usesL (fun _ => false) (D.args x) = true ∧ usesV (fun _ => false) (D.out x) = true)
    (ht : ∀ x, D.pre x = true → Gives P E ra base 0 f (D.args x) (hp 0 []) fun v h' => v = D.out x ∧ h' = hp 0 []) : SumsOK P E ra base (sumF f (callP D dec) S) := by
  refine sumF_told hE hS hb fun as h v d r hr => ?_
  unfold callP at hr
  split at hr
  · rename_i x hx
    obtain ⟨hpre, rfl, rfl, rfl⟩ := hr
    have := hd as x hx
    subst this
    obtain ⟨u1, u2⟩ := hu x
    refine ⟨[], D.args x, [], .nil, trivial, (renL_of_plain u1).symm, usesL_mono (fun i hi => by cases hi) u1, (ht x hpre).mono ?_⟩
    rintro v h' ⟨rfl, rfl⟩
    exact ⟨[], [], rfl, .nil, fun j hj => by simp at hj, fun j hj => by simp [ids] at hj, trivial, (renV_of_plain u2).symm, usesV_mono (fun i hi => by cases hi) u2⟩
  · exact hr.elim

end Go.Proofs.Ytcgebafffkpmfaa.Ab
