/- An operation in its place, a region in the order of its text, and a region in any order. -/
import Derived.Test.YtcgebafffkpmfaaE15
namespace Go.Proofs.Ytcgebafffkpmfaa.Ab

variable {P : Program} {E : Nat → Nat → Seg} {ra : Nat → Nat → Nat × Nat} {base : Nat} {S : Sums} {X : Exts} {R : Walk}

def wantedA (all : List Oper) (o : Oper) (ts : Tmps) : Option Bool :=
  match o.guard with
  | none => some true
  | some (j, want) => match all[j]? with
    | some oj => match oj.dst with
      | some d => match ts.getD d .undef with
        | .bool b => some (b == want)
        | .tup [] => some false
        | _ => none
      | none => none
    | none => none

section
variable (P E S X R)
def StepR (all : List Oper) (o : Oper) (ts : Tmps) (h : Log) (v : AVal) (d : Log) (r : List Nat) : Prop :=
  (wantedA all o ts = some true ∧ (opA P E S X R o (evalA ts)).Runs h v d r) ∨ (wantedA all o ts = some false ∧ v = .tup [] ∧ d = [] ∧ r = [])
end

theorem set_getD : ∀ (ts : Tmps) (d : Nat) (b : Bool), ts.getD d .undef = .bool b → ts.set d (.bool b) = ts
  | [], _, _, h => by simp at h
  | x :: ts, 0, b, h => by simp at h; simp [h]
  | x :: ts, d + 1, b, h => by simpa using set_getD ts d b (by simpa using h)

theorem gstep_runs {all : List Oper} {o : Oper} {ts ts' : Tmps} {h : Log} {d : Log} {r : List Nat} (hr : (gstepA P E S X R all o ts).Runs h ts' d r) :
    ∃ v, ts' = putA ts o.dst v ∧ StepR P E S X R all o ts h v d r := by
  have fin : ((opA P E S X R o (evalA ts)).bind fun v => .pure (putA ts o.dst v)).Runs h ts' d r → wantedA all o ts = some true → ∃ v, ts' = putA ts o.dst v ∧ StepR P E S X R all o ts h v d r := by
    intro hr hw
    rw [runs_bind] at hr
    obtain ⟨v, d₁, r₁, d₂, r₂, h1, ⟨rfl, rfl, rfl⟩, rfl, rfl⟩ := hr
    exact ⟨v, rfl, .inl ⟨hw, h1⟩⟩
  have fin2 : (AM.pure (putA ts o.dst (.tup []))).Runs h ts' d r → wantedA all o ts = some false → ∃ v, ts' = putA ts o.dst v ∧ StepR P E S X R all o ts h v d r := by
    rintro ⟨rfl, rfl, rfl⟩ hw
    exact ⟨.tup [], rfl, .inr ⟨hw, rfl, rfl, rfl⟩⟩
  unfold gstepA at hr
  split at hr
  · rename_i hg
    exact fin hr (by simp [wantedA, hg])
  · rename_i j want hg
    split at hr
    · rename_i oj hj
      split at hr
      · rename_i dd hdd
        split at hr
        · rename_i b hb
          have hset := set_getD ts dd b hb
          have hw : wantedA all o ts = some (b == want) := by simp only [wantedA, hg, hj, hdd, hb]
          cases b <;> cases want <;> simp only [AM.Runs, hset] at hr
          · exact fin hr hw
          · exact fin2 hr hw
          · exact fin2 hr hw
          · exact fin hr hw
        · rename_i hb
          exact fin2 hr (by simp only [wantedA, hg, hj, hdd, hb])
        · exact hr.elim
      · exact hr.elim
    · exact hr.elim

theorem wanted_sound {ι : Inj} {ts : Tmps} {tmps : Array Value} (ht : RelL E ra ι ts tmps.toList) {ops : Array Oper} {o : Oper} {x : Bool} (h : wantedA ops.toList o ts = some x) : Region.wanted o (yielded ops tmps) = x := by
  unfold wantedA at h
  unfold Region.wanted
  split at h
  · rename_i hg
    simp only [Option.some.injEq] at h
    simp [hg, h]
  · rename_i j want hg
    split at h
    · rename_i oj hj
      split at h
      · rename_i d hd
        split at h
        · rename_i b hb
          simp only [Option.some.injEq] at h
          have hget : ts[d]? = some (.bool b) := by
            rw [List.getD_eq_getElem?_getD] at hb
            cases hh : ts[d]? with
            | none => simp [hh] at hb
            | some y => simp [hh] at hb; rw [hb]
          obtain ⟨y, hy, hry⟩ := ht.get hget
          cases hry
          have hy' : tmps[d]? = some (.bool b) := by simpa using hy
          have hj' : ops[j]? = some oj := by simpa using hj
          have : yielded ops tmps j = some b := by simp [yielded, hj', hd, hy']
          rw [hg]
          simp only [this]
          rw [← h]
          cases b <;> cases want <;> rfl
        · rename_i hb
          simp only [Option.some.injEq] at h
          have hget : ts[d]? = some (.tup []) := by
            rw [List.getD_eq_getElem?_getD] at hb
            cases hh : ts[d]? with
            | none => simp [hh] at hb
            | some y => simp [hh] at hb; rw [hb]
          obtain ⟨y, hy, hry⟩ := ht.get hget
          cases hry with
          | tup hl =>
            have hy' : tmps[d]? = some (.tuple #[]) := by cases hl; simpa using hy
            have hj' : ops[j]? = some oj := by simpa using hj
            have : yielded ops tmps j = none := by simp [yielded, hj', hd, hy']
            rw [hg]
            simp only [this]
            rw [← h]
            cases want <;> rfl
        · cases h
      · cases h
    · cases h

theorem step_sound (hR : ExecOK P E ra base R) (hS : SumsOK P E ra base S) (hX : ExtsOK P E ra X) (hN : NamesOK P) {ι : Inj} {h : Log} {w : World} {nb : Nat} {ts : Tmps} {a : Act} (hf : Fit E ra base ι h w nb ts a) {ops : Array Oper} {i : Nat} {o : Oper} (ho : ops[i]? = some o)
    {v : AVal} {d : Log} {r : List Nat} (hs : StepR P E S X R ops.toList o ts h v d r) (ro : Option Nat) {K : Act → World → Prop} {Q : Exit → Act → World → Prop}
    (hK : ∀ ι' a' w', Fit E ra base ι' (d ++ h) w' nb (putA ts o.dst v) a' → Keeps ι h w ι' (d ++ h) w' → K a' w') : wpOpIn (FW ro) 0 P ops Q i K a w := by
  unfold wpOpIn
  simp only [ho]
  rcases hs with ⟨hw, hr⟩ | ⟨hw, rfl, rfl, rfl⟩
  · rw [if_pos (wanted_sound hf.tmps hw)]
    exact opA_sound hR hS hX hN hf.rel (evalA_sound hf.tmps) hr ro fun ι' v' w' h1 h2 h3 => hK ι' _ w' (hf.put h2 h3 _ h1) h3
  · rw [if_neg (by rw [wanted_sound hf.tmps hw]; simp)]
    exact ⟨fun _ _ => trivial, hK ι _ w (hf.put hf.rel (.refl _ _ _) _ (.tup .nil)) (.refl _ _ _)⟩

theorem opsA_sound (hR : ExecOK P E ra base R) (hS : SumsOK P E ra base S) (hX : ExtsOK P E ra X) (hN : NamesOK P) {ops : Array Oper} (ro : Option Nat) {Q : Exit → Act → World → Prop} : ∀ (l : List Oper) (i : Nat), ops.toList.drop i = l → ∀ {ι : Inj} {h : Log} {w : World} {nb : Nat} {ts : Tmps} {a : Act}, Fit E ra base ι h w nb ts a →
    ∀ {p : AExit × Tmps} {d : Log} {r : List Nat}, (opsA P E S X R ops.toList l ts).Runs h p d r →
    (∀ ι' a' w', Fit E ra base ι' (d ++ h) w' nb p.2 a' → Keeps ι h w ι' (d ++ h) w' → Q p.1.toExit a' w') → wpOpsIn (FW ro) 0 P ops Q (List.range' i l.length) a w := by
  intro l
  induction l with
  | nil =>
    rintro i _ ι h w nb ts a hf p d r ⟨rfl, rfl, rfl⟩ hQ
    exact hQ ι a w hf (.refl _ _ _)
  | cons o l ih =>
    intro i hd ι h w nb ts a hf p d r hr hQ
    simp only [opsA, runs_bind] at hr
    obtain ⟨ts', d₁, r₁, d₂, r₂, h1, h2, rfl, rfl⟩ := hr
    obtain ⟨v, rfl, hs⟩ := gstep_runs h1
    have ho : ops[i]? = some o := by
      have : ops.toList[i]? = some o := by
        rw [← List.head?_drop, hd]; rfl
      simpa using this
    rw [List.length_cons, List.range'_succ, wpOpsIn_cons]
    refine step_sound hR hS hX hN hf ho hs ro fun ι' a' w' f' k' => ?_
    refine ih (i + 1) (by rw [← List.drop_drop, hd]; rfl) f' h2 fun ι₂ a₂ w₂ f₂ k₂ => ?_
    rw [List.append_assoc] at hQ
    exact hQ ι₂ a₂ w₂ f₂ (k'.trans k₂)

/-! ### In any order -/

def Eqv (h h' : Log) : Prop := (∀ i, view h' i = view h i) ∧ ∀ i, i ∈ ids h' ↔ i ∈ ids h

theorem Eqv.refl (h : Log) : Eqv h h := ⟨fun _ => rfl, fun _ => Iff.rfl⟩
theorem Eqv.symm {h h' : Log} (e : Eqv h h') : Eqv h' h := ⟨fun i => (e.1 i).symm, fun i => (e.2 i).symm⟩
theorem Eqv.trans {a b c : Log} (x : Eqv a b) (y : Eqv b c) : Eqv a c := ⟨fun i => (y.1 i).trans (x.1 i), fun i => (y.2 i).trans (x.2 i)⟩
theorem Eqv.app {h h' : Log} (e : Eqv h h') (d : Log) : Eqv (d ++ h) (d ++ h') :=
  ⟨fun i => by rw [view_append, view_append, e.1 i], fun i => by simp only [ids, List.map_append, List.mem_append]; exact or_congr Iff.rfl (e.2 i)⟩

theorem Eqv.comm {x y : Log} (h : Log) (hd : ∀ i ∈ ids y, i ∉ ids x) : Eqv (y ++ (x ++ h)) (x ++ (y ++ h)) := by
  refine ⟨fun i => ?_, fun i => ?_⟩
  · simp only [view_append]
    by_cases hx : i ∈ ids x <;> by_cases hy : i ∈ ids y <;> simp [hx, hy]
    exact absurd hx (hd i hy)
  · simp only [ids, List.map_append, List.mem_append]
    constructor
    · rintro (h | h | h) <;> simp [h]
    · rintro (h | h | h) <;> simp [h]

theorem runs_eqv {α : Type} {m : AM α} {h h' : Log} (e : Eqv h h') {a : α} {d : Log} {r : List Nat} (hr : m.Runs h a d r) : m.Runs h' a d r :=
  runs_local m h h' a d r hr (fun i _ => e.1 i) (fun i _ hn hm => hn ((e.2 i).1 hm))

theorem Live.eqv {ι : Inj} {h h' : Log} (e : Eqv h h') {b : Nat} (hl : Live ι h' b) : Live ι h b := by
  obtain ⟨id, B, o, sz, h1, h2⟩ := hl
  exact ⟨id, B, o, sz, by rw [← e.1]; exact h1, h2⟩

theorem WRel.eqv {ι : Inj} {h h' : Log} {w : World} (H : WRel E ra base ι h w) (e : Eqv h h') : WRel E ra base ι h' w :=
  ⟨fun id x hx => (e.2 id).2 (H.dom id x hx), fun id B hB => H.own id B (by rw [← e.1]; exact hB), fun id id' B B' x x' h1 h2 => H.inj id id' B B' x x' (by rw [← e.1]; exact h1) (by rw [← e.1]; exact h2), H.le, H.roLt, H.roWF, H.ro⟩

theorem Keeps.eqv {ι ι' : Inj} {h h' h'' : Log} {w w' : World} (k : Keeps ι h w ι' h' w') (e : Eqv h' h'') : Keeps ι h w ι' h'' w' :=
  ⟨k.ext, k.os, k.tape, k.output, k.size, k.block, fun b hb hl => k.live b hb (hl.eqv e)⟩

theorem DefOK.eqv {ι : Inj} {h h' : Log} {w : World} {nb : Nat} {ds : List Deferred} (hd : DefOK ι h w nb ds) (e : Eqv h h') : DefOK ι h' w nb ds :=
  ⟨fun d hm => let ⟨r, h1, h2, h3, h4⟩ := hd.1 d hm; ⟨r, h1, h2, h3, fun hl => h4 (hl.eqv e)⟩, hd.2⟩

theorem Fit.eqv {ι : Inj} {h h' : Log} {w : World} {nb : Nat} {ts : Tmps} {a : Act} (f : Fit E ra base ι h w nb ts a) (e : Eqv h h') : Fit E ra base ι h' w nb ts a := ⟨f.rel.eqv e, f.tmps, f.defs.eqv e, f.size⟩

end Go.Proofs.Ytcgebafffkpmfaa.Ab
