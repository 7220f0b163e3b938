/- Slice expressions, aggregates, conversions, lengths: against the model's. -/
import Derived.Test.YtohdkgdaccoohaaE06
namespace Go.Proofs.Ytohdkgdaccoohaa.Ab

variable {P : Program} {E : Nat → Nat → Seg} {ra : Nat → Nat → Nat × Nat} {base : Nat}

/-! ### Slice expressions -/
def optI : Option AVal → Option (Option Int)
  | none => some none
  | some (.int _ n) => some (some n)
  | some _ => none

def needIf {α : Type} (o : Option Int) (y : Nat) (k : AM α) : AM α :=
  match o with
  | none => k
  | some v => .need (decide (0 ≤ v) && decide (v ≤ (y : Int))) k

def orNat (o : Option Int) (d : Nat) : Nat :=
  match o with
  | none => d
  | some v => v.toNat

def boundsA {α : Type} (len cap : Nat) (lo hi mx : Option Int) (k : Nat → Nat → Nat → AM α) : AM α :=
  match mx, hi with
  | some _, none => .fail
  | mx, hi => needIf mx cap (needIf hi (orNat mx cap) (needIf lo (orNat hi len) (k (orNat lo 0) (orNat hi len) (orNat mx cap))))

def OkI (o : Option Int) (y : Nat) : Prop := ∀ v, o = some v → 0 ≤ v ∧ v ≤ (y : Int)

theorem runs_needIf {α : Type} {o : Option Int} {y : Nat} {k : AM α} {h : Log} {a : α} {d : Log} {r : List Nat} : (needIf o y k).Runs h a d r ↔ OkI o y ∧ k.Runs h a d r := by
  cases o with
  | none => simp [needIf, OkI]
  | some v => simp [needIf, AM.Runs, OkI]

theorem runs_boundsA {α : Type} {len cap : Nat} {lo hi mx : Option Int} {k : Nat → Nat → Nat → AM α} {h : Log} {a : α} {d : Log} {r : List Nat} (hr : (boundsA len cap lo hi mx k).Runs h a d r) :
    OkI mx cap ∧ OkI hi (orNat mx cap) ∧ OkI lo (orNat hi len) ∧ (mx ≠ none → hi ≠ none) ∧ (k (orNat lo 0) (orNat hi len) (orNat mx cap)).Runs h a d r := by
  unfold boundsA at hr
  split at hr
  · simp [AM.Runs] at hr
  · rename_i hne
    simp only [runs_needIf] at hr
    refine ⟨hr.1, hr.2.1, hr.2.2.1, fun hm hh => ?_, hr.2.2.2⟩
    cases mx with
    | none => exact hm rfl
    | some v => exact hne v rfl hh

/-- the option's number, in the world -/
def RelO (o : Option Int) (o' : Option Value) : Prop :=
  match o, o' with
  | none, none => True
  | some n, some v => ∃ k, v = .int k n
  | _, _ => False

theorem relO {ι : Inj} {o : Option AVal} {o' : Option Value} {n : Option Int} (ho : optI o = some n) (hr : ∀ v, o = some v → ∃ v', o' = some v' ∧ Rel E ra ι v v') (hn : o = none → o' = none) : RelO n o' := by
  cases o with
  | none => simp only [optI, Option.some.injEq] at ho; subst ho; rw [hn rfl]; trivial
  | some v =>
    obtain ⟨v', rfl, hv⟩ := hr v rfl
    cases v <;> simp only [optI, Option.some.injEq] at ho <;> try (cases ho; done)
    subst ho
    cases hv
    exact ⟨_, rfl⟩

theorem run_bound {w : World} {k : IntKind} {i : Int} {y : Nat} {code : BoundsCode} (h : 0 ≤ i ∧ i ≤ (y : Int)) : (Instr.sliceBound (.int k i) y code).run P w = .ok i.toNat w := by
  simp [Instr.sliceBound, asIntOf, h.1, h.2]

theorem run_bounds {w : World} {isSlice : Bool} {len cap : Nat} {lo hi mx : Option Int} {lo' hi' mx' : Option Value} (h1 : OkI mx cap) (h2 : OkI hi (orNat mx cap)) (h3 : OkI lo (orNat hi len)) (h4 : mx ≠ none → hi ≠ none)
    (r1 : RelO lo lo') (r2 : RelO hi hi') (r3 : RelO mx mx') : (Instr.sliceBounds isSlice len cap lo' hi' mx').run P w = .ok (orNat lo 0, orNat hi len, orNat mx cap) w := by
  cases mx with
  | none =>
    cases mx' with
    | some _ => exact r3.elim
    | none =>
      cases hi with
      | none =>
        cases hi' with
        | some _ => exact r2.elim
        | none =>
          cases lo with
          | none => cases lo' with | some _ => exact r1.elim | none => simp [Instr.sliceBounds, orNat]
          | some l =>
            cases lo' with
            | none => exact r1.elim
            | some l' =>
              obtain ⟨kl, rfl⟩ := r1
              have e3 : 0 ≤ l ∧ l ≤ (len : Int) := h3 l rfl
              simp [Instr.sliceBounds, orNat, run_bound e3]
      | some hh =>
        have e2 : 0 ≤ hh ∧ hh ≤ (cap : Int) := h2 hh rfl
        cases hi' with
        | none => exact r2.elim
        | some hv =>
          obtain ⟨kh, rfl⟩ := r2
          cases lo with
          | none => cases lo' with | some _ => exact r1.elim | none => simp [Instr.sliceBounds, orNat, run_bound e2]
          | some l =>
            have e3 : 0 ≤ l ∧ l ≤ (hh.toNat : Int) := h3 l rfl
            cases lo' with
            | none => exact r1.elim
            | some l' =>
              obtain ⟨kl, rfl⟩ := r1
              simp [Instr.sliceBounds, orNat, run_bound e2, run_bound e3]
  | some m =>
    have e1 : 0 ≤ m ∧ m ≤ (cap : Int) := h1 m rfl
    cases mx' with
    | none => exact r3.elim
    | some mv =>
      obtain ⟨km, rfl⟩ := r3
      cases hi with
      | none => exact absurd rfl (h4 (by simp))
      | some hh =>
        have e2 : 0 ≤ hh ∧ hh ≤ (m.toNat : Int) := h2 hh rfl
        cases hi' with
        | none => exact r2.elim
        | some hv =>
          obtain ⟨kh, rfl⟩ := r2
          cases lo with
          | none => cases lo' with | some _ => exact r1.elim | none => simp [Instr.sliceBounds, orNat, run_bound e1, run_bound e2]
          | some l =>
            have e3 : 0 ≤ l ∧ l ≤ (hh.toNat : Int) := h3 l rfl
            cases lo' with
            | none => exact r1.elim
            | some l' =>
              obtain ⟨kl, rfl⟩ := r1
              simp [Instr.sliceBounds, orNat, run_bound e1, run_bound e2, run_bound e3]

section
variable (P E)
def capOf (cap : Option Nat) (mx : Option Int) (l m : Nat) : Option Nat :=
  match cap, mx with
  | none, none => none
  | _, _ => some (m - l)

def sliceA (t : TypeId) (x : AVal) (lo hi mx : Option AVal) : AM AVal :=
  match optI lo, optI hi, optI mx, P.underlying t, x with
  | some lo, some hi, some none, some .string, .str s => boundsA s.size s.size lo hi none fun l h _ => .pure (.str (s.extract l h))
  | some lo, some hi, some mx, some (.slice e), .nils => match P.info? e with
    | some _ => boundsA 0 0 lo hi mx fun _ _ _ => .pure .nils
    | none => .fail
  | some lo, some hi, some mx, some (.slice e), .slice a len cap => match P.info? e with
    | some inf => match a with
      | .own id off i st => match Nat.beq st inf.size with
        | true => boundsA len (cap.getD len) lo hi mx fun l h m => .pure (.slice (.own id off (i + l) st) (h - l) (capOf cap mx l m))
        | false => .fail
      | .ro tid par i c => match Nat.beq (E tid par).st inf.size with
        | true => boundsA len (cap.getD len) lo hi mx fun l h m => .pure (.slice (.ro tid par (i + l) c) (h - l) (capOf cap mx l m))
        | false => .fail
    | none => .fail
  | some lo, some hi, some mx, some (.array n e), .ptr (.own id off 0 0) => match P.info? e with
    | some inf => .read id fun b => match b with
      | .segs sg => match Nat.ble (off + n * inf.size) (total sg) with
        | true => boundsA n n lo hi mx fun l h m => .pure (.slice (.own id off l inf.size) (h - l) (some (m - l)))
        | false => .fail
      | _ => .fail
    | none => .fail
  | _, _, _, _, _ => .fail
end

theorem orNat_le {o : Option Int} {d y : Nat} (h : OkI o y) (hd : d ≤ y) : orNat o d ≤ y := by
  cases o with
  | none => exact hd
  | some v => have := h v rfl; simp only [orNat]; omega

theorem addr_if {b x l size m : Nat} {p : Addr} (hp : p = ⟨b, x, none⟩) : (if m = l then p else p.add (l * size)) = ⟨b, x + (if m = l then 0 else l * size), none⟩ := by
  subst hp; split
  · simp
  · rw [addr_add]

def stOf (E : Nat → Nat → Seg) : AAddr → Nat
  | .own _ _ _ st => st
  | .ro tid par _ _ => (E tid par).st

def stepA : AAddr → Nat → AAddr
  | .own id off i st, l => .own id off (i + l) st
  | .ro tid par i c, l => .ro tid par (i + l) c

/-- what a slice of a slice is -/
theorem relS_slice {ι : Inj} {a : AAddr} {len : Nat} {cap : Option Nat} {x : Addr} {cap' size : Nat} (hS : RelS E ra ι a len cap x cap') {lo hi mx : Option Int}
    (h1 : OkI mx (cap.getD len)) (h2 : OkI hi (orNat mx (cap.getD len))) (h3 : OkI lo (orNat hi len)) (h4 : mx ≠ none → hi ≠ none)
    (hst : stOf E a = size) :
    OkI mx cap' ∧ OkI hi (orNat mx cap') ∧ RelS E ra ι (stepA a (orNat lo 0)) (orNat hi len - orNat lo 0) (capOf cap mx (orNat lo 0) (orNat mx (cap.getD len)))
      (if orNat mx cap' = orNat lo 0 then x else x.add (orNat lo 0 * size)) (orNat mx cap' - orNat lo 0) := by
  obtain ⟨g1, g2, g3⟩ := hS
  have hcd : cap.getD len ≤ cap' := by
    cases cap with
    | none => simpa using g1
    | some c => have := g2 c rfl; simp; omega
  have k1 : OkI mx cap' := fun v hv => ⟨(h1 v hv).1, by have := (h1 v hv).2; omega⟩
  have k2 : OkI hi (orNat mx cap') := fun v hv => ⟨(h2 v hv).1, by
    have := (h2 v hv).2
    cases mx with
    | none => simp only [orNat] at this ⊢; omega
    | some m => exact this⟩
  have kh : orNat hi len ≤ orNat mx cap' := by
    cases hi with
    | some v => have := (k2 v rfl).2; simp only [orNat] at this ⊢; omega
    | none =>
      cases mx with
      | none => exact g1
      | some m =>
        exact absurd rfl (h4 (by simp))
  have kl : orNat lo 0 ≤ orNat hi len := orNat_le h3 (Nat.zero_le _)
  have km : orNat mx cap' ≤ cap' := orNat_le k1 (Nat.le_refl _)
  refine ⟨k1, k2, by omega, fun c hc => ?_, ?_⟩
  · cases cap with
    | none =>
      cases mx with
      | none => simp [capOf] at hc
      | some m => simp [capOf] at hc; simp only [orNat] at hc ⊢; exact hc
    | some c0 =>
      have := g2 c0 rfl
      subst this
      simp only [capOf, Option.getD_some, Option.some.injEq] at hc
      exact hc
  · by_cases hz : orNat mx cap' - orNat lo 0 = 0
    · exact .inl hz
    · right
      rcases g3 with g3 | g3
      · exfalso; omega
      · cases a with
        | own id off i st =>
          obtain ⟨b, o, sz, g4, rfl, g5⟩ := g3
          simp only [stOf] at hst
          subst hst
          refine ⟨b, o, sz, g4, ?_, ?_⟩
          · rw [if_neg (by omega), addr_add, Nat.add_mul]; congr 1; omega
          · have : (i + orNat lo 0 + (orNat mx cap' - orNat lo 0)) * st ≤ (i + cap') * st := Nat.mul_le_mul_right _ (by omega)
            omega
        | ro tid par i c =>
          simp only [stOf] at g3 hst
          subst g3
          show _ = _
          rw [if_neg (by omega), addr_add, ← hst, Nat.add_mul]; congr 1; omega

theorem run_slice_of {w : World} {t e : TypeId} {inf : TypeInfo} (hu : P.underlying t = some (.slice e)) (hi : P.info? e = some inf) {a : Option Addr} {len cap : Nat} {lo hi' mx : Option Value} {l h m : Nat}
    (hb : (Instr.sliceBounds true len cap lo hi' mx).run P w = .ok (l, h, m) w) :
    (Instr.sliceAt t (.slice a len cap) lo hi' mx).run P w = .ok (.slice (if m = l then a else a.map (·.add (l * inf.size))) (h - l) (m - l)) w := by
  simp [Instr.sliceAt, Instr.slice, run_underlying hu, hb, run_sizeOf hi]

theorem sliceA_sound {ι : Inj} {h : Log} {w : World} (H : WRel E ra base ι h w) {t : TypeId} {x : AVal} {x' : Value} (hx : Rel E ra ι x x') {lo hi mx : Option AVal} {lo' hi' mx' : Option Value}
    (rlo : ∀ v, lo = some v → ∃ v', lo' = some v' ∧ Rel E ra ι v v') (nlo : lo = none → lo' = none) (rhi : ∀ v, hi = some v → ∃ v', hi' = some v' ∧ Rel E ra ι v v') (nhi : hi = none → hi' = none)
    (rmx : ∀ v, mx = some v → ∃ v', mx' = some v' ∧ Rel E ra ι v v') (nmx : mx = none → mx' = none) :
    SoundAt P E ra base ι h w (sliceA P E t x lo hi mx) (Instr.sliceAt t x' lo' hi' mx') := by
  refine .of_pure H fun v d r hr => ?_
  unfold sliceA at hr
  split at hr
  · -- a text
    rename_i l0 h0 s e1 e2 e3 hu
    cases hx
    obtain ⟨b1, b2, b3, b4, hr⟩ := runs_boundsA hr
    obtain ⟨rfl, rfl, rfl⟩ := hr
    have q1 := relO e1 rlo nlo
    have q2 := relO e2 rhi nhi
    have q3 := relO e3 rmx nmx
    have hm : mx' = none := by cases mx' with | none => rfl | some _ => exact q3.elim
    subst hm
    have hb := run_bounds (P := P) (w := w) (isSlice := false) b1 b2 b3 b4 q1 q2 q3
    exact ⟨rfl, _, by simp [Instr.sliceAt, Instr.slice, run_underlying hu, hb], .str _⟩
  · -- the nil slice
    rename_i l0 h0 m0 e e1 e2 e3 hu
    cases hx
    cases hi0 : P.info? e with
    | none => simp [hi0, AM.Runs] at hr
    | some inf =>
    simp only [hi0] at hr
    obtain ⟨b1, b2, b3, b4, hr⟩ := runs_boundsA hr
    obtain ⟨rfl, rfl, rfl⟩ := hr
    have hb := run_bounds (P := P) (w := w) (isSlice := true) b1 b2 b3 b4 (relO e1 rlo nlo) (relO e2 rhi nhi) (relO e3 rmx nmx)
    have z3 : orNat m0 0 = 0 := Nat.le_zero.1 (orNat_le b1 (Nat.le_refl _))
    have z2 : orNat h0 0 = 0 := by have := orNat_le b2 (Nat.zero_le _); omega
    have z1 : orNat l0 0 = 0 := by have := orNat_le b3 (Nat.zero_le _); omega
    rw [z1, z2, z3] at hb
    exact ⟨rfl, _, by rw [run_slice_of hu hi0 hb]; rfl, .nils⟩
  · -- a slice
    rename_i l0 h0 m0 e a len cap e1 e2 e3 hu
    cases hx with | slice hS hNm =>
    rename_i y cap'
    cases hi0 : P.info? e with
    | none => simp [hi0, AM.Runs] at hr
    | some inf =>
      simp only [hi0] at hr
      have fin : ∀ a' : Nat → AAddr, stOf E a = inf.size →
          (boundsA len (cap.getD len) l0 h0 m0 fun l h m => (.pure (.slice (a' l) (h - l) (capOf cap m0 l m)) : AM AVal)).Runs h v d r →
          (∀ l, a' l = stepA a l) →
          d = [] ∧ ∃ v', (Instr.sliceAt t (.slice (some y) len cap') lo' hi' mx').run P w = .ok v' w ∧ Rel E ra ι v v' := by
        intro a' hst hr ha'
        obtain ⟨b1, b2, b3, b4, hr⟩ := runs_boundsA hr
        obtain ⟨rfl, rfl, rfl⟩ := hr
        obtain ⟨k1, k2, k3⟩ := relS_slice hS b1 b2 b3 b4 hst
        have hb := run_bounds (P := P) (w := w) (isSlice := true) k1 k2 b3 b4 (relO e1 rlo nlo) (relO e2 rhi nhi) (relO e3 rmx nmx)
        refine ⟨rfl, _, run_slice_of hu hi0 hb, ?_⟩
        rw [ha']
        have e : (if orNat m0 cap' = orNat l0 0 then some y else (some y).map (·.add (orNat l0 0 * inf.size))) = some (if orNat m0 cap' = orNat l0 0 then y else y.add (orNat l0 0 * inf.size)) := by split <;> rfl
        rw [e]
        exact .slice k3 (by cases a <;> exact hNm)
      cases a with
      | own id off i st =>
        simp only at hr
        cases hst : Nat.beq st inf.size with
        | false => simp [hst, AM.Runs] at hr
        | true =>
          simp only [hst] at hr
          exact fin (fun l => .own id off (i + l) st) (Nat.eq_of_beq_eq_true hst) hr (fun _ => rfl)
      | ro tid par i c =>
        simp only at hr
        cases hst : Nat.beq (E tid par).st inf.size with
        | false => simp [hst, AM.Runs] at hr
        | true =>
          simp only [hst] at hr
          exact fin (fun l => .ro tid par (i + l) c) (Nat.eq_of_beq_eq_true hst) hr (fun _ => rfl)
  · -- an array
    rename_i l0 h0 m0 n e id off e1 e2 e3 hu
    cases hx with | ptr hA =>
    obtain ⟨b, o, sz, hι, rfl⟩ := hA
    cases hi0 : P.info? e with
    | none => simp [hi0, AM.Runs] at hr
    | some inf =>
      simp only [hi0, AM.Runs] at hr
      obtain ⟨B, r', hv, rfl, hr⟩ := hr
      have hB := H.own id B hv
      cases B with
      | map es => simp [AM.Runs] at hr
      | loop ts ps as bd s p => simp [AM.Runs] at hr
      | segs sg =>
        simp only at hr
        cases hfit : Nat.ble (off + n * inf.size) (total sg) with
        | false => simp [hfit, AM.Runs] at hr
        | true =>
          simp only [hfit] at hr
          have hfit' := Nat.le_of_ble_eq_true hfit
          obtain ⟨b1, b2, b3, b4, hr⟩ := runs_boundsA hr
          obtain ⟨rfl, rfl, rfl⟩ := hr
          obtain ⟨b', o', cs', el, fz, g1, g2, g3, g4, g5, _⟩ := hB
          rw [hι] at g1
          simp only [Option.some.injEq, Prod.mk.injEq] at g1
          obtain ⟨rfl, rfl, rfl⟩ := g1
          have hb := run_bounds (P := P) (w := w) (isSlice := false) b1 b2 b3 b4 (relO e1 rlo nlo) (relO e2 rhi nhi) (relO e3 rmx nmx)
          have km : orNat m0 n ≤ n := orNat_le b1 (Nat.le_refl _)
          have kh : orNat h0 n ≤ orNat m0 n := by
            cases h0 with
            | some v => have := (b2 v rfl).2; simp only [orNat] at this ⊢; omega
            | none => cases m0 with | none => exact Nat.le_refl _ | some m => exact absurd rfl (b4 (by simp))
          have kl : orNat l0 0 ≤ orNat h0 n := orNat_le b3 (Nat.zero_le _)
          refine ⟨rfl, .slice (some (if orNat m0 n = orNat l0 0 then ⟨b, o + off + 0 * 0, none⟩ else (⟨b, o + off + 0 * 0, none⟩ : Addr).add (orNat l0 0 * inf.size))) (orNat h0 n - orNat l0 0) (orNat m0 n - orNat l0 0), ?_, .slice ⟨by omega, fun c hc => by simpa using hc, ?_⟩ ⟨_, hι⟩⟩
          · simp [Instr.sliceAt, run_underlying hu, Instr.sureAddr, hb, run_sizeOf hi0]
          · by_cases hz : orNat m0 n - orNat l0 0 = 0
            · exact .inl hz
            · right
              refine ⟨b, o, _, hι, ?_, ?_⟩
              · rw [if_neg (by omega), addr_add]; simp
              · have : (orNat l0 0 + (orNat m0 n - orNat l0 0)) * inf.size ≤ n * inf.size := Nat.mul_le_mul_right _ (by omega)
                omega
  · simp [AM.Runs] at hr

end Go.Proofs.Ytohdkgdaccoohaa.Ab
