/- From a run of the abstract evaluator to a law's row. -/
import Derived.Test.YtbfebjmmpiffpaaE18
import Derived.ProofKit
import Derived.Laws.Externs
namespace Go.Proofs.Ytbfebjmmpiffpaa.Ab
open Go.ChangeShapes Go.WideShapes Go.ChangeAt Go.RowKit

variable {P : Program} {E : Nat → Nat → Seg} {ra : Nat → Nat → Nat × Nat} {base : Nat} {S : Sums} {X : Exts} {R : Walk}

def add64A : List AVal → AM AVal
  | [.int .u64 x, .int .u64 y, .int .u64 c] => .need (decide (0 ≤ x) && decide (0 ≤ y) && decide (0 ≤ c) && decide (c ≤ 1)) (.pure (.tup [.int .u64 ((x + y + c) % 18446744073709551616), .int .u64 ((x + y + c) / 18446744073709551616)]))
  | _ => .fail

/-- One extern, and no other: the sum with a carry. -/
def extAdd (g : FuncId) : Exts := fun f => match Nat.beq f g with
  | true => some add64A
  | false => none

theorem extAdd_ok {g : FuncId} {fn : Func} (hf : P.funcs[g]? = some fn) (hname : (fn.name == "runtime.NumGoroutine") = false) (hb : fn.body.isNone = true) (hn : Extern.findNext fn = none) (he : Extern.find fn = some add64Entry) : ExtsOK P E ra (extAdd g) := by
  intro f x as h v d r hx hr
  unfold extAdd at hx
  cases hfg : Nat.beq f g with
  | false => simp [hfg] at hx
  | true =>
    have := Nat.eq_of_beq_eq_true hfg
    subst this
    simp only [hfg, Option.some.injEq] at hx
    subst hx
    unfold add64A at hr
    split at hr
    · rename_i a b c
      obtain ⟨hc, rfl, rfl, rfl⟩ := hr
      simp only [Bool.and_eq_true, decide_eq_true_eq] at hc
      refine ⟨rfl, fun ι w as' ha => ?_⟩
      obtain ⟨l⟩ := as'
      cases ha with | cons h1 ha =>
      cases ha with | cons h2 ha =>
      cases ha with | cons h3 ha =>
      cases ha; cases h1; cases h2; cases h3
      refine ⟨_, by rw [run_callFunc_extern hf hname hb hn he, run_add64 _ _ _ hc.1.1.1 hc.1.1.2 hc.1.2 hc.2]; rfl, ?_⟩
      exact .tup (.cons (.int _ _) (.cons (.int _ _) .nil))
    · exact hr.elim

theorem extNone_ok : ExtsOK P E ra (fun _ => none) := fun _ _ _ _ _ _ _ hx => by cases hx
theorem sumNone_ok : SumsOK P E ra base (fun _ => none) := fun _ _ hx => by cases hx

/-- No function that the program holds bears the one name that a call takes another road for. -/
def namesB (P : Program) : Bool := P.funcs.toList.all fun fn => !(fn.name == "runtime.NumGoroutine")

theorem names_ok (h : namesB P = true) : NamesOK P := by
  intro f fn hf
  have : fn ∈ P.funcs.toList := by
    rw [Array.mem_toList_iff]; exact Array.mem_of_getElem? hf
  have := List.all_eq_true.1 h fn this
  simpa using this

/-- Nothing is the heap's yet. -/
theorem WRel.start {w : World} (hE : ∀ tid par, 0 < (E tid par).n → (ra tid par).1 < w.heap.size) (hwf : ∀ tid par, (E tid par).WF)
    (hro : ∀ tid par j v, cellOf [E tid par] j = some v → ∃ c, w.cell? ⟨(ra tid par).1, (ra tid par).2 + j, none⟩ = some c ∧ Rel E ra (fun _ => none) v c) :
    WRel E ra w.heap.size (fun _ => none) [] w :=
  ⟨fun _ _ h => (by cases h), fun _ _ h => (by cases h), fun _ _ _ _ _ _ h => (by cases h), Nat.le_refl _, hE, hwf, hro⟩

def noSeg : Nat → Nat → Seg := fun _ _ => ⟨0, 0, []⟩
def noRa : Nat → Nat → Nat × Nat := fun _ _ => (0, 0)

theorem noSeg_cell (tid par j : Nat) : cellOf [noSeg tid par] j = none := by simp [cellOf, noSeg, Nat.ble]

theorem WRel.start0 (w : World) : WRel noSeg noRa w.heap.size (fun _ => none) [] w :=
  .start (fun _ _ h => absurd h (Nat.lt_irrefl 0)) (fun _ _ => ⟨rfl, fun _ h => (by cases h)⟩) (fun tid par j v h => by rw [noSeg_cell] at h; cases h)

/-- A call that the abstract evaluator sees return true. -/
theorem calls_true {f : FuncId} {as : List AVal} (hR : ExecOK P E ra base R) (hS : SumsOK P E ra base S) {w : World} {as' : Array Value} (H : WRel E ra base (fun _ => none) [] w) (ha : RelL E ra (fun _ => none) as as'.toList) {d : Log} {r : List Nat}
    (hr : (callB P E S R f as).Runs [] (.bool true) d r) : Calls P f as' w fun e w' => e = .returned (.bool true) ∧ RowKit.Below w.heap.size w w' := by
  refine (callsIn_wide (n := 0)).1 (CallsIn.mono ((callB_sound hR hS hr).2 _ w as' H ha) ?_)
  rintro e w' ⟨v', ι', rfl, h1, h2, h3⟩
  cases h1
  refine ⟨rfl, h3.os, h3.tape, h3.output, h3.size, fun k hk => h3.block k hk fun hl => ?_⟩
  obtain ⟨id, B, o, sz, h4, h5⟩ := hl
  cases h5

def s0 : St := ⟨[], 0, [], []⟩

def isTrue : Option (AVal × St) → Bool
  | some (.bool b, _) => b
  | _ => false

theorem runs_of_eval {m : AM AVal} (h : isTrue (m.eval s0) = true) : ∃ d r, m.Runs [] (.bool true) d r := by
  cases hm : m.eval s0 with
  | none => rw [hm] at h; cases h
  | some p =>
    obtain ⟨v, s'⟩ := p
    rw [hm] at h
    cases v <;> try (cases h; done)
    rename_i b
    simp only [isTrue] at h
    subst h
    obtain ⟨d, r, h1, _⟩ := eval_runs m s0 _ s' (fun i hi => by cases hi) hm
    exact ⟨d, r, h1⟩

theorem runs_of_wp {m : AM AVal} {Q : AVal → St → Prop} (h : m.wp s0 Q) (hQ : ∀ v s, Q v s → v = .bool true) : ∃ d r, m.Runs [] (.bool true) d r := by
  obtain ⟨v, s', d, r, h1, _, _, _, _, h2⟩ := wp_runs m s0 Q (fun i hi => by cases hi) h
  cases hQ v s' h2
  exact ⟨d, r, h1⟩

/-- A call without arguments, run to its end. -/
theorem known_calls {f n : Nat} (hX : ExtsOK P noSeg noRa X) (hN : NamesOK P) (hm : P.follows .mixedOrders = true) (h : isTrue ((callB P noSeg (fun _ => none) (exec P noSeg (fun _ => none) X n) f []).eval s0) = true) (w : World) :
    Calls P f #[] w fun e w' => e = .returned (.bool true) ∧ RowKit.Below w.heap.size w w' := by
  obtain ⟨d, r, hr⟩ := runs_of_eval h
  exact calls_true (exec_sound sumNone_ok hX hN hm n) sumNone_ok (WRel.start0 w) .nil hr

/-! ### The row -/

theorem trodAll_below {H : Type} {enc : TypeId × Value → H} {W W' : World} (hl : laidOutB P = true) (hb : RowKit.Below W.heap.size W W') : ∀ {ts : List TypeId} {vs : List Value} {ds : List (DataW H)} {ps : List MemPlace},
    (∀ t ∈ ts, P.readableRec t = true ∧ t < P.types.size) → DataW.TrodAll enc P W 0 (fun _ => true) true ts vs ds ps → (∀ x ∈ ps, x.block < W.heap.size) →
    DataW.TrodAll enc P W' 0 (fun b => decide (b < W.heap.size)) true ts vs ds ps
  | [], _, _, _, _, h, _ => by
    obtain ⟨rfl, rfl, rfl⟩ := trodAll_nil h
    exact trodAll_mk0
  | t :: ts, _, _, _, ht, h, hp => by
    obtain ⟨v, vs1, d, ds1, a, b, rfl, rfl, rfl, h1, h2⟩ := trodAll_cons h
    exact ⟨a, b, RowKit.Below.trod hl (ht t (by simp)).1 (ht t (by simp)).2 h1 hb (fun x hx => hp x (by simp [hx])), trodAll_below hl hb (fun t ht' => ht t (by simp [ht'])) h2 (fun x hx => hp x (by simp [hx])), rfl⟩

/-- It gives a bool alone; what it takes can be read. -/
def lawB (P : Program) (fn : Func) : Bool :=
  match fn.resultTypes.toList with
  | [tb] => (match P.underlying tb with
    | some .bool => true
    | _ => false) && fn.params.toList.all fun t => P.readableRec t && Nat.blt t P.types.size
  | _ => false

theorem lawB_spec {fn : Func} (h : lawB P fn = true) : ∃ tb, fn.resultTypes = #[tb] ∧ P.underlying tb = some .bool ∧ ∀ t ∈ fn.params.toList, P.readableRec t = true ∧ t < P.types.size := by
  unfold lawB at h
  split at h
  · rename_i tb e
    simp only [Bool.and_eq_true, List.all_eq_true] at h
    refine ⟨tb, by apply Array.ext'; simpa using e, ?_, fun t ht => ⟨(h.2 t ht).1, Nat.le_of_ble_eq_true (h.2 t ht).2⟩⟩
    revert h
    split
    · rename_i e'; intro _; exact e'
    · rintro ⟨h, _⟩; cases h
  · cases h

theorem post_true {H : Type} {enc : TypeId × Value → H} {fn : Func} {s : ChangeSpec} {W W' : World} {args : Array Value} {ds gs : List (DataW H)} {before : List MemPlace} (hl : laidOutB P = true)
    (hlaw : lawB P fn = true) (hv : s.vars = [])
    (hW : DataW.Whole enc P fn.params.toList s.vars false W args.toList ds gs before) (hs : s.fn H ds = { results := [.lit (.bool true)], args := ds }) (hb : RowKit.Below W.heap.size W W') :
    s.post enc P fn false true false false W args (.bool true) W' := by
  obtain ⟨tb, hrt, htb, hts⟩ := lawB_spec hlaw
  have hlt := hW.lt
  have hW' := hW
  obtain ⟨p, q, hA, hV, rfl, _, _⟩ := hW
  rw [hv] at hV
  obtain ⟨rfl, rfl⟩ := trodVars_none hV
  have hs' : s.fn H (ds ++ []) = { results := [.lit (.bool true)], args := ds } := by rw [List.append_nil]; exact hs
  refine ⟨ds, [], _, [], p, [], hW', ?_, ?_, ?_, hb.frame _, fun h => by cases h⟩
  · rw [hs', hrt]; exact trodAll_mk1 (shut_bool htb true)
  · rw [hs']; exact trodAll_below hl hb hts hA (fun x hx => hlt x (by simp [hx]))
  · rw [hs', hv]; rfl

end Go.Proofs.Ytbfebjmmpiffpaa.Ab
