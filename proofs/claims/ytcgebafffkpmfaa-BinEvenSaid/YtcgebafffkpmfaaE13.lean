/- One operation that calls no function, as a whole: against the model's 'execOp'. -/
import Derived.Test.YtcgebafffkpmfaaE12
import Derived.Still
namespace Go.Proofs.Ytcgebafffkpmfaa.Ab

variable {P : Program} {E : Nat → Nat → Seg} {ra : Nat → Nat → Nat × Nat} {base : Nat}

abbrev Tmps := List AVal

def evalA (ts : Tmps) : Operand → AVal
  | .tmp t => ts.getD t .undef
  | .const v => absV v
  | .global _ => .undef
  | .func f => .fn f []

def putA (ts : Tmps) (dst : Option Tmp) (v : AVal) : Tmps :=
  match dst with
  | some d => ts.set d v
  | none => ts

def pickA (c a b : AVal) : AM AVal :=
  match c with
  | .bool c => match a, b with
    | .bool x, .bool y => .pure (.bool (bif c then x else y))
    | a, b => .br c (.pure a) (.pure b)
  | _ => .fail

def nilA (x : AVal) : AM AVal :=
  match x with
  | .ptr a => .pure (.ptr a)
  | .fn f cs => .pure (.fn f cs)
  | .iface t v => .pure (.iface t v)
  | _ => .fail

def funcA (fn : Fn) (first : Array Operand) (cs : List AVal) : AM AVal :=
  match fn, first.toList with
  | .func f, [] => .pure (.fn f cs)
  | _, _ => .fail

section
variable (P E)
def ifaceA (t : TypeId) (x : AVal) : AM AVal :=
  match P.underlying t with
  | some (.interface _) => .fail
  | some _ => .pure (.iface t x)
  | none => .fail

def assertA (x : AVal) (t : TypeId) (ok : Bool) : AM AVal :=
  match P.underlying t with
  | some (.interface _) => .fail
  | some _ => match x, ok with
    | .iface u v, true => match Nat.beq u t with
      | true => .pure (.tup [v, .bool true])
      | false => match zeroA P t with
        | some z => .pure (.tup [z, .bool false])
        | none => .fail
    | .iface u v, false => match Nat.beq u t with
      | true => .pure v
      | false => .fail
    | .nili, true => match zeroA P t with
        | some z => .pure (.tup [z, .bool false])
        | none => .fail
    | _, _ => .fail
  | none => .fail

def builtinA (b : Builtin) (ts : Array TypeId) (args : List AVal) : AM AVal :=
  match b, args with
  | .len, [x] => liftO (lenA P ts x)
  | .cap, [x] => liftO (capA P ts x)
  | .min, x :: r => liftO (foldA minA x r)
  | .max, x :: r => liftO (foldA maxA x r)
  | .append, [s, x] => appendA P E ts s x
  | .copy, [d, x] => copyA P E ts d x
  | _, _ => .fail

def aop (o : Op) (ρ : Operand → AVal) : AM AVal :=
  match o with
  | .move x => .pure (ρ x)
  | .assign x => .pure (ρ x)
  | .pick c a b => pickA (ρ c) (ρ a) (ρ b)
  | .alloc t => allocA P t
  | .box t x => newVarA P t (ρ x)
  | .build t parts => liftO (buildA P t (parts.toList.map fun p => (p.1, ρ p.2)))
  | .buildSlice t len parts => buildSliceA P t len (parts.toList.map fun p => (p.1, ρ p.2))
  | .load t a => loadA P E t (ρ a)
  | .store t a x => storeA P t (ρ a) (ρ x)
  | .nilCheck x => nilA (ρ x)
  | .binOp op t x y _ => binA P op t x y (ρ x) (ρ y)
  | .unOp op _ x => unA op (ρ x)
  | .convert s d x => convA P s d (ρ x)
  | .makeInterface t x => ifaceA P t (ρ x)
  | .makeFunc fn first captured => funcA fn first (captured.toList.map ρ)
  | .makeSlice t l c => makeSliceA P t (ρ l) (ρ c)
  | .slice t x lo hi mx => sliceA P E t (ρ x) (lo.map ρ) (hi.map ρ) (mx.map ρ)
  | .fieldAddr s x f => fieldAddrA P s (ρ x) f
  | .field t x f => fieldA P t (ρ x) f
  | .indexAddr t x ix => indexAddrA P E t (ρ x) (ρ ix)
  | .index t x ix => indexA P t (ρ x) (ρ ix)
  | .extract t ix => extractA (ρ t) ix
  | .typeAssert x _ t ok => assertA P (ρ x) t ok
  | .call c => match c.callee with
    | .builtin b => builtinA P E b c.argTypes (c.args.toList.map ρ)
    | _ => .fail
  | _ => .fail
end

theorem map_congr' {α β : Type} {f g : α → β} {l : List α} (h : ∀ x ∈ l, f x = g x) : l.map f = l.map g := List.map_congr_left h

theorem aop_congr {o : Op} {ρ ρ' : Operand → AVal} (h : ∀ x ∈ o.operands, ρ x = ρ' x) : aop P E o ρ = aop P E o ρ' := by
  cases o <;> simp only [aop, Op.operands] at h ⊢ <;> try rfl
  case build t parts => congr 2; exact map_congr' fun p hp => by rw [h p.2 (by simp; exact ⟨p.1, by simpa using hp⟩)]
  case buildSlice t len parts => congr 1; exact map_congr' fun p hp => by rw [h p.2 (by simp; exact ⟨p.1, by simpa using hp⟩)]
  case makeFunc fn first captured => congr 1; exact map_congr' fun x hx => h x (by simp; exact .inr (by simpa using hx))
  case slice t x lo hi mx =>
    rw [h x (by simp)]
    have e1 : lo.map ρ = lo.map ρ' := by cases lo with | none => rfl | some y => simp [h y (by simp)]
    have e2 : hi.map ρ = hi.map ρ' := by cases hi with | none => rfl | some y => simp [h y (by simp)]
    have e3 : mx.map ρ = mx.map ρ' := by cases mx with | none => rfl | some y => simp [h y (by simp)]
    rw [e1, e2, e3]
  case call c =>
    split
    · congr 1; exact map_congr' fun x hx => h x (by rename_i b hb; simp [Call.operands, hb]; simpa using hx)
    · rfl
  all_goals (first
    | (rw [h _ (by simp)]; done)
    | (rw [h _ (by simp), h _ (by simp)]; done)
    | (rename_i c a b; rw [h c (by simp), h a (by simp), h b (by simp)])
    | (rename_i c a b; rw [h a (by simp), h b (by simp)])
    | (rename_i op t x y t2; rw [h x (by simp), h y (by simp)]))

/-- The operation's run, in the world. -/
def OpSound (P : Program) (E : Nat → Nat → Seg) (ra : Nat → Nat → Nat × Nat) (base : Nat) (ι : Inj) (h : Log) (w : World) (s : Sem Next) (v : AVal) (d : Log) : Prop :=
  ∃ w' ι', ((∃ v', s.run P w = .ok (.value v') w' ∧ Rel E ra ι' v v') ∨ (s.run P w = .ok .skip w' ∧ v = .undef)) ∧ WRel E ra base ι' (d ++ h) w' ∧ Keeps ι h w ι' (d ++ h) w'

theorem OpSound.of {ι : Inj} {h : Log} {w : World} {m : AM AVal} {s : Sem Value} (hs : SoundAt P E ra base ι h w m s) {v : AVal} {d : Log} {r : List Nat} (hr : m.Runs h v d r) :
    OpSound P E ra base ι h w (do pure (.value (← s))) v d := by
  obtain ⟨v', w', ι', h1, h2, h3, h4⟩ := hs v d r hr
  exact ⟨w', ι', .inl ⟨v', by simp [h1], h2⟩, h3, h4⟩

theorem SoundAt.lift {ι : Inj} {h : Log} {w : World} {o : Option AVal} {s : Sem Value} (H : WRel E ra base ι h w) (hs : ∀ v, o = some v → ∃ v', s.run P w = .ok v' w ∧ Rel E ra ι v v') : SoundAt P E ra base ι h w (liftO o) s :=
  .of_pure H fun v d r hr => by
    rw [runs_liftO] at hr
    obtain ⟨h1, rfl, rfl⟩ := hr
    exact ⟨rfl, hs v h1⟩

theorem relL_map {ι : Inj} {ρ : Operand → AVal} {ρ' : Operand → Value} (hρ : ∀ x, Rel E ra ι (ρ x) (ρ' x)) : ∀ l : List Operand, RelL E ra ι (l.map ρ) (l.map ρ')
  | [] => .nil
  | x :: l => .cons (hρ x) (relL_map hρ l)

theorem relL_parts {ι : Inj} {ρ : Operand → AVal} {ρ' : Operand → Value} (hρ : ∀ x, Rel E ra ι (ρ x) (ρ' x)) : ∀ l : List (Nat × Operand), RelL E ra ι ((l.map fun p => (p.1, ρ p.2)).map (·.2)) ((l.map fun p => (p.1, ρ' p.2)).map (·.2))
  | [] => .nil
  | x :: l => .cons (hρ x.2) (relL_parts hρ l)

theorem pickA_sound {ι : Inj} {h : Log} {w : World} (H : WRel E ra base ι h w) {c a b : AVal} {c' a' b' : Value} (hc : Rel E ra ι c c') (ha : Rel E ra ι a a') (hb : Rel E ra ι b b') :
    SoundAt P E ra base ι h w (pickA c a b) (do pure (if ← asBool c' then a' else b')) := by
  refine .of_pure H fun v d r hr => ?_
  unfold pickA at hr
  split at hr
  · rename_i q
    cases hc
    split at hr
    · cases ha; cases hb
      simp only [AM.Runs] at hr
      obtain ⟨rfl, rfl, rfl⟩ := hr
      refine ⟨rfl, _, by simp [asBool]; rfl, ?_⟩
      cases q <;> exact .bool _
    · simp only [AM.Runs] at hr
      cases q <;> (obtain ⟨rfl, rfl, rfl⟩ := hr; exact ⟨rfl, _, by simp [asBool]; rfl, by assumption⟩)
  · simp [AM.Runs] at hr

theorem assertA_sound {ι : Inj} {h : Log} {w : World} (H : WRel E ra base ι h w) {x : AVal} {x' : Value} (hx : Rel E ra ι x x') {xt t : TypeId} {ok : Bool} :
    SoundAt P E ra base ι h w (assertA P x t ok) (Instr.typeAssert x' xt t ok) := by
  refine .of_pure H fun v d r hr => ?_
  unfold assertA at hr
  split at hr
  · simp [AM.Runs] at hr
  · rename_i td hni hu
    split at hr
    · rename_i u y
      cases hx with | iface hy =>
      rename_i y'
      cases hb : Nat.beq u t with
      | true =>
        have := Nat.eq_of_beq_eq_true hb
        subst this
        simp only [hb, AM.Runs] at hr
        obtain ⟨rfl, rfl, rfl⟩ := hr
        refine ⟨rfl, .tuple #[y', .bool true], ?_, by simpa using Rel.tup (.cons hy (.cons (.bool true) .nil))⟩
        simp [Instr.typeAssert, run_underlying hu]
      | false =>
        have hne : u ≠ t := fun e => by subst e; simp at hb
        simp only [hb] at hr
        cases hz : zeroA P t with
        | none => simp [hz, AM.Runs] at hr
        | some z =>
          obtain ⟨z', i, _, _, hzr, hzR⟩ := zeroA_sound (E := E) (ra := ra) (ι := ι) (w := w) hz
          simp only [hz, AM.Runs] at hr
          obtain ⟨rfl, rfl, rfl⟩ := hr
          refine ⟨rfl, .tuple #[z', .bool false], ?_, by simpa using Rel.tup (.cons hzR (.cons (.bool false) .nil))⟩
          simp [Instr.typeAssert, run_underlying hu, hne, hzr]
    · rename_i u y
      cases hx with | iface hy =>
      rename_i y'
      cases hb : Nat.beq u t with
      | true =>
        have := Nat.eq_of_beq_eq_true hb
        subst this
        simp only [hb, AM.Runs] at hr
        obtain ⟨rfl, rfl, rfl⟩ := hr
        exact ⟨rfl, y', by simp [Instr.typeAssert, run_underlying hu], hy⟩
      | false => simp [hb, AM.Runs] at hr
    · cases hx
      cases hz : zeroA P t with
      | none => simp [hz, AM.Runs] at hr
      | some z =>
        obtain ⟨z', i, _, _, hzr, hzR⟩ := zeroA_sound (E := E) (ra := ra) (ι := ι) (w := w) hz
        simp only [hz, AM.Runs] at hr
        obtain ⟨rfl, rfl, rfl⟩ := hr
        refine ⟨rfl, .tuple #[z', .bool false], ?_, by simpa using Rel.tup (.cons hzR (.cons (.bool false) .nil))⟩
        simp [Instr.typeAssert, run_underlying hu, hzr]
    · simp [AM.Runs] at hr
  · simp [AM.Runs] at hr

theorem builtinA_sound {ι : Inj} {h : Log} {w : World} (H : WRel E ra base ι h w) {b : Builtin} {ts : Array TypeId} {ty : TypeId} {cs : Array Bool} {args : List AVal} {args' : List Value} (ha : RelL E ra ι args args') {v : AVal} {d : Log} {r : List Nat}
    (hr : (builtinA P E b ts args).Runs h v d r) : OpSound P E ra base ι h w (builtin b ts ty cs args'.toArray) v d := by
  cases b <;> (try (exact (hr : False).elim))
  case append =>
    cases ha with
    | nil => exact (hr : False).elim
    | cons hx ht => cases ht with
      | nil => exact (hr : False).elim
      | cons hy ht => cases ht with
        | cons _ _ => exact (hr : False).elim
        | nil => exact .of (appendA_sound H hx hy) hr
  case cap =>
    cases ha with
    | nil => exact (hr : False).elim
    | cons hx ht => cases ht with
      | cons _ _ => exact (hr : False).elim
      | nil => exact .of (SoundAt.lift H fun u hu => capA_sound hx hu) hr
  case copy =>
    cases ha with
    | nil => exact (hr : False).elim
    | cons hx ht => cases ht with
      | nil => exact (hr : False).elim
      | cons hy ht => cases ht with
        | cons _ _ => exact (hr : False).elim
        | nil => exact .of (copyA_sound H hx hy) hr
  case len =>
    cases ha with
    | nil => exact (hr : False).elim
    | cons hx ht => cases ht with
      | cons _ _ => exact (hr : False).elim
      | nil => exact .of (SoundAt.lift H fun u hu => lenA_sound hx hu) hr
  case min =>
    cases ha with
    | nil => exact (hr : False).elim
    | cons hx ht =>
      refine .of (s := Builtin.min_ ts ty _) (SoundAt.lift H fun u hu => ?_) hr
      obtain ⟨v', h1, h2⟩ := foldA_sound (P := P) (w := w) (f := minA) (g := Builtin.min2) (fun a b v a' b' ha hb hf => minA_sound ha hb hf) _ _ _ _ _ hx ht hu
      exact ⟨v', by simpa [Builtin.min_] using h1, h2⟩
  case max =>
    cases ha with
    | nil => exact (hr : False).elim
    | cons hx ht =>
      refine .of (s := Builtin.max_ ts ty _) (SoundAt.lift H fun u hu => ?_) hr
      obtain ⟨v', h1, h2⟩ := foldA_sound (P := P) (w := w) (f := maxA) (g := Builtin.max2) (fun a b v a' b' ha hb hf => maxA_sound ha hb hf) _ _ _ _ _ hx ht hu
      exact ⟨v', by simpa [Builtin.max_] using h1, h2⟩

theorem parts_eq {ρ' : Operand → Value} (parts : Array (Nat × Operand)) : (parts.map fun (p : Nat × Operand) => match p with | (i, x) => (i, ρ' x)) = parts.map fun p => (p.1, ρ' p.2) := rfl

theorem opBuild {ι : Inj} {h : Log} {w : World} (H : WRel E ra base ι h w) {ρ : Operand → AVal} {ρ' : Operand → Value} (hρ : ∀ x, Rel E ra ι (ρ x) (ρ' x)) (t : TypeId) (parts : Array (Nat × Operand)) :
    SoundAt P E ra base ι h w (liftO (buildA P t (parts.toList.map fun p => (p.1, ρ p.2)))) (Instr.build t (parts.map fun p => (p.1, ρ' p.2))) := by
  refine SoundAt.lift H fun u hu => ?_
  have e : (parts.map fun p => (p.1, ρ' p.2)).toList = parts.toList.map fun p => (p.1, ρ' p.2) := by simp
  refine buildA_sound ?_ ?_ hu
  · rw [e]; simp
  · rw [e]; exact relL_parts hρ parts.toList

theorem opBuildSlice {ι : Inj} {h : Log} {w : World} (H : WRel E ra base ι h w) {ρ : Operand → AVal} {ρ' : Operand → Value} (hρ : ∀ x, Rel E ra ι (ρ x) (ρ' x)) (t : TypeId) (n : Nat) (parts : Array (Nat × Operand)) :
    SoundAt P E ra base ι h w (buildSliceA P t n (parts.toList.map fun p => (p.1, ρ p.2))) (Instr.buildSlice t n (parts.map fun p => (p.1, ρ' p.2))) := by
  have e : (parts.map fun p => (p.1, ρ' p.2)).toList = parts.toList.map fun p => (p.1, ρ' p.2) := by simp
  refine buildSliceA_sound H ?_ ?_
  · rw [e]; simp
  · rw [e]; exact relL_parts hρ parts.toList

theorem aop_sound {ι : Inj} {h : Log} {w : World} (H : WRel E ra base ι h w) {ρ : Operand → AVal} {ρ' : Operand → Value} (hρ : ∀ x, Rel E ra ι (ρ x) (ρ' x)) {o : Oper} {v : AVal} {d : Log} {r : List Nat}
    (hr : (aop P E o.op ρ).Runs h v d r) : OpSound P E ra base ι h w (execOp ρ' o) v d := by
  unfold execOp
  cases ho : o.op <;> simp only [ho, aop] at hr ⊢ <;> try (simp [AM.Runs] at hr; done)
  case move x => obtain ⟨rfl, rfl, rfl⟩ := hr; exact ⟨w, ι, .inl ⟨_, rfl, hρ x⟩, H, .refl _ _ _⟩
  case assign x => obtain ⟨rfl, rfl, rfl⟩ := hr; exact ⟨w, ι, .inl ⟨_, rfl, hρ x⟩, H, .refl _ _ _⟩
  case pick c a b =>
    obtain ⟨v', w', ι', h1, h2⟩ := pickA_sound (P := P) H (hρ c) (hρ a) (hρ b) v d r hr
    refine ⟨w', ι', .inl ⟨v', ?_, h2.1⟩, h2.2⟩
    simp only [Sem.run_bind] at h1 ⊢
    revert h1
    cases Sem.run P (asBool (ρ' c)) w with
    | ok q w1 => intro h1; simp only [Result.andThen_ok, Sem.run_pure, Result.ok.injEq] at h1 ⊢; simp [h1]
    | halt x w1 => intro h1; simp [Result.andThen] at h1
  case alloc t => exact .of (allocA_sound H) hr
  case box t x => exact .of (boxA_sound H (hρ x)) hr
  case build t parts => exact OpSound.of (opBuild H hρ t parts) hr
  case buildSlice t len parts => exact OpSound.of (opBuildSlice H hρ t len parts) hr
  case load t a => exact .of (loadA_sound H (hρ a)) hr
  case store t a x =>
    obtain ⟨rfl, w', h1, h2, h3⟩ := storeA_sound H (hρ a) (hρ x) hr
    exact ⟨w', ι, .inr ⟨by simp [h1], rfl⟩, h2, h3⟩
  case nilCheck x =>
    unfold nilA at hr
    have hx := hρ x
    split at hr
    · rename_i a e
      rw [e] at hx
      obtain ⟨rfl, rfl, rfl⟩ := hr
      generalize ρ' x = y at hx
      cases hx with | ptr hA => exact ⟨w, ι, .inl ⟨_, rfl, .ptr hA⟩, H, .refl _ _ _⟩
    · rename_i f cs e
      rw [e] at hx
      obtain ⟨rfl, rfl, rfl⟩ := hr
      generalize ρ' x = y at hx
      cases hx with | fn hL => exact ⟨w, ι, .inl ⟨_, rfl, .fn hL⟩, H, .refl _ _ _⟩
    · rename_i t u e
      rw [e] at hx
      obtain ⟨rfl, rfl, rfl⟩ := hr
      generalize ρ' x = y at hx
      cases hx with | iface hI => exact ⟨w, ι, .inl ⟨_, rfl, .iface hI⟩, H, .refl _ _ _⟩
    · simp [AM.Runs] at hr
  case binOp op t x y t2 => exact .of (binA_sound H (hρ x) (hρ y)) hr
  case unOp op t x => exact .of (unA_sound H (hρ x)) hr
  case convert s dd x => exact .of (convA_sound H (hρ x)) hr
  case makeInterface t x =>
    refine .of (s := Instr.makeInterface t (ρ' x)) (.of_pure H fun u d r hr => ?_) hr
    unfold ifaceA at hr
    split at hr
    · simp [AM.Runs] at hr
    · rename_i td hni hu
      obtain ⟨rfl, rfl, rfl⟩ := hr
      refine ⟨rfl, .iface t (ρ' x), ?_, .iface (hρ x)⟩
      simp only [Instr.makeInterface, Sem.run_bind, run_underlying hu, Result.andThen_ok]
      cases td <;> first | rfl | exact absurd hu (by simpa using hni _)
    · simp [AM.Runs] at hr
  case makeFunc fn first captured =>
    refine .of (s := Instr.makeFunc fn (first.map ρ') (captured.map ρ')) (.of_pure H fun u d r hr => ?_) hr
    unfold funcA at hr
    split at hr
    · rename_i f e _
      obtain ⟨rfl, rfl, rfl⟩ := hr
      have hf : first = #[] := by
        obtain ⟨l⟩ := first
        cases e; rfl
      subst hf
      refine ⟨rfl, _, rfl, ?_⟩
      have := Rel.fn (E := E) (ra := ra) (ι := ι) (f := f) (relL_map hρ captured.toList)
      have e : (captured.map ρ') = (captured.toList.map ρ').toArray := by apply Array.ext'; simp
      rw [e]; simpa using this
    · simp [AM.Runs] at hr
  case makeSlice t l c => exact .of (makeSliceA_sound H (hρ l) (hρ c)) hr
  case slice t x lo hi mx =>
    exact .of (sliceA_sound H (hρ x) (fun v hv => by cases lo with | none => simp at hv | some y => simp only [Option.map_some, Option.some.injEq] at hv; subst hv; exact ⟨_, rfl, hρ y⟩) (fun hn => by cases lo <;> simp_all)
      (fun v hv => by cases hi with | none => simp at hv | some y => simp only [Option.map_some, Option.some.injEq] at hv; subst hv; exact ⟨_, rfl, hρ y⟩) (fun hn => by cases hi <;> simp_all)
      (fun v hv => by cases mx with | none => simp at hv | some y => simp only [Option.map_some, Option.some.injEq] at hv; subst hv; exact ⟨_, rfl, hρ y⟩) (fun hn => by cases mx <;> simp_all)) hr
  case fieldAddr s x f => exact .of (fieldAddrA_sound H (hρ x)) hr
  case field t x f => exact .of (fieldA_sound H (hρ x)) hr
  case indexAddr t x ix => exact .of (indexAddrA_sound H (hρ x) (hρ ix)) hr
  case index t x ix => exact .of (indexA_sound H (hρ x) (hρ ix)) hr
  case extract t ix => exact .of (extractA_sound H (hρ t)) hr
  case typeAssert x xt t ok => exact .of (assertA_sound H (hρ x)) hr
  case call c =>
    split at hr
    · rename_i b hb
      have := builtinA_sound (P := P) (ty := o.type) (cs := c.args.map fun | .const _ => true | _ => false) H (relL_map hρ c.args.toList) hr
      obtain ⟨w', ι', h1, h2⟩ := this
      refine ⟨w', ι', ?_, h2⟩
      have e : (c.args.map ρ') = (c.args.toList.map ρ').toArray := by apply Array.ext'; simp
      simp only [resolve, hb, Sem.run_bind, Sem.run_pure, Result.andThen_ok, invoke, e]
      exact h1
    · simp [AM.Runs] at hr

end Go.Proofs.Ytcgebafffkpmfaa.Ab
