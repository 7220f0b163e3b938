/- Arithmetic, comparisons, slice expressions, aggregates: what they give, against the model's. -/
import Derived.Test.YtcgebafffkpmfaaE04
namespace Go.Proofs.Ytcgebafffkpmfaa.Ab

/-- the model's wrap, with its numbers written out -/
def wr : IntKind → Int → Int
  | .i8, n => (n + 128) % 256 - 128
  | .i16, n => (n + 32768) % 65536 - 32768
  | .i32, n => (n + 2147483648) % 4294967296 - 2147483648
  | .i64, n => (n + 9223372036854775808) % 18446744073709551616 - 9223372036854775808
  | .u8, n => n % 256
  | .u16, n => n % 65536
  | .u32, n => n % 4294967296
  | .u64, n => n % 18446744073709551616

theorem wr_signed (n M H : Int) (hM : M = 2 * H) (hH : 0 < H) : (if (true && decide (n % M ≥ H)) = true then n % M - M else n % M) = (n + H) % M - H := by
  have h1 := Int.emod_nonneg n (show M ≠ 0 by omega)
  have h2 := Int.emod_lt_of_pos n (show 0 < M by omega)
  have h3 : (n + H) % M = (n % M + H) % M := by rw [Int.emod_add_emod]
  rw [h3]
  generalize n % M = m at *
  simp only [Bool.true_and, decide_eq_true_eq]
  split
  · rename_i h
    have e : m + H = (m + H - M) + M * 1 := by omega
    rw [e, Int.add_mul_emod_self_left, Int.emod_eq_of_lt (by omega) (by omega)]; omega
  · rename_i h
    rw [Int.emod_eq_of_lt (by omega) (by omega)]; omega

theorem wr_eq (k : IntKind) (n : Int) : k.wrap n = wr k n := by
  cases k
  · exact wr_signed n 256 128 (by decide) (by decide)
  · exact wr_signed n 65536 32768 (by decide) (by decide)
  · exact wr_signed n 4294967296 2147483648 (by decide) (by decide)
  · exact wr_signed n 18446744073709551616 9223372036854775808 (by decide) (by decide)
  · rfl
  · rfl
  · rfl
  · rfl

variable {P : Program} {E : Nat → Nat → Seg} {ra : Nat → Nat → Nat × Nat} {base : Nat}

section
variable (P)
/-- are two values of a type one? -/
def eqA : Nat → TypeId → AVal → AVal → Option Bool
  | 0, _, _, _ => none
  | d + 1, t, x, y => match P.underlying t with
    | none => none
    | some td => match td, x, y with
      | .bool, .bool a, .bool b => some (a == b)
      | .int _, .int k a, .int k' b => match decide (k = k') with
        | true => some (a == b)
        | false => none
      | .string, .str a, .str b => some (a.toList == b.toList)
      | .pointer _, .nilp, .nilp => some true
      | .pointer _, .nilp, .ptr _ => some false
      | .pointer _, .ptr _, .nilp => some false
      | .interface _, .nili, .nili => some true
      | .interface _, .nili, .iface _ _ => some false
      | .interface _, .iface _ _, .nili => some false
      | .slice _, .nils, .nils => some true
      | .slice _, .nils, .slice _ _ _ => some false
      | .slice _, .slice _ _ _, .nils => some false
      | .struct fs, .agg xs, .agg ys => match P.stoodInHeld t with
        | true => none
        | false => fs.toList.foldr (fun f acc => match decide (f.name ≠ "_") with
          | false => acc
          | true => match partA P f.type xs f.offset, partA P f.type ys f.offset, acc with
            | some a, some b, some r => match eqA d f.type a b with
              | some e => some (e && r)
              | none => none
            | _, _, _ => none) (some true)
      | .array n e, .agg xs, .agg ys => match P.info? e with
        | none => none
        | some i => (List.range n).foldr (fun j acc => match partA P e xs (j * i.size), partA P e ys (j * i.size), acc with
            | some a, some b, some r => match eqA d e a b with
              | some e => some (e && r)
              | none => none
            | _, _, _ => none) (some true)
      | _, _, _ => none

def shA (op : BinOp) (k : IntKind) (x y : Int) : AM AVal :=
  match op with
  | .shl => .need (decide (0 ≤ y)) (.pure (.int k (wr k (x * 2 ^ (min y.toNat k.bits)))))
  | .shr => .need (decide (0 ≤ y)) (.pure (.int k (x.fdiv (2 ^ (min y.toNat k.bits)))))
  | _ => .fail

def bitsA (op : BinOp) (k : IntKind) (x y : Int) : AM AVal :=
  match op with
  | .and => .pure (.int k (wr k ((BitVec.ofInt k.bits x &&& BitVec.ofInt k.bits y).toNat)))
  | .or => .pure (.int k (wr k ((BitVec.ofInt k.bits x ||| BitVec.ofInt k.bits y).toNat)))
  | .xor => .pure (.int k (wr k ((BitVec.ofInt k.bits x ^^^ BitVec.ofInt k.bits y).toNat)))
  | .andNot => .pure (.int k (wr k ((BitVec.ofInt k.bits x &&& ~~~BitVec.ofInt k.bits y).toNat)))
  | _ => .fail

def intBinA (op : BinOp) (k : IntKind) (a b : Int) : AM AVal :=
  match op with
  | .add => .pure (.int k (wr k (a + b)))
  | .sub => .pure (.int k (wr k (a - b)))
  | .mul => .pure (.int k (wr k (a * b)))
  | .quo => .need (decide (b ≠ 0)) (.pure (.int k (wr k (a.tdiv b))))
  | .rem => .need (decide (b ≠ 0)) (.pure (.int k (a.tmod b)))
  | .lss => .pure (.bool (decide (a < b)))
  | .leq => .pure (.bool (decide (a ≤ b)))
  | .gtr => .pure (.bool (decide (a > b)))
  | .geq => .pure (.bool (decide (a ≥ b)))
  | .eql => .pure (.bool (a == b))
  | .neq => .pure (.bool (a != b))
  | op => bitsA op k a b

def isConst : Operand → Bool
  | .const _ => true
  | _ => false

/-- may two values be held against each other, as the model asks? -/
def guardA (t : TypeId) (x y : Operand) (a b : AVal) : Bool :=
  match a, b with
  | .nili, .nili => isConst x || isConst y
  | .agg _, .agg _ => !(P.eqGuardType P.depth t)
  | .undef, _ => false
  | _, .undef => false
  | _, _ => true

def binA (op : BinOp) (t : TypeId) (x y : Operand) (a b : AVal) : AM AVal :=
  match a, b with
  | .int k m, .int k' n => match op with
    | .shl => shA .shl k m n
    | .shr => shA .shr k m n
    | op => match decide (k = k') with
      | true => intBinA op k m n
      | false => .fail
  | .str s, .str s' => match op with
    | .add => .need (decide (s.size + s'.size ≤ 9223372036854775807)) (.pure (.str (s ++ s')))
    | .eql => .pure (.bool (s.toList == s'.toList))
    | .neq => .pure (.bool !(s.toList == s'.toList))
    | _ => .fail
  | a, b => match guardA P t x y a b with
    | false => .fail
    | true => match op with
      | .eql => match eqA P 100 t a b with
        | some r => .pure (.bool r)
        | none => .fail
      | .neq => match eqA P 100 t a b with
        | some r => .pure (.bool !r)
        | none => .fail
      | _ => .fail

def unA (op : UnOp) (x : AVal) : AM AVal :=
  match op, x with
  | .neg, .int k n => .pure (.int k (wr k (0 - n)))
  | .not, .bool b => .pure (.bool !b)
  | .xor, .int k n => bitsA .xor k (if k.signed then -1 else k.max) n
  | _, _ => .fail
end

theorem run_struct_fields {w : World} {d : Nat} {xs ys : List AVal} {us vs : List Value} {ι : Inj} (hx : RelL E ra ι xs us) (hy : RelL E ra ι ys vs)
    (ih : ∀ t x y r x' y', eqA P d t x y = some r → Rel E ra ι x x' → Rel E ra ι y y' → ∀ D, d ≤ D → (Op.equalIn D t x' y').run P w = .ok r w) : ∀ (fs : List Field) (r : Bool),
    fs.foldr (fun f acc => match decide (f.name ≠ "_") with
          | false => acc
          | true => match partA P f.type xs f.offset, partA P f.type ys f.offset, acc with
            | some a, some b, some r => match eqA P d f.type a b with
              | some e => some (e && r)
              | none => none
            | _, _, _ => none) (some true) = some r →
    ∀ D, d ≤ D → (Op.eqFields D us.toArray vs.toArray fs).run P w = .ok r w
  | [], r, h, D, _ => by simp at h; subst h; simp [Op.eqFields]
  | f :: fs, r, h, D, hD => by
    simp only [List.foldr_cons] at h
    cases hn : decide (f.name ≠ "_") with
    | false =>
      simp only [hn] at h
      have hn' : ¬ (f.name ≠ "_") := of_decide_eq_false hn
      simp only [Op.eqFields, if_neg hn']
      exact run_struct_fields hx hy ih fs r h D hD
    | true =>
      simp only [hn] at h
      have hn' : f.name ≠ "_" := of_decide_eq_true hn
      generalize hacc : List.foldr (fun f acc => match decide (f.name ≠ "_") with
          | false => acc
          | true => match partA P f.type xs f.offset, partA P f.type ys f.offset, acc with
            | some a, some b, some r => match eqA P d f.type a b with
              | some e => some (e && r)
              | none => none
            | _, _, _ => none) (some true) fs = acc at h
      cases ha : partA P f.type xs f.offset with
      | none => simp [ha] at h
      | some a =>
        cases hb : partA P f.type ys f.offset with
        | none => simp [ha, hb] at h
        | some b =>
          cases acc with
          | none => simp [ha, hb] at h
          | some r' =>
            simp only [ha, hb] at h
            cases he : eqA P d f.type a b with
            | none => simp [he] at h
            | some e =>
              simp only [he, Option.some.injEq] at h
              subst h
              obtain ⟨a', ha1, ha2⟩ := partA_sound (w := w) hx ha
              obtain ⟨b', hb1, hb2⟩ := partA_sound (w := w) hy hb
              have hrest := run_struct_fields hx hy ih fs r' hacc D hD
              simp only [Op.eqFields, if_pos hn', Sem.run_bind, ha1, hb1, Result.andThen_ok, ih _ _ _ _ _ _ he ha2 hb2 D hD]
              cases e <;> simp [hrest]

theorem run_array_elems {w : World} {d sz : Nat} {e : TypeId} {xs ys : List AVal} {us vs : List Value} {ι : Inj} (hx : RelL E ra ι xs us) (hy : RelL E ra ι ys vs)
    (ih : ∀ t x y r x' y', eqA P d t x y = some r → Rel E ra ι x x' → Rel E ra ι y y' → ∀ D, d ≤ D → (Op.equalIn D t x' y').run P w = .ok r w) {D : Nat} (hD : d ≤ D) : ∀ (js : List Nat) (r : Bool),
    js.foldr (fun j acc => match partA P e xs (j * sz), partA P e ys (j * sz), acc with
            | some a, some b, some r => match eqA P d e a b with
              | some e => some (e && r)
              | none => none
            | _, _, _ => none) (some true) = some r →
    ∃ z : Option Bool, (forIn (m := Sem) js ((none, ()) : Option Bool × Unit) (fun j _ => do
        let a ← part e us.toArray (j * sz)
        let b ← part e vs.toArray (j * sz)
        let q ← Op.equalIn D e a b
        if (!q) = true then pure (ForInStep.done (some false, ())) else pure (ForInStep.yield (none, ())))).run P w =   .ok (z, ()) w ∧ (match z with | some b => b | none => true) = r
  | [], r, h => by simp at h; subst h; exact ⟨none, by simp, rfl⟩
  | j :: js, r, h => by
    simp only [List.foldr_cons] at h
    generalize hacc : List.foldr (fun j acc => match partA P e xs (j * sz), partA P e ys (j * sz), acc with
            | some a, some b, some r => match eqA P d e a b with
              | some e => some (e && r)
              | none => none
            | _, _, _ => none) (some true) js = acc at h
    cases ha : partA P e xs (j * sz) with
    | none => simp [ha] at h
    | some a =>
      cases hb : partA P e ys (j * sz) with
      | none => simp [ha, hb] at h
      | some b =>
        cases acc with
        | none => simp [ha, hb] at h
        | some r' =>
          simp only [ha, hb] at h
          cases he : eqA P d e a b with
          | none => simp [he] at h
          | some q =>
            simp only [he, Option.some.injEq] at h
            subst h
            obtain ⟨a', ha1, ha2⟩ := partA_sound (w := w) hx ha
            obtain ⟨b', hb1, hb2⟩ := partA_sound (w := w) hy hb
            obtain ⟨z, hz1, hz2⟩ := run_array_elems hx hy ih hD js r' hacc
            cases q with
            | false => exact ⟨some false, by simp [ha1, hb1, ih _ _ _ _ _ _ he ha2 hb2 D hD], rfl⟩
            | true =>
              refine ⟨z, ?_, by simpa using hz2⟩
              simp only [List.forIn_cons, Sem.run_bind, ha1, hb1, Result.andThen_ok, ih _ _ _ _ _ _ he ha2 hb2 D hD, Bool.not_true, Bool.false_eq_true, if_false, Sem.run_pure]
              exact hz1

theorem eqA_sound {ι : Inj} {w : World} : ∀ (d : Nat) (t : TypeId) (x y : AVal) (r : Bool) (x' y' : Value), eqA P d t x y = some r → Rel E ra ι x x' → Rel E ra ι y y' → ∀ D, d ≤ D → (Op.equalIn D t x' y').run P w = .ok r w
  | 0, _, _, _, _, _, _, h, _, _, _, _ => by simp [eqA] at h
  | d + 1, t, x, y, r, x', y', h, hx, hy, 0, hD => by omega
  | d + 1, t, x, y, r, x', y', h, hx, hy, D + 1, hD => by
    have ih := eqA_sound (ι := ι) (w := w) d
    simp only [eqA] at h
    cases hu : P.underlying t with
    | none => simp [hu] at h
    | some td =>
      simp only [hu] at h
      split at h
      · cases hx; cases hy; simp only [Option.some.injEq] at h; subst h; simp [Op.equalIn, run_underlying hu]
      · rename_i k0 k a k' b
        cases hx; cases hy
        by_cases hk : k = k'
        · subst hk; simp only [decide_true, Option.some.injEq] at h; subst h; simp [Op.equalIn, run_underlying hu]
        · simp [hk] at h
      · cases hx; cases hy; simp only [Option.some.injEq] at h; subst h; simp [Op.equalIn, run_underlying hu, beq_toListBytes]
      · cases hx; cases hy; simp only [Option.some.injEq] at h; subst h; simp [Op.equalIn, run_underlying hu]
      · cases hx; cases hy; simp only [Option.some.injEq] at h; subst h; simp [Op.equalIn, run_underlying hu]
      · cases hx; cases hy; simp only [Option.some.injEq] at h; subst h; simp [Op.equalIn, run_underlying hu]
      · cases hx; cases hy; simp only [Option.some.injEq] at h; subst h; simp [Op.equalIn, run_underlying hu]
      · cases hx; cases hy; simp only [Option.some.injEq] at h; subst h; simp [Op.equalIn, run_underlying hu]
      · cases hx; cases hy; simp only [Option.some.injEq] at h; subst h; simp [Op.equalIn, run_underlying hu]
      · cases hx; cases hy; simp only [Option.some.injEq] at h; subst h; simp [Op.equalIn, run_underlying hu]
      · cases hx; cases hy; simp only [Option.some.injEq] at h; subst h; simp [Op.equalIn, run_underlying hu]
      · cases hx; cases hy; simp only [Option.some.injEq] at h; subst h; simp [Op.equalIn, run_underlying hu]
      · -- a struct
        rename_i fs xs ys
        cases hx with | agg hx =>
        cases hy with | agg hy =>
        cases hs : P.stoodInHeld t with
        | true => simp [hs] at h
        | false =>
          simp only [hs] at h
          have hf : P.fieldsOf t = fs := by simp [Program.fieldsOf, hu]
          rw [run_equalIn_struct w D t _ _ (by rw [hf]; exact hu) hs, hf]
          exact run_struct_fields hx hy ih fs.toList r h D (by omega)
      · -- an array
        rename_i n e xs ys
        cases hx with | agg hx =>
        cases hy with | agg hy =>
        cases hi : P.info? e with
        | none => simp [hi] at h
        | some inf =>
          simp only [hi] at h
          obtain ⟨z, hz1, hz2⟩ := run_array_elems (sz := inf.size) hx hy ih (D := D) (by omega) (List.range n) r h
          simp only [Op.equalIn, Sem.run_bind, run_underlying hu, Result.andThen_ok, run_sizeOf hi]
          rw [Std.Legacy.Range.forIn_eq_forIn_range']
          simp only [Std.Legacy.Range.size, Nat.sub_zero, Nat.add_sub_cancel, Nat.div_one, ← List.range_eq_range']
          rw [hz1]
          cases z with
          | none => simp only at hz2; subst hz2; simp
          | some b => simp only at hz2; subst hz2; simp
      · cases h

end Go.Proofs.Ytcgebafffkpmfaa.Ab
