/- oper: what the laws take. -/
import Derived.Test.YtbfebjmmpiffpaaP04h
import Derived.Test.YtbfebjmmpiffpaaD04e
import Derived.Test.YtbfebjmmpiffpaaT04o
set_option linter.unusedSimpArgs false
set_option linter.unusedVariables false
namespace Go.Proofs.Ytbfebjmmpiffpaa
open Ab

theorem tabT_plain (T : Tb) : Plain (tabT T) := by
  intro tid par j v hv
  obtain ⟨_, s, hs, rfl⟩ := cellOf_seg hv
  simp only [tabT, Ds.seg] at hs
  have : j % 5 < 5 := Nat.mod_lt _ (by decide)
  generalize j % 5 = q at hs this
  have h : q = 0 ∨ q = 1 ∨ q = 2 ∨ q = 3 ∨ q = 4 := by omega
  rcases h with e | e | e | e | e <;> rw [e] at hs <;> simp at hs <;> subst hs <;> rfl

section
variable {E : Nat → Nat → Seg} {ra : Nat → Nat → Nat × Nat} {base : Nat} {T : Tb}

/-! ### Drafts -/

def fullO (q : List Op4) : Bool := !q.isEmpty
theorem fullO_nil {q : List Op4} (h : fullO q = false) : q = [] := by
  cases q with
  | nil => rfl
  | cons => cases h
theorem kk_len (q : List Op4) : (Os.of q).kk.length = q.length := List.length_map _
def firstO (D : Ds) (i : Nat) : List Op4 := (List.range i).map fun i => drO (drAt D (i : Nat))
theorem firstO_len (D : Ds) (i : Nat) : (firstO D i).length = i := by simp [firstO]
theorem firstO_succ (D : Ds) (i : Nat) : firstO D (i + 1) = firstO D i ++ [drO (drAt D (i : Nat))] := by simp [firstO, List.range_succ]
def ozT (t n : Nat) (q : List Op4) (i : Nat) : Tmps := mkT 24 (Oz.at ⟨t, true, n⟩ (osV (fullO q) (Os.of q).kk.length) (i : Nat))
def ozH (q : List Op4) : Log := hp 0 (osB (fullO q) (Os.of q))
theorem tkO {α : Type} (F : Op4 → α) (p : List Op4) : List.take p.length (List.drop 0 (p.map F)) = p.map F := by
  rw [List.drop_zero]; exact List.take_of_length_le (by simp)

theorem SZ_ok (hE : Plain E) : SumsOK Try.prog E ra base SZ := sumG_deal hE sumNone_ok ⟨_, Try.func8, by kernel_rfl⟩ fun x _ => drafted_g hE x

theorem oz_step {t n i : Nat} (hn : n = (tabOf T t).w.length) (hi : i ≤ min n 6) : Takes Try.prog (tabT T) ra base 0 (codeOf 14 (false :: pO)) (ozT t n (firstO (tabOf T t) i) i) (ozH (firstO (tabOf T t) i)) fun y =>
    (i < min n 6 ∧ y = (.normal, ozT t n (firstO (tabOf T t) (i + 1)) (i + 1), ozH (firstO (tabOf T t) (i + 1)))) ∨ (i = min n 6 ∧ y = (.exit 0, mkT 24 [(3, osV (fullO (firstO (tabOf T t) i)) (firstO (tabOf T t) i).length)], ozH (firstO (tabOf T t) i))) := by
  have hE := tabT_plain T
  have hS := SZ_ok (ra := ra) (base := base) hE
  have hsucc := firstO_succ (tabOf T t) i
  have hlen := firstO_len (tabOf T t) i
  have hdr : (⟨List.getD (tabOf T t).w (0 + Int.toNat (i : Int)) 0, List.getD (tabOf T t).a (0 + Int.toNat (i : Int)) 0, List.getD (tabOf T t).b (0 + Int.toNat (i : Int)) 0, List.getD (tabOf T t).g (0 + Int.toNat (i : Int)) 0, List.getD (tabOf T t).o (0 + Int.toNat (i : Int)) false⟩ : Dr) = drAt (tabOf T t) i := by simp [drAt]
  have c2 : decide (0 ≤ (i : Int)) = true := decide_eq_true (by omega)
  have ht : wr .i64 ((i : Int) + 1) = ((i + 1 : Nat) : Int) := till (by omega)
  obtain ⟨x, hx⟩ : ∃ x, drO (drAt (tabOf T t) i) = x := ⟨_, rfl⟩
  rw [hx] at hsucc
  generalize firstO (tabOf T t) i = q at hsucc hlen ⊢
  rw [hsucc]
  have mainN : i < min n 6 → ozT t n (q ++ [x]) (i + 1) = mkT 24 [(0, .slice (.ro t 0 0 0) n none), (3, .slice (.own 0 0 0 4) (q.length + 1) none), (4, .int .i64 ((i + 1 : Nat) : Int))] := fun _ => by
    have : fullO (q ++ [x]) = true := by cases q <;> rfl
    simp only [ozT, Oz.at, this, osV, kk_len, List.length_append]; rfl
  have mainH : ozH (q ++ [x]) = hp 0 [.segs [⟨q.length + 1, 4, [.int .i64 (q.map Op4.k ++ [x.k]), .int .i64 (q.map Op4.a ++ [x.a]), .int .i64 (q.map Op4.b ++ [x.b]), .int .i64 (q.map Op4.g ++ [x.g])]⟩]] := by
    have : fullO (q ++ [x]) = true := by cases q <;> rfl
    simp only [ozH, this, osB, Os.blk, Os.of, List.length_map, List.length_append, List.map_append]; rfl
  cases hf : fullO q with
  | true =>
    have hT : ozT t n q i = mkT 24 (Oz.at ⟨t, true, n⟩ (.slice (.own 0 0 0 4) (Os.of q).kk.length none) (i : Nat)) := by rw [ozT, hf]; rfl
    have hH : ozH q = hp 0 [(Os.of q).blk] := by rw [ozH, hf]; rfl
    rw [hT, hH]
    refine takes_of_tree hE (wE hE hS) (f := 14) (.inr (by kernel_rfl)) (hp_below _) (oz_S T t n (Os.of q) (i : Nat)) ?_
    have c8 : decide (0 + q.length ≤ q.length) = true := decide_eq_true (by omega)
    have k1 : List.take q.length (List.drop 0 (Os.of q).kk) = q.map Op4.k := tkO _ _
    have k2 : List.take q.length (List.drop 0 (Os.of q).aa) = q.map Op4.a := tkO _ _
    have k3 : List.take q.length (List.drop 0 (Os.of q).bb) = q.map Op4.b := tkO _ _
    have k4 : List.take q.length (List.drop 0 (Os.of q).gg) = q.map Op4.g := tkO _ _
    rcases Nat.lt_or_ge i (min n 6) with h | h
    · have c1 : decide ((i : Int) < (n : Int)) = true := decide_eq_true (by omega)
      have c3 : decide ((i : Int) < 6) = true := decide_eq_true (by omega)
      have c4 : decide (0 + Int.toNat (i : Int) < (tabOf T t).w.length) = true := decide_eq_true (by omega)
      have c9 : decide ((q.length + 1) * 32 ≤ 35184372088832) = true := room (by omega)
      simp only [hdr, hx]
      simp only [kk_len, k1, k2, k3, k4, c1, c2, c3, c4, c8, c9, ht, Tree.holds, decide_true, Bool.and_self, Bool.and_true, Bool.true_and, true_and, and_true, Bool.true_eq_false, false_implies, forall_const]
      rw [mainN h, mainH]
      exact .inl ⟨h, rfl⟩
    · have hl : (Os.of q).blk = .segs [⟨q.length, 4, [.int .i64 (Os.of q).kk, .int .i64 (Os.of q).aa, .int .i64 (Os.of q).bb, .int .i64 (Os.of q).gg]⟩] := by rw [Os.blk, kk_len]
      have fin : ∀ z : State, z = (.exit 0, mkT 24 [(3, .slice (.own 0 0 0 4) q.length none)], hp 0 [(Os.of q).blk]) → (i < min n 6 ∧ z = (.normal, ozT t n (q ++ [x]) (i + 1), ozH (q ++ [x]))) ∨ (i = min n 6 ∧ z = (.exit 0, mkT 24 [(3, osV true q.length)], hp 0 [(Os.of q).blk])) := fun z hz => .inr ⟨by omega, hz⟩
      rcases Nat.lt_or_ge i n with h' | h'
      · have c1 : decide ((i : Int) < (n : Int)) = true := decide_eq_true (by omega)
        have c3 : decide ((i : Int) < 6) = false := decide_eq_false (by omega)
        simp only [Tree.holds, c1, c3, Bool.false_eq_true, Bool.true_eq_false, false_implies, true_and, and_true, forall_const]
        exact fin _ (by rw [hl, kk_len]; rfl)
      · have c1 : decide ((i : Int) < (n : Int)) = false := decide_eq_false (by omega)
        simp only [Tree.holds, c1, Bool.false_eq_true, false_implies, true_and, forall_const]
        exact fin _ (by rw [hl, kk_len]; rfl)
  | false =>
    obtain rfl := fullO_nil hf
    refine takes_of_tree hE (wE hE hS) (f := 14) (.inr (by kernel_rfl)) (hp_below _) (oz_N T t n (i : Nat)) ?_
    rcases Nat.lt_or_ge i (min n 6) with h | h
    · have c1 : decide ((i : Int) < (n : Int)) = true := decide_eq_true (by omega)
      have c3 : decide ((i : Int) < 6) = true := decide_eq_true (by omega)
      have c4 : decide (0 + Int.toNat (i : Int) < (tabOf T t).w.length) = true := decide_eq_true (by omega)
      simp only [hdr, hx]
      simp only [c1, c2, c3, c4, ht, Tree.holds, decide_true, Bool.and_self, Bool.and_true, Bool.true_and, true_and, and_true, Bool.true_eq_false, false_implies, forall_const]
      rw [mainN h, mainH]
      exact .inl ⟨h, rfl⟩
    · rcases Nat.lt_or_ge i n with h' | h'
      · have c1 : decide ((i : Int) < (n : Int)) = true := decide_eq_true (by omega)
        have c3 : decide ((i : Int) < 6) = false := decide_eq_false (by omega)
        simp only [Tree.holds, c1, c3, Bool.false_eq_true, Bool.true_eq_false, false_implies, true_and, and_true, forall_const]
        exact .inr ⟨by omega, rfl⟩
      · have c1 : decide ((i : Int) < (n : Int)) = false := decide_eq_false (by omega)
        simp only [Tree.holds, c1, Bool.false_eq_true, false_implies, true_and, forall_const]
        exact .inr ⟨by omega, rfl⟩

theorem opsL_first (D : Ds) : opsL D = firstO D (min D.w.length 6) := rfl
theorem oz_takes (x : Oz) (hx : (ozL T).pre x = true) : Takes Try.prog (tabT T) ra base 0 (.loop (codeOf 14 (false :: pO))) (mkT 24 ((ozL T).ins x)) (hp 0 ((ozL T).blks x)) fun w => PostL 24 x w (ozL T).alts := by
  obtain ⟨t, full, n⟩ := x
  simp only [ozL, Bool.and_eq_true] at hx
  obtain ⟨rfl, h2⟩ := hx
  have hn : n = (tabOf T t).w.length := of_decide_eq_true h2
  refine takes_loop (fun j ts h => ∃ i : Nat, i ≤ min n 6 ∧ j = min n 6 - i + 1 ∧ ts = ozT t n (firstO (tabOf T t) i) i ∧ h = ozH (firstO (tabOf T t) i)) (fun ts h => by rintro ⟨_, _, h, _⟩; omega) (fun j ts h' => ?_) (j := min n 6 + 1) ⟨0, Nat.zero_le _, rfl, rfl, rfl⟩
  rintro ⟨i, k1, k2, rfl, rfl⟩
  refine (oz_step hn k1).mono ?_
  rintro w (⟨g, rfl⟩ | ⟨g, rfl⟩)
  · exact ⟨i + 1, by omega, by omega, rfl, rfl⟩
  · subst g
    have hf : firstO (tabOf T t) (min n 6) = opsL (tabOf T t) := by rw [hn]; rfl
    rw [hf]
    have hl : (opsL (tabOf T t)).length = min n 6 := by rw [← hf, firstO_len]
    rcases Nat.eq_zero_or_pos n with h0 | h0
    · refine .inl ⟨(), by show decide ((tabOf T t).w.length = 0) = true; exact decide_eq_true (by omega), ?_⟩
      have hnil : opsL (tabOf T t) = [] := List.length_eq_zero_iff.1 (by omega)
      rw [hnil]; rfl
    · refine .inr ⟨(), by show decide ((tabOf T t).w.length = 0) = false; exact decide_eq_false (by omega), ?_⟩
      have hfull : fullO (opsL (tabOf T t)) = true := by
        cases hh : fullO (opsL (tabOf T t)) with
        | true => rfl
        | false => rw [fullO_nil hh, List.length_nil] at hl; omega
      simp only [ozH, hfull, osV, osB]

theorem TZ_ok (T : Tb) : ToldsOK Try.prog (tabT T) ra base 0 (TZ T) := sumT_ok noT_ok rfl (toldR_ok (c := .loop (codeOf 14 (false :: pO))) (by kernel_rfl) oz_takes)

theorem oz_g (x : Oz) (hx : okOz T x = true) : Gives Try.prog (tabT T) ra base 0 14 [x.V] (hp 0 []) fun v h' => (ozB T x = true → v = .nils ∧ h' = hp 0 []) ∧ (ozB T x = false → v = (ozSome T).out x ∧ h' = hp 0 ((ozSome T).blks' x)) := by
  have hE := tabT_plain T
  have hS := SZ_ok (ra := ra) (base := base) hE
  obtain ⟨t, full, n⟩ := x
  cases full with
  | true =>
    refine gives_of_treeQ hE (wE hE hS) (TZ_ok T) (hp_below _) (oz_call T t n) ?_
    simp only [TreeQ.holds, decide_true, Nat.beq_refl, Bool.and_self, Bool.and_true, Bool.true_and, true_and, hx, forall_const]
    refine ⟨fun h => ⟨_, rfl, fun _ => ⟨rfl, rfl⟩, fun h' => ?_⟩, fun h => ⟨_, rfl, fun h' => ?_, fun _ => ⟨rfl, rfl⟩⟩⟩
    · exact absurd (h.symm.trans h') (by decide)
    · exact absurd (h'.symm.trans h) (by decide)
  | false =>
    refine gives_of_treeQ hE (wE hE hS) noT_ok (hp_below _) (oz_nil T) ?_
    exact ⟨_, rfl, fun _ => ⟨rfl, rfl⟩, fun h => by cases h⟩


theorem S5_ok (T : Tb) : SumsOK Try.prog (tabT T) ra base (S5 T) := by
  refine sumNG_deal (tabT_plain T) (S3_ok (tabT_plain T)) ⟨_, Try.func14, by kernel_rfl⟩ ?_ ?_
  · intro q hq
    simp only [List.mem_cons, List.not_mem_nil, or_false] at hq
    subst hq
    intro x hx
    simp only [ozNone, Bool.and_eq_true] at hx
    exact Gives.mono (fun v h' hv => hv.1 hx.2) (oz_g x hx.1)
  · intro x hx
    simp only [ozSome, Bool.and_eq_true, Bool.not_eq_true'] at hx
    exact Gives.mono (fun v h' hv => hv.2 hx.2) (oz_g x hx.1)

def okV (t : Nat) (T : Tb) : AVal → Bool
  | .nils => true
  | .slice (.ro t' 0 0 0) n none => Nat.beq t' t && decide (n = (tabOf T t).w.length)
  | _ => false
theorem okV_cases {t : Nat} {V : AVal} (h : okV t T V = true) : V = .nils ∨ V = .slice (.ro t 0 0 0) (tabOf T t).w.length none := by
  unfold okV at h
  split at h
  · exact .inl rfl
  · rename_i t' n
    rw [Bool.and_eq_true] at h
    rw [Nat.eq_of_beq_eq_true h.1, of_decide_eq_true h.2]
    exact .inr rfl
  · cases h
theorem ops_len (D : Ds) : (opsL D).length ≤ 6 := by rw [opsL_first, firstO_len]; omega
end
end Go.Proofs.Ytbfebjmmpiffpaa
