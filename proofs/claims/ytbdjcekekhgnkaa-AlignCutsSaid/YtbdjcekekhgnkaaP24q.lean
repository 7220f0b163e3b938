/- align: AlignCuts: behind the aligner's making. -/
import Derived.Test.YtbdjcekekhgnkaaT24w
set_option linter.unusedSimpArgs false
namespace Go.Proofs.Ytbdjcekekhgnkaa
open Ab

section
variable {ra : Nat → Nat → Nat × Nat} {base : Nat}

theorem end_bare : ∀ v ∈ mkT 251 [(6, AVal.bool true)], bare v = true :=
  mkT_all (p := fun v => bare v = true) rfl (by intro q hq; rw [List.mem_singleton] at hq; subst hq; rfl)

theorem he_ro {T : Tc} (h : Ways T) (hF : T.F = []) (y : He) (hy : okHe T y) (he : y.e = false) :
    Takes Try.prog (tabF T) ra base 0 (codeOf 4 p7) (mkT 251 ((heD T).ins y)) (hp 0 ((heD T).blks y)) fun z => PostL 251 y z (heD T).alts := by
  obtain ⟨e, n, B, O, x⟩ := y
  obtain ⟨h1, h2, h3, h4, h5, h6, h7, h8, h9, h10⟩ := hy
  simp only at he h1 h2 h3 h7 h8 h9 h10
  subst he
  have hT : T.put [] = T := by cases T; simp only at hF; subst hF; rfl
  have R := rest_opens h h2 h3 (h1 rfl) h5 h6 h7 h8 h9
  rw [hT, ← h10] at R
  refine Opens.shut (tabF_plain T) (R.mono fun E z hz => ?_)
  subst hz
  exact ⟨rfl, end_bare, (), trivial, rfl⟩
end

/-! ### The way in that has no row -/

inductive All2 (R : AVal → AVal → Prop) : List AVal → List AVal → Prop
  | nil : All2 R [] []
  | cons {a b : AVal} {l m : List AVal} : R a b → All2 R l m → All2 R (a :: l) (b :: m)

theorem Froze.relL2 {E E' : Nat → Nat → Seg} {ra ra' : Nat → Nat → Nat × Nat} {ι ι' : Inj} {n t0 p0 b o : Nat} (F : Froze E E' ra ra' ι ι' n t0 p0 b o) : ∀ {ts ts' : List AVal} {xs : List Value}, All2 (Becomes n t0 p0) ts ts' → RelL E ra ι ts xs → RelL E' ra' ι' ts' xs
  | _, _, _, .nil, h => by cases h; exact .nil
  | _, _, _, .cons hb hr, h => by
    cases h with
    | cons h t => exact .cons (F.rel hb h) (Froze.relL2 F hr t)

theorem forall2_set {R : AVal → AVal → Prop} {a b : AVal} (h : R a b) : ∀ {l l' : List AVal} (i : Nat), All2 R l l' → All2 R (l.set i a) (l'.set i b)
  | _, _, _, .nil => .nil
  | _, _, 0, .cons _ t => .cons h t
  | _, _, i + 1, .cons h' t => .cons h' (forall2_set h i t)

theorem forall2_rep {R : AVal → AVal → Prop} (h : R .undef .undef) : ∀ n, All2 R (List.replicate n .undef) (List.replicate n .undef)
  | 0 => .nil
  | n + 1 => .cons h (forall2_rep h n)

def inB : Blk := .segs [⟨1, 1, [.val [.nils]]⟩]
def swS (B O : AVal) : List (Nat × AVal) := [(0, .slice (.own 1 0 0 1) 1 (some 1)), (1, B), (2, O), (7, .ptr (.own 0 0 0 0)), (8, .nils)]

theorem own_swap (x : Al) {B O : AVal} (hB : okB B) (hO : okO O) :
    canon 0 [1, 0] 391 (.normal, mkT 251 (ownS B O)) (hp 0 [inB, x.blk]) = some (true, (.normal, mkT 251 (swS B O), hp 0 [x.blk, inB])) := by
  rcases hB with rfl | ⟨m, rfl⟩ <;> rcases hO with rfl | ⟨q, rfl⟩ <;> kernel_rfl

theorem own_becomes {B O : AVal} (hB : okB B) (hO : okO O) : All2 (Becomes 1 0 0) (mkT 251 (swS B O)) (mkT 251 (preS 1 B O)) := by
  have hf : ∀ v, flat 1 0 0 v = true → Becomes 1 0 0 v v := fun v h => .inl ⟨h, rfl⟩
  have fB : flat 1 0 0 B = true := by rcases hB with rfl | ⟨m, rfl⟩ <;> rfl
  have fO : flat 1 0 0 O = true := by rcases hO with rfl | ⟨q, rfl⟩ <;> kernel_rfl
  exact forall2_set (.inr ⟨1, some 1, rfl, rfl⟩) 0 (forall2_set (hf _ fB) 1 (forall2_set (hf _ fO) 2 (forall2_set (hf _ rfl) 7 (forall2_set (hf _ rfl) 8 (forall2_rep (hf _ rfl) 251)))))
theorem al_same' (x : Al) (n t0 p0 : Nat) : BecomesB n t0 p0 x.blk x.blk ∨ ¬ (WFs [⟨1, 1, [.int .i64 [x.n]]⟩, ⟨16, 1, [.bool x.c]⟩, ⟨1, 1, [.int .i64 [x.m]]⟩, ⟨16, 1, [.bool x.d]⟩, ⟨1, 1, [.int .i64 [x.l]]⟩]) := by
  by_cases hw : WFs [⟨1, 1, [.int .i64 [x.n]]⟩, ⟨16, 1, [.bool x.c]⟩, ⟨1, 1, [.int .i64 [x.m]]⟩, ⟨16, 1, [.bool x.d]⟩, ⟨1, 1, [.int .i64 [x.l]]⟩]
  · left
    refine ⟨_, _, rfl, rfl, rfl, hw, fun j v' hv => ⟨v', hv, .inl ⟨?_, rfl⟩⟩⟩
    have : ∀ (l : List Seg), (∀ s ∈ l, ∀ c ∈ s.cols, (∃ k xs, c = .int k xs) ∨ ∃ xs, c = .bool xs) → ∀ j v, cellOf l j = some v → flat n t0 p0 v = true := by
      intro l
      induction l with
      | nil => intro _ j v h; cases h
      | cons s l ih =>
        intro hl j v h
        simp only [cellOf] at h
        split at h
        · split at h
          · rename_i c hc
            simp only [Option.some.injEq] at h
            subst h
            rcases hl s (by simp) c (List.mem_of_getElem? hc) with ⟨k, xs, rfl⟩ | ⟨xs, rfl⟩ <;> rfl
          · cases h
        · exact ih (fun s' hs' => hl s' (by simp [hs'])) _ _ h
    refine this _ ?_ j v' hv
    intro s hs c hc
    simp only [List.mem_cons, List.not_mem_nil, or_false] at hs
    rcases hs with rfl | rfl | rfl | rfl | rfl <;> (rw [List.mem_singleton] at hc; subst hc) <;> first | exact .inl ⟨_, _, rfl⟩ | exact .inr ⟨_, rfl⟩
  · exact .inr hw


def Tc.one (T : Tc) : Tc := { T with ns := [0], bs := [true] }

theorem Ways.one {T : Tc} (h : Ways T) : Ways T.one :=
  ⟨h.t, fun j hj hb => by
    have : j = 0 := by simpa [Tc.one] using hj
    subst this
    exact absurd hb (by simp [Tc.one]), h.b⟩

theorem tabF_flat0 (T : Tc) : ∀ t p, ¬ (t = 0 ∧ 0 ≤ p) → ∀ j v, cellOf [tabF T t p] j = some v → flat 0 0 0 v = true := by
  intro tid par hn j v hv
  obtain ⟨_, s, hs, rfl⟩ := cellOf_seg hv
  rcases tid with _ | _ | _ | _ | _ | _ | tid
  · exact absurd ⟨rfl, Nat.zero_le _⟩ hn
  all_goals (simp only [tabF, Nat.mod_one, List.getElem?_cons_zero, Option.some.injEq] at hs; subst hs; simp only [colAt]; first | rfl | (split <;> rfl))

theorem tabF_one (T : Tc) : ∀ t p, ¬ (t = 0 ∧ 0 ≤ p) → tabF T.one t p = tabF T t p := by
  intro t p hn
  rcases t with _ | _ | _ | _ | _ | _ | t
  · exact absurd ⟨rfl, Nat.zero_le _⟩ hn
  all_goals rfl

theorem one_cell (j : Nat) (v : AVal) (h : cellOf [⟨1, 1, [.subs 1 [0] [true]]⟩] j = some v) : cellOf [⟨1, 1, [.val [.nils]]⟩] j = some v ∧ flat 0 0 0 v = true := by
  obtain ⟨h1, s, hs, rfl⟩ := cellOf_seg h
  have hj : j = 0 := by simpa using h1
  subst hj
  simp only [Nat.mod_one, List.getElem?_cons_zero, Option.some.injEq] at hs
  subst hs
  exact ⟨by have e1 : Nat.ble (0 + 1) (1 * 1) = true := rfl
            simp only [cellOf, e1, Nat.mod_one, List.getElem?_cons_zero, Nat.div_one]; rfl, rfl⟩

section
variable {ra : Nat → Nat → Nat × Nat} {base : Nat}
theorem he_own {T : Tc} (h : Ways T) (hF : T.F = []) (y : He) (hy : okHe T y) (he : y.e = true) :
    Takes Try.prog (tabF T) ra base 0 (codeOf 4 p7) (mkT 251 ((heD T).ins y)) (hp 0 ((heD T).blks y)) fun z => PostL 251 y z (heD T).alts := by
  obtain ⟨e, n, B, O, x⟩ := y
  obtain ⟨h1, h2, h3, h4, h5, h6, h7, h8, h9, h10⟩ := hy
  simp only at he h1 h2 h3 h4 h7 h8 h9 h10
  subst he
  have hn := h4 rfl
  subst hn
  have hT : T.one.put [] = T.one := by cases T; simp only at hF; subst hF; rfl
  have R := rest_opens h.one h2 h3 (by simp [Tc.one]) h5 h6 h7 h8 h9
  rw [hT, ← h10] at R
  refine Opens.shut (tabF_plain T) (Q := fun z => PostL 251 _ z (heD T).alts) ?_
  intro ra base ι w nb a hf
  obtain ⟨ι1, f1, k1⟩ := canon_fit (tabF_plain T) (own_swap x h7.b h8) hf
  have hxB : BecomesB 1 0 0 x.blk x.blk := by
    rcases al_same' x 1 0 0 with h | h
    · exact h
    · obtain ⟨_, _, _, _, _, _, _, _, _, _, hw, _⟩ := f1.rel.own 0 x.blk rfl
      exact absurd hw h
  obtain ⟨ra2, base2, ι2, b, o, F, H, K⟩ := f1.rel.freezeT (n := 1) (t0 := 0) (p0 := 0) (E' := tabF T.one) (h' := hp 0 [x.blk]) (s := ⟨1, 1, [.val [.nils]]⟩) (S := ⟨1, 1, [.subs 1 [0] [true]]⟩) rfl
    (tabF_one T) (fun p _ => .inl rfl) ⟨rfl, fun c hc => by rw [List.mem_singleton] at hc; subst hc; rfl⟩ one_cell (tabF_flat0 T) (fun i => by rw [hp_ids]; simp) (fun i B' hv => by
      rcases i with _ | i
      · simp only [hp, view, Nat.beq] at hv ⊢
        simp only [Option.some.injEq] at hv
        subst hv
        exact ⟨_, rfl, hxB⟩
      · simp [hp, view, Nat.beq] at hv)
  have f2 : Fit (tabF T.one) ra2 base2 ι2 (hp 0 [x.blk]) w nb (mkT 251 (preS 1 B O)) a := ⟨H, Froze.relL2 F (own_becomes h7.b h8) f1.tmps, f1.defs.any H, f1.size⟩
  refine wpIn_mono (R ra2 base2 ι2 w nb a f2) ?_
  rintro e a' w' ⟨z, E', ra', base', ι', g1, g2, g3, g4⟩
  refine ⟨z, E', ra', base', ι', g1, ⟨?_, ?_, ?_⟩, g3, (k1.trans K).trans g4⟩
  · rw [g2]
  · rw [g2]; exact end_bare
  · exact ⟨(), trivial, g2⟩

theorem THe_ok {T : Tc} (h : Ways T) (hF : T.F = []) : ToldsOK Try.prog (tabF T) ra base 0 (THe T) := by
  classical
  refine sumT_ok noT_ok rfl (toldR_ok (c := codeOf 4 p7) (by kernel_rfl) fun y hy => ?_)
  have hy' : okHe T y := by simpa [heD, okHeB] using hy
  cases he : y.e with
  | false => exact he_ro h hF y hy' he
  | true => exact he_own h hF y hy' he
end

end Go.Proofs.Ytbdjcekekhgnkaa
