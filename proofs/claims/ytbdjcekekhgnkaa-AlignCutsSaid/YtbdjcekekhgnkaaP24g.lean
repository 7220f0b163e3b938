/- align: AlignCuts: the loops that build the rows. -/
import Derived.Test.YtbdjcekekhgnkaaP24f
set_option linter.unusedSimpArgs false
namespace Go.Proofs.Ytbdjcekekhgnkaa
open Ab

structure Ways (T : Tc) : Prop where
  t : okT T
  a : ∀ j, j < T.ns.length → T.bs.getD j true = false → T.ns.getD j 0 = (T.R j).length
  b : ∀ j, j < T.ms.length → T.ds.getD j true = false → T.ms.getD j 0 = (T.Q j).length

theorem Ways.put {T : Tc} (h : Ways T) (F : List (List Int)) : Ways (T.put F) := ⟨h.t, h.a, h.b⟩

def inX (T : Tc) (j : Nat) : List Int := if T.bs.getD j true = true then [] else T.R j
def byX (T : Tc) (j : Nat) : List Int := if T.ds.getD j true = true then [] else T.Q j

theorem S6_ok {T : Tc} (h : Ways T) {ra : Nat → Nat → Nat × Nat} {base : Nat} : SumsOK Try.prog (tabF T) ra base (S6 T) :=
  sumG_deal (tabF_plain T) (S5_ok (tabF_plain T)) ⟨_, Try.func16, by kernel_rfl⟩ fun y hy => row_gives h.t y hy

def okB (B : AVal) : Prop := B = .nils ∨ ∃ m, B = .slice (.ro 2 0 0 0) m none
def okO (O : AVal) : Prop := O = .nils ∨ ∃ q, O = .slice (.ro 4 0 0 0) q none
def rowsV : Nat → AVal
  | 0 => .nils
  | k + 1 => .slice (.own 1 0 0 1) (k + 1) none
def rowsB (x : Al) : List (List Int) → List Blk
  | [] => [x.blk]
  | f :: r => [x.blk, rB (f :: r)]
def laS (n : Nat) (B O : AVal) (i : Nat) : List (Nat × AVal) := [(0, .slice (.ro 0 0 0 0) n none), (1, B), (2, O), (7, .ptr (.own 0 0 0 0)), (8, rowsV i), (9, .int .i64 (i : Int))]
def laZ (n : Nat) (B O : AVal) (i : Nat) : List (Nat × AVal) := [(0, .slice (.ro 0 0 0 0) n none), (1, B), (2, O), (7, .ptr (.own 0 0 0 0)), (8, rowsV i)]

/-- a row is built, and not frozen yet -/
def Built (T : Tc) (x : Al) (row : List Int) (ts : List (Nat × AVal)) (z : State) : Prop :=
  ∃ B1, BecomesB 2 5 T.F.length B1 (rB (T.F ++ [row])) ∧ z = (.normal, mkT 251 ts, [(0, some x.blk), (1, some B1), (2, some (.segs [⟨row.length, 1, [.int .i64 row]⟩]))])

theorem built_one {T : Tc} (h : T.F = []) {x : Al} {row row' : List Int} (hr : row' = row) {ts ts' : List (Nat × AVal)} (ht : ts' = ts) :
    Built T x row ts (.normal, mkT 251 ts', [(0, some x.blk), (1, some (.segs [⟨1, 1, [.val [.slice (.own 2 0 0 1) row'.length none]]⟩])), (2, some (.segs [⟨row'.length, 1, [.int .i64 row']⟩]))]) := by
  subst hr ht
  refine ⟨_, ?_, rfl⟩
  rw [h]; exact bec_one _

theorem built_more {T : Tc} {F : List (List Int)} (hF : T.F = F) {x : Al} {row row' : List Int} (hr : row' = row) {ts ts' : List (Nat × AVal)} (ht : ts' = ts) :
    Built T x row ts (.normal, mkT 251 ts', [(0, some x.blk), (1, some (.segs [⟨F.length + 1, 1, [.mix 5 (List.take F.length (F.map List.length)) (List.take F.length (F.map fun _ => false)) (.slice (.own 2 0 0 1) row'.length none)]⟩])), (2, some (.segs [⟨row'.length, 1, [.int .i64 row']⟩]))]) := by
  subst hr ht hF
  exact ⟨_, bec_more _ _, rfl⟩

section
variable {ra : Nat → Nat → Nat × Nat} {base : Nat}

theorem la_takes {T : Tc} (h : Ways T) (x : Al) {n : Nat} (hn : n ≤ T.ns.length) (hn4 : n ≤ 16) {B O : AVal} (hB : okB B) (hO : okO O) {i : Nat} (hi : i ≤ n) (hF : T.F.length = i) :
    Takes Try.prog (tabF T) ra base 0 (codeOf 4 (false :: pLa)) (mkT 251 (laS n B O i)) (hp 0 (rowsB x T.F)) fun z =>
      (i < n ∧ Built T x (rowL (inX T i)) (laS n B O (i + 1)) z) ∨ (i = n ∧ z = (.exit 0, mkT 251 (laZ n B O i), hp 0 (rowsB x T.F))) := by
  have hE := tabF_plain T
  have hW := W_ok (E := tabF T) (ra := ra) (base := base) (S6_ok h) noL_ok
  have hw : wr .i64 ((i : Int) + 1) = ((i + 1 : Nat) : Int) := by rw [wr_in ⟨by omega, by omega⟩]; omega
  have hz : T.bs.getD i true = true → rowL (Rw.z.xs T) = rowL (inX T i) := fun hb => by rw [inX, if_pos hb]; rfl
  have hy : T.bs.getD i true = false → rowL ((Rw.a i (T.ns.getD i 0)).xs T) = rowL (inX T i) := fun hb => by rw [inX, hb]; rfl
  have hp : T.bs.getD i true = false → i < n → (Rw.a i (T.ns.getD i 0)).pre T = true := fun hb hlt => decide_eq_true (h.a i (by omega) hb)
  cases hf : T.F with
  | nil =>
    have hi0 : i = 0 := by rw [← hF, hf]; rfl
    subst hi0
    rcases hB with rfl | ⟨m, rfl⟩ <;> rcases hO with rfl | ⟨q, rfl⟩
    · refine takes_of_tree hE hW (f := 4) (.inr (by kernel_rfl)) (hp_below _) (la_nnn T x n ((0 : Nat) : Int)) ?_
      simp only [Tree.holds, decide_true, Bool.and_self, Bool.and_true, Bool.true_and, true_and, toNat_nat, decide_eq_true_eq, decide_eq_false_iff_not, Bool.and_eq_true, hw]
      exact ⟨fun h1 => ⟨by omega, by omega, fun hb => .inl ⟨by omega, built_one hf (hz hb) rfl⟩, fun hb => ⟨hp hb (by omega), .inl ⟨by omega, built_one hf (hy hb) rfl⟩⟩⟩, fun h1 => .inr ⟨by omega, rfl⟩⟩
    · refine takes_of_tree hE hW (f := 4) (.inr (by kernel_rfl)) (hp_below _) (la_nsn T x n q ((0 : Nat) : Int)) ?_
      simp only [Tree.holds, decide_true, Bool.and_self, Bool.and_true, Bool.true_and, true_and, toNat_nat, decide_eq_true_eq, decide_eq_false_iff_not, Bool.and_eq_true, hw]
      exact ⟨fun h1 => ⟨by omega, by omega, fun hb => .inl ⟨by omega, built_one hf (hz hb) rfl⟩, fun hb => ⟨hp hb (by omega), .inl ⟨by omega, built_one hf (hy hb) rfl⟩⟩⟩, fun h1 => .inr ⟨by omega, rfl⟩⟩
    · refine takes_of_tree hE hW (f := 4) (.inr (by kernel_rfl)) (hp_below _) (la_snn T x n m ((0 : Nat) : Int)) ?_
      simp only [Tree.holds, decide_true, Bool.and_self, Bool.and_true, Bool.true_and, true_and, toNat_nat, decide_eq_true_eq, decide_eq_false_iff_not, Bool.and_eq_true, hw]
      exact ⟨fun h1 => ⟨by omega, by omega, fun hb => .inl ⟨by omega, built_one hf (hz hb) rfl⟩, fun hb => ⟨hp hb (by omega), .inl ⟨by omega, built_one hf (hy hb) rfl⟩⟩⟩, fun h1 => .inr ⟨by omega, rfl⟩⟩
    · refine takes_of_tree hE hW (f := 4) (.inr (by kernel_rfl)) (hp_below _) (la_ssn T x n m q ((0 : Nat) : Int)) ?_
      simp only [Tree.holds, decide_true, Bool.and_self, Bool.and_true, Bool.true_and, true_and, toNat_nat, decide_eq_true_eq, decide_eq_false_iff_not, Bool.and_eq_true, hw]
      exact ⟨fun h1 => ⟨by omega, by omega, fun hb => .inl ⟨by omega, built_one hf (hz hb) rfl⟩, fun hb => ⟨hp hb (by omega), .inl ⟨by omega, built_one hf (hy hb) rfl⟩⟩⟩, fun h1 => .inr ⟨by omega, rfl⟩⟩
  | cons f r =>
    have hi1 : i = (f :: r).length := by rw [← hF, hf]
    have hk : rowsV i = .slice (.own 1 0 0 1) (f :: r).length none := by rw [hi1]; rfl
    have hk' : rowsV (i + 1) = .slice (.own 1 0 0 1) ((f :: r).length + 1) none := by rw [hi1]; rfl
    rw [laS, laS, laZ, hk, hk']
    have hl : (f :: r).length ≤ 16 := by omega
    rcases hB with rfl | ⟨m, rfl⟩ <;> rcases hO with rfl | ⟨q, rfl⟩
    · refine takes_of_tree hE hW (f := 4) (.inr (by kernel_rfl)) (hp_below _) (la_nns T x n (f :: r).length ((f :: r).map List.length) ((f :: r).map fun _ => false) (i : Int)) ?_
      simp only [Tree.holds, decide_true, Bool.and_self, Bool.and_true, Bool.true_and, true_and, toNat_nat, decide_eq_true_eq, decide_eq_false_iff_not, Bool.and_eq_true, hw]
      exact ⟨fun h1 => ⟨by omega, by omega, fun hb => ⟨by omega, by omega, .inl ⟨by omega, built_more hf (hz hb) rfl⟩⟩, fun hb => ⟨hp hb (by omega), by omega, by omega, .inl ⟨by omega, built_more hf (hy hb) rfl⟩⟩⟩, fun h1 => .inr ⟨by omega, rfl⟩⟩
    · refine takes_of_tree hE hW (f := 4) (.inr (by kernel_rfl)) (hp_below _) (la_nss T x n q (f :: r).length ((f :: r).map List.length) ((f :: r).map fun _ => false) (i : Int)) ?_
      simp only [Tree.holds, decide_true, Bool.and_self, Bool.and_true, Bool.true_and, true_and, toNat_nat, decide_eq_true_eq, decide_eq_false_iff_not, Bool.and_eq_true, hw]
      exact ⟨fun h1 => ⟨by omega, by omega, fun hb => ⟨by omega, by omega, .inl ⟨by omega, built_more hf (hz hb) rfl⟩⟩, fun hb => ⟨hp hb (by omega), by omega, by omega, .inl ⟨by omega, built_more hf (hy hb) rfl⟩⟩⟩, fun h1 => .inr ⟨by omega, rfl⟩⟩
    · refine takes_of_tree hE hW (f := 4) (.inr (by kernel_rfl)) (hp_below _) (la_sns T x n m (f :: r).length ((f :: r).map List.length) ((f :: r).map fun _ => false) (i : Int)) ?_
      simp only [Tree.holds, decide_true, Bool.and_self, Bool.and_true, Bool.true_and, true_and, toNat_nat, decide_eq_true_eq, decide_eq_false_iff_not, Bool.and_eq_true, hw]
      exact ⟨fun h1 => ⟨by omega, by omega, fun hb => ⟨by omega, by omega, .inl ⟨by omega, built_more hf (hz hb) rfl⟩⟩, fun hb => ⟨hp hb (by omega), by omega, by omega, .inl ⟨by omega, built_more hf (hy hb) rfl⟩⟩⟩, fun h1 => .inr ⟨by omega, rfl⟩⟩
    · refine takes_of_tree hE hW (f := 4) (.inr (by kernel_rfl)) (hp_below _) (la_sss T x n m q (f :: r).length ((f :: r).map List.length) ((f :: r).map fun _ => false) (i : Int)) ?_
      simp only [Tree.holds, decide_true, Bool.and_self, Bool.and_true, Bool.true_and, true_and, toNat_nat, decide_eq_true_eq, decide_eq_false_iff_not, Bool.and_eq_true, hw]
      exact ⟨fun h1 => ⟨by omega, by omega, fun hb => ⟨by omega, by omega, .inl ⟨by omega, built_more hf (hz hb) rfl⟩⟩, fun hb => ⟨hp hb (by omega), by omega, by omega, .inl ⟨by omega, built_more hf (hy hb) rfl⟩⟩⟩, fun h1 => .inr ⟨by omega, rfl⟩⟩

def okM (B : AVal) (m : Nat) : Prop := (B = .nils ∧ m = 0) ∨ B = .slice (.ro 2 0 0 0) m none
def lbS (n : Nat) (B O : AVal) (k i : Nat) : List (Nat × AVal) := [(0, .slice (.ro 0 0 0 0) n none), (1, B), (2, O), (7, .ptr (.own 0 0 0 0)), (8, .slice (.own 1 0 0 1) k none), (10, .int .i64 (i : Int))]
def lbZ (n : Nat) (O : AVal) (k : Nat) : List (Nat × AVal) := [(0, .slice (.ro 0 0 0 0) n none), (2, O), (7, .ptr (.own 0 0 0 0)), (8, .slice (.own 1 0 0 1) k none)]

theorem lb_takes {T : Tc} (h : Ways T) (x : Al) {n m : Nat} (hm : m ≤ T.ms.length) (hm4 : m ≤ 16) {B O : AVal} (hB : okM B m) (hO : okO O) {i : Nat} (hi : i ≤ m) (hF : T.F.length ≤ 100) :
    Takes Try.prog (tabF T) ra base 0 (codeOf 4 (false :: pLb)) (mkT 251 (lbS n B O T.F.length i)) (hp 0 [x.blk, rB T.F]) fun z =>
      (i < m ∧ Built T x (rowL (byX T i)) (lbS n B O (T.F.length + 1) (i + 1)) z) ∨ (i = m ∧ z = (.exit 2, mkT 251 (lbZ n O T.F.length), hp 0 [x.blk, rB T.F])) := by
  have hE := tabF_plain T
  have hW := W_ok (E := tabF T) (ra := ra) (base := base) (S6_ok h) noL_ok
  have hw : wr .i64 ((i : Int) + 1) = ((i + 1 : Nat) : Int) := by rw [wr_in ⟨by omega, by omega⟩]; omega
  have hz : T.ds.getD i true = true → rowL (Rw.z.xs T) = rowL (byX T i) := fun hb => by rw [byX, if_pos hb]; rfl
  have hy : T.ds.getD i true = false → rowL ((Rw.b i (T.ms.getD i 0)).xs T) = rowL (byX T i) := fun hb => by rw [byX, hb]; rfl
  have hp : T.ds.getD i true = false → i < m → (Rw.b i (T.ms.getD i 0)).pre T = true := fun hb hlt => decide_eq_true (h.b i (by omega) hb)
  rcases hB with ⟨rfl, rfl⟩ | rfl <;> rcases hO with rfl | ⟨q, rfl⟩
  · refine takes_of_tree hE hW (f := 4) (.inr (by kernel_rfl)) (hp_below _) (lb_nn T x n T.F.length (T.F.map List.length) (T.F.map fun _ => false) (i : Int)) ?_
    simp only [Tree.holds, decide_true, Bool.and_self, Bool.and_true, Bool.true_and, true_and, toNat_nat, decide_eq_true_eq, decide_eq_false_iff_not, Bool.and_eq_true, hw]
    exact ⟨fun h1 => absurd h1 (by omega), fun h1 => .inr ⟨by omega, rfl⟩⟩
  · refine takes_of_tree hE hW (f := 4) (.inr (by kernel_rfl)) (hp_below _) (lb_ns T x n q T.F.length (T.F.map List.length) (T.F.map fun _ => false) (i : Int)) ?_
    simp only [Tree.holds, decide_true, Bool.and_self, Bool.and_true, Bool.true_and, true_and, toNat_nat, decide_eq_true_eq, decide_eq_false_iff_not, Bool.and_eq_true, hw]
    exact ⟨fun h1 => absurd h1 (by omega), fun h1 => .inr ⟨by omega, rfl⟩⟩
  · refine takes_of_tree hE hW (f := 4) (.inr (by kernel_rfl)) (hp_below _) (lb_sn T x n m T.F.length (T.F.map List.length) (T.F.map fun _ => false) (i : Int)) ?_
    simp only [Tree.holds, decide_true, Bool.and_self, Bool.and_true, Bool.true_and, true_and, toNat_nat, decide_eq_true_eq, decide_eq_false_iff_not, Bool.and_eq_true, hw]
    exact ⟨fun h1 => ⟨by omega, by omega, fun hb => ⟨by omega, by omega, .inl ⟨by omega, built_more rfl (hz hb) rfl⟩⟩, fun hb => ⟨hp hb (by omega), by omega, by omega, .inl ⟨by omega, built_more rfl (hy hb) rfl⟩⟩⟩, fun h1 => .inr ⟨by omega, rfl⟩⟩
  · refine takes_of_tree hE hW (f := 4) (.inr (by kernel_rfl)) (hp_below _) (lb_ss T x n m q T.F.length (T.F.map List.length) (T.F.map fun _ => false) (i : Int)) ?_
    simp only [Tree.holds, decide_true, Bool.and_self, Bool.and_true, Bool.true_and, true_and, toNat_nat, decide_eq_true_eq, decide_eq_false_iff_not, Bool.and_eq_true, hw]
    exact ⟨fun h1 => ⟨by omega, by omega, fun hb => ⟨by omega, by omega, .inl ⟨by omega, built_more rfl (hz hb) rfl⟩⟩, fun hb => ⟨hp hb (by omega), by omega, by omega, .inl ⟨by omega, built_more rfl (hy hb) rfl⟩⟩⟩, fun h1 => .inr ⟨by omega, rfl⟩⟩
end

end Go.Proofs.Ytbdjcekekhgnkaa
