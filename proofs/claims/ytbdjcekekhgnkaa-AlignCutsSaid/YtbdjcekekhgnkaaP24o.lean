/- align: AlignCuts: from the aligner on: the rows, the turns. -/
import Derived.Test.YtbdjcekekhgnkaaT24v
set_option linter.unusedSimpArgs false
namespace Go.Proofs.Ytbdjcekekhgnkaa
open Ab

def p7 : List Bool := [true, true, true, true, true, true, true]
def preS (n : Nat) (B O : AVal) : List (Nat × AVal) := [(0, .slice (.ro 0 0 0 0) n none), (1, B), (2, O), (7, .ptr (.own 0 0 0 0)), (8, .nils)]
def midS (n k : Nat) (B O : AVal) : List (Nat × AVal) := [(0, .slice (.ro 0 0 0 0) n none), (1, B), (2, O), (7, .ptr (.own 0 0 0 0)), (8, .slice (.own 1 0 0 1) k none)]

theorem okM.b {B : AVal} {m : Nat} (h : okM B m) : okB B := by
  rcases h with ⟨rfl, _⟩ | rfl
  · exact .inl rfl
  · exact .inr ⟨m, rfl⟩

section
variable {ra : Nat → Nat → Nat × Nat} {base : Nat}

theorem za_takes {T : Tc} (h : Ways T) (x : Al) (n : Nat) {B O : AVal} (hB : okB B) (hO : okO O) :
    Takes Try.prog (tabF T) ra base 0 (codeOf 4 (false :: false :: p7)) (mkT 251 (preS n B O)) (hp 0 [x.blk]) fun z => z = (.normal, mkT 251 (laS n B O 0), hp 0 [x.blk]) := by
  have hE := tabF_plain T
  have hW := W_ok (E := tabF T) (ra := ra) (base := base) (S6_ok h) noL_ok
  rcases hB with rfl | ⟨m, rfl⟩ <;> rcases hO with rfl | ⟨q, rfl⟩
  · exact takes_of_tree hE hW (f := 4) (.inr (by kernel_rfl)) (hp_below _) (za_nn T x n) rfl
  · exact takes_of_tree hE hW (f := 4) (.inr (by kernel_rfl)) (hp_below _) (za_ns T x n q) rfl
  · exact takes_of_tree hE hW (f := 4) (.inr (by kernel_rfl)) (hp_below _) (za_sn T x n m) rfl
  · exact takes_of_tree hE hW (f := 4) (.inr (by kernel_rfl)) (hp_below _) (za_ss T x n m q) rfl

theorem zb_takes {T : Tc} (h : Ways T) (x : Al) (n k : Nat) (ls : List Nat) (fs : List Bool) {B O : AVal} (hB : okB B) (hO : okO O) :
    Takes Try.prog (tabF T) ra base 0 (codeOf 4 (false :: false :: true :: p7)) (mkT 251 (midS n k B O)) (hp 0 [x.blk, rK k ls fs]) fun z => z = (.normal, mkT 251 (lbS n B O k 0), hp 0 [x.blk, rK k ls fs]) := by
  have hE := tabF_plain T
  have hW := W_ok (E := tabF T) (ra := ra) (base := base) (S6_ok h) noL_ok
  rcases hB with rfl | ⟨m, rfl⟩ <;> rcases hO with rfl | ⟨q, rfl⟩
  · exact takes_of_tree hE hW (f := 4) (.inr (by kernel_rfl)) (hp_below _) (zb_nn T x n k ls fs) rfl
  · exact takes_of_tree hE hW (f := 4) (.inr (by kernel_rfl)) (hp_below _) (zb_ns T x n q k ls fs) rfl
  · exact takes_of_tree hE hW (f := 4) (.inr (by kernel_rfl)) (hp_below _) (zb_sn T x n m k ls fs) rfl
  · exact takes_of_tree hE hW (f := 4) (.inr (by kernel_rfl)) (hp_below _) (zb_ss T x n m q k ls fs) rfl
end

theorem rest_opens {T : Tc} (h : Ways T) {n m : Nat} (hn : 1 ≤ n) (hn4 : n ≤ 4) (hnN : n ≤ T.ns.length) (hm : m ≤ 3) (hmM : m ≤ T.ms.length) {B O : AVal} (hB : okM B m) (hO : okO O) (hq : ∀ q, O = .slice (.ro 4 0 0 0) q none → q ≤ T.o.length) :
    Opens Try.prog (tabF (T.put [])) (codeOf 4 p7) (mkT 251 (preS n B O)) (hp 0 [(newAl ⟨n, m, 0⟩).blk]) fun _ z => z = (.ret, mkT 251 [(6, .bool true)], []) := by
  have tA : Opens Try.prog (tabF (T.put [])) (codeOf 4 (false :: p7)) (mkT 251 (preS n B O)) (hp 0 [(newAl ⟨n, m, 0⟩).blk]) fun E' z => E' = tabF (T.put (Fa T n)) ∧ z = (.normal, mkT 251 (laZ n B O n), hp 0 (rowsB (newAl ⟨n, m, 0⟩) (Fa T n))) := by
    refine opens_seq (a := codeOf 4 (false :: false :: p7)) (b := codeOf 4 (true :: false :: p7)) (by kernel_rfl) (opens_of_takes fun ra base => za_takes (ra := ra) (base := base) (h.put []) _ n hB.b hO) ?_
    rintro E' y ⟨rfl, rfl⟩
    refine ⟨fun _ => ?_, fun hh => absurd rfl hh⟩
    refine opens_block (id := 0) (a := codeOf 4 (false :: true :: false :: p7)) (by kernel_rfl) ((la_opens h _ hnN (by omega) hB.b hO (by kernel_rfl)).mono ?_)
    rintro E z ⟨rfl, rfl⟩
    exact ⟨rfl, rfl⟩
  refine opens_seq (a := codeOf 4 (false :: p7)) (b := codeOf 4 (true :: p7)) (by kernel_rfl) tA ?_
  rintro E' y ⟨rfl, rfl⟩
  refine ⟨fun _ => ?_, fun hh => absurd rfl hh⟩
  have hr : rowsB (newAl ⟨n, m, 0⟩) (Fa T n) = [(newAl ⟨n, m, 0⟩).blk, rB (Fa T n)] := by
    have := Fa_len T n
    cases hf : Fa T n with
    | nil => rw [hf] at this; simp at this; omega
    | cons f r => rfl
  have hv : laZ n B O n = midS n n B O := by
    obtain ⟨k, rfl⟩ : ∃ k, n = k + 1 := ⟨n - 1, by omega⟩
    rfl
  have hb0 : Fa T n = Fb T n 0 := by simp [Fb]
  simp only
  rw [hr, hv, hb0]
  have tB : Opens Try.prog (tabF (T.put (Fb T n 0))) (codeOf 4 (false :: true :: p7)) (mkT 251 (midS n n B O)) (hp 0 [(newAl ⟨n, m, 0⟩).blk, rB (Fb T n 0)]) fun E' z => E' = tabF (T.put (Fb T n m)) ∧ z = (.normal, mkT 251 (lbZ n O (n + m)), hp 0 [(newAl ⟨n, m, 0⟩).blk, rB (Fb T n m)]) := by
    have hlen : (Fb T n 0).length = n := by rw [Fb_len]; rfl
    have key : ∀ (ra : Nat → Nat → Nat × Nat) (base : Nat), Takes Try.prog (tabF (T.put (Fb T n 0))) ra base 0 (codeOf 4 (false :: false :: true :: p7)) (mkT 251 (midS n n B O)) (hp 0 [(newAl ⟨n, m, 0⟩).blk, rB (Fb T n 0)]) fun z => z = (.normal, mkT 251 (lbS n B O n 0), hp 0 [(newAl ⟨n, m, 0⟩).blk, rB (Fb T n 0)]) := by
      intro ra base
      have := zb_takes (ra := ra) (base := base) (h.put (Fb T n 0)) (newAl ⟨n, m, 0⟩) n n ((Fb T n 0).map List.length) ((Fb T n 0).map fun _ => false) hB.b hO
      have e : rB (Fb T n 0) = rK n ((Fb T n 0).map List.length) ((Fb T n 0).map fun _ => false) := by rw [rB, hlen]
      rw [e]; exact this
    refine opens_seq (a := codeOf 4 (false :: false :: true :: p7)) (b := codeOf 4 (true :: false :: true :: p7)) (by kernel_rfl) (opens_of_takes key) ?_
    rintro E' y ⟨rfl, rfl⟩
    refine ⟨fun _ => ?_, fun hh => absurd rfl hh⟩
    refine opens_block (id := 2) (a := codeOf 4 (false :: true :: false :: true :: p7)) (by kernel_rfl) ((lb_opens h _ (by omega) hmM (by omega) hB hO (by kernel_rfl)).mono ?_)
    rintro E z ⟨rfl, rfl⟩
    exact ⟨rfl, rfl⟩
  refine opens_seq (a := codeOf 4 (false :: true :: p7)) (b := codeOf 4 (true :: true :: p7)) (by kernel_rfl) tB ?_
  rintro E' y ⟨rfl, rfl⟩
  refine ⟨fun _ => ?_, fun hh => absurd rfl hh⟩
  refine (opens_of_takes fun ra base => ta_takes (ra := ra) (base := base) (h.put (Fb T n m)) (rows_Fb h n m) hn hn4 hm (Fb_len T n m) hO hq).mono ?_
  rintro E z ⟨_, rfl⟩
  rfl

end Go.Proofs.Ytbdjcekekhgnkaa
