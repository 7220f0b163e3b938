/- align: the loops of 'all' and 'count' keep their contracts. -/
import Derived.Test.YtbdjcekekhgnkaaT24a
namespace Go.Proofs.Ytbdjcekekhgnkaa
open Ab

section
variable {E : Nat → Nat → Seg} {ra : Nat → Nat → Nat × Nat} {base : Nat}

def lenN (y : AllX) : Nat := match y.s with
  | true => y.x.n.toNat
  | false => y.x.m.toNat
def cellsY (y : AllX) : List Bool := match y.s with
  | true => y.x.c
  | false => y.x.d
def allAt (y : AllX) (i : Int) : List (Nat × AVal) := [(1, match y.g with
    | true => .fn 28 []
    | false => .fn 27 []), (7, match y.s with
    | true => .slice (.own 0 1 0 1) y.x.n.toNat (some 16)
    | false => .slice (.own 0 18 0 1) y.x.m.toNat (some 16)), (8, .int .i64 (match y.s with
    | true => (y.x.n.toNat : Int)
    | false => (y.x.m.toNat : Int))), (9, .int .i64 i)]

theorem okAl_facts {x : Al} (h : okAl x = true) : x.c.length = 16 ∧ x.d.length = 16 ∧ 0 ≤ x.n ∧ x.n ≤ 16 ∧ 0 ≤ x.m ∧ x.m ≤ 16 := by
  simp only [okAl, Bool.and_eq_true, decide_eq_true_eq] at h
  exact ⟨h.1, h.2.1, h.2.2.1, h.2.2.2.1, h.2.2.2.2.1, h.2.2.2.2.2⟩

theorem all_round (hE : Plain E) (y : AllX) (h : okAl y.x = true) {i : Nat} (hi : i ≤ lenN y) :
    Takes Try.prog E ra base 1 (codeOf 26 [false, false, true, false, true]) (mkT 18 (allAt y i)) (hp 0 [y.x.blk]) fun z =>
      (i < lenN y ∧ (cellsY y).getD i false = y.g ∧ z = (.normal, mkT 18 (allAt y ((i + 1 : Nat) : Int)), hp 0 [y.x.blk])) ∨
      (i < lenN y ∧ (cellsY y).getD i false = !y.g ∧ z = (.ret, mkT 18 [(4, .bool false)], hp 0 [y.x.blk])) ∨ (i = lenN y ∧ z = (.exit 0, mkT 18 [], hp 0 [y.x.blk])) := by
  obtain ⟨h1, h2, h3, h4, h5, h6⟩ := okAl_facts h
  have hw : i < 17 → wr .i64 ((i : Int) + 1) = ((i + 1 : Nat) : Int) := fun hh => by rw [wr_in ⟨by omega, by omega⟩]; omega
  obtain ⟨x, s, g⟩ := y
  cases s <;> cases g
  · refine takes_of_tree hE (W_ok sumNone_ok noL_ok) (f := 26) (.inr (by kernel_rfl)) (hp_below _) (all_round_bf E x.m.toNat (x.m.toNat : Int) i x) ?_
    simp only [lenN] at hi
    simp only at h5 h6
    simp only [Tree.holds, decide_eq_true_eq, decide_eq_false_iff_not, Bool.and_eq_true, toNat_nat, Bool.not_not, Bool.not_eq_true', Bool.not_eq_false', lenN, cellsY]
    refine ⟨fun k1 => ⟨by omega, by omega, fun k2 => .inr (.inl ⟨by omega, k2, rfl⟩), fun k2 => .inl ⟨by omega, k2, ?_⟩⟩, fun k1 => .inr (.inr ⟨by omega, rfl⟩)⟩
    rw [hw (by omega)]; rfl
  · refine takes_of_tree hE (W_ok sumNone_ok noL_ok) (f := 26) (.inr (by kernel_rfl)) (hp_below _) (all_round_bt E x.m.toNat (x.m.toNat : Int) i x) ?_
    simp only [lenN] at hi
    simp only at h5 h6
    simp only [Tree.holds, decide_eq_true_eq, decide_eq_false_iff_not, Bool.and_eq_true, toNat_nat, Bool.not_not, Bool.not_eq_true', Bool.not_eq_false', lenN, cellsY]
    refine ⟨fun k1 => ⟨by omega, by omega, fun k2 => .inr (.inl ⟨by omega, k2, rfl⟩), fun k2 => .inl ⟨by omega, k2, ?_⟩⟩, fun k1 => .inr (.inr ⟨by omega, rfl⟩)⟩
    rw [hw (by omega)]; rfl
  · refine takes_of_tree hE (W_ok sumNone_ok noL_ok) (f := 26) (.inr (by kernel_rfl)) (hp_below _) (all_round_if E x.n.toNat (x.n.toNat : Int) i x) ?_
    simp only [lenN] at hi
    simp only at h3 h4
    simp only [Tree.holds, decide_eq_true_eq, decide_eq_false_iff_not, Bool.and_eq_true, toNat_nat, Bool.not_not, Bool.not_eq_true', Bool.not_eq_false', lenN, cellsY]
    refine ⟨fun k1 => ⟨by omega, by omega, fun k2 => .inr (.inl ⟨by omega, k2, rfl⟩), fun k2 => .inl ⟨by omega, k2, ?_⟩⟩, fun k1 => .inr (.inr ⟨by omega, rfl⟩)⟩
    rw [hw (by omega)]; rfl
  · refine takes_of_tree hE (W_ok sumNone_ok noL_ok) (f := 26) (.inr (by kernel_rfl)) (hp_below _) (all_round_it E x.n.toNat (x.n.toNat : Int) i x) ?_
    simp only [lenN] at hi
    simp only at h3 h4
    simp only [Tree.holds, decide_eq_true_eq, decide_eq_false_iff_not, Bool.and_eq_true, toNat_nat, Bool.not_not, Bool.not_eq_true', Bool.not_eq_false', lenN, cellsY]
    refine ⟨fun k1 => ⟨by omega, by omega, fun k2 => .inr (.inl ⟨by omega, k2, rfl⟩), fun k2 => .inl ⟨by omega, k2, ?_⟩⟩, fun k1 => .inr (.inr ⟨by omega, rfl⟩)⟩
    rw [hw (by omega)]; rfl

theorem allV_eq (y : AllX) : allV y = allB ((cellsY y).take (lenN y)) y.g := by
  obtain ⟨x, s, g⟩ := y
  cases s <;> rfl

theorem allB_snoc (c : List Bool) (g : Bool) {i : Nat} (h : i < c.length) : allB (c.take (i + 1)) g = (allB (c.take i) g && (c.getD i false == g)) := by
  rw [List.take_add_one, List.getElem?_eq_getElem h, allB, List.all_append, allB]
  simp [List.getD_eq_getElem?_getD, h]

theorem allB_low (c : List Bool) (g : Bool) {i n : Nat} (h : i < c.length) (hin : i < n) (hx : c.getD i false = !g) : allB (c.take n) g = false := by
  cases hh : allB (c.take n) g with
  | false => rfl
  | true =>
    have hm : c[i] ∈ c.take n := List.mem_take_iff_getElem.2 ⟨i, by omega, rfl⟩
    have := List.all_eq_true.1 hh _ hm
    rw [getD_at h] at hx
    rw [hx] at this
    cases g <;> simp at this

theorem all_loop (hE : Plain E) (y : AllX) (h : okAl y.x = true) :
    Takes Try.prog E ra base 1 (.loop (codeOf 26 [false, false, true, false, true])) (mkT 18 (allIns y)) (hp 0 [y.x.blk]) fun z =>
      (allV y = true ∧ z = (.exit 0, mkT 18 [], hp 0 [y.x.blk])) ∨ (allV y = false ∧ z = (.ret, mkT 18 [(4, .bool false)], hp 0 [y.x.blk])) := by
  have hlen : lenN y ≤ (cellsY y).length := by
    obtain ⟨h1, h2, h3, h4, h5, h6⟩ := okAl_facts h
    obtain ⟨x, s, g⟩ := y
    simp only at h1 h2 h3 h4 h5 h6
    cases s <;> simp only [lenN, cellsY] <;> omega
  refine takes_loop (fun j ts h => ∃ i : Nat, i ≤ lenN y ∧ j = lenN y - i + 1 ∧ allB ((cellsY y).take i) y.g = true ∧ ts = mkT 18 (allAt y i) ∧ h = hp 0 [y.x.blk]) (fun ts h => by rintro ⟨i, _, h, _⟩; omega) (fun j ts h' => ?_) (j := lenN y + 1) ⟨0, Nat.zero_le _, rfl, rfl, rfl, rfl⟩
  rintro ⟨i, h1, h2, h3, rfl, rfl⟩
  refine (all_round hE y h h1).mono ?_
  rintro z (⟨k1, k2, rfl⟩ | ⟨k1, k2, rfl⟩ | ⟨k1, rfl⟩)
  · refine ⟨i + 1, k1, by omega, ?_, rfl, rfl⟩
    rw [allB_snoc _ _ (by omega), h3, k2]; simp
  · exact .inr ⟨by rw [allV_eq]; exact allB_low _ _ (by omega) k1 k2, rfl⟩
  · exact .inl ⟨by rw [allV_eq, ← k1]; exact h3, rfl⟩

theorem L26_ok (hE : Plain E) : LoopsOK Try.prog E ra base L26 := by
  refine sum2L_deal hE noL_ok rfl (c := codeOf 26 [false, false, true, false, true]) (by kernel_rfl) (fun _ => rfl) (fun _ => rfl) (fun y hy => ?_) (fun y hy => ?_)
  · simp only [allL1, Bool.and_eq_true] at hy
    refine (all_loop hE y hy.1).mono ?_
    rintro z (⟨_, rfl⟩ | ⟨k, _⟩)
    · rfl
    · rw [k] at hy; exact absurd hy.2 (by decide)
  · simp only [allL2, Bool.and_eq_true, Bool.not_eq_true'] at hy
    refine (all_loop hE y hy.1).mono ?_
    rintro z (⟨k, _⟩ | ⟨_, rfl⟩)
    · rw [k] at hy; exact absurd hy.2 (by decide)
    · rfl

theorem all_gives (hE : Plain E) (y : AllX) (h : okAl y.x = true) : Gives Try.prog E ra base 1 26 (allD.args y) (hp 0 [y.x.blk]) fun v h' => v = allD.out y ∧ h' = hp 0 [y.x.blk] := by
  obtain ⟨x, s, g⟩ := y
  have hL := L26_ok (ra := ra) (base := base) hE
  simp only at h
  cases s <;> cases g
  · refine (gives_of_tree hE (W_ok sumNone_ok hL) sumNone_ok (hp_below _) (all_bf E x) ?_).2
    simp only [Tree.holds, decide_true, Bool.and_self, Bool.and_true, Bool.true_and, h, Bool.not_eq_true', true_and]
    exact ⟨fun k => ⟨k, _, rfl, by rw [show allD.out ⟨x, false, false⟩ = .bool (allV ⟨x, false, false⟩) from rfl, k], rfl⟩, fun k => ⟨k, _, rfl, by rw [show allD.out ⟨x, false, false⟩ = .bool (allV ⟨x, false, false⟩) from rfl, k], rfl⟩⟩
  · refine (gives_of_tree hE (W_ok sumNone_ok hL) sumNone_ok (hp_below _) (all_bt E x) ?_).2
    simp only [Tree.holds, decide_true, Bool.and_self, Bool.and_true, Bool.true_and, h, Bool.not_eq_true', true_and]
    exact ⟨fun k => ⟨k, _, rfl, by rw [show allD.out ⟨x, false, true⟩ = .bool (allV ⟨x, false, true⟩) from rfl, k], rfl⟩, fun k => ⟨k, _, rfl, by rw [show allD.out ⟨x, false, true⟩ = .bool (allV ⟨x, false, true⟩) from rfl, k], rfl⟩⟩
  · refine (gives_of_tree hE (W_ok sumNone_ok hL) sumNone_ok (hp_below _) (all_if E x) ?_).2
    simp only [Tree.holds, decide_true, Bool.and_self, Bool.and_true, Bool.true_and, h, Bool.not_eq_true', true_and]
    exact ⟨fun k => ⟨k, _, rfl, by rw [show allD.out ⟨x, true, false⟩ = .bool (allV ⟨x, true, false⟩) from rfl, k], rfl⟩, fun k => ⟨k, _, rfl, by rw [show allD.out ⟨x, true, false⟩ = .bool (allV ⟨x, true, false⟩) from rfl, k], rfl⟩⟩
  · refine (gives_of_tree hE (W_ok sumNone_ok hL) sumNone_ok (hp_below _) (all_it E x) ?_).2
    simp only [Tree.holds, decide_true, Bool.and_self, Bool.and_true, Bool.true_and, h, Bool.not_eq_true', true_and]
    exact ⟨fun k => ⟨k, _, rfl, by rw [show allD.out ⟨x, true, true⟩ = .bool (allV ⟨x, true, true⟩) from rfl, k], rfl⟩, fun k => ⟨k, _, rfl, by rw [show allD.out ⟨x, true, true⟩ = .bool (allV ⟨x, true, true⟩) from rfl, k], rfl⟩⟩

theorem cnt_snoc (p : List Bool) {i : Nat} (h : i < p.length) : cnt (p.take (i + 1)) = cnt (p.take i) + (if p.getD i false = true then 1 else 0) := by
  induction p generalizing i with
  | nil => simp at h
  | cons b p ih =>
    cases i with
    | zero => simp [cnt]
    | succ i =>
      have := ih (i := i) (by simpa using h)
      simp only [List.take_succ_cons, cnt, this, List.getD_cons_succ]
      omega

theorem cnt_le (p : List Bool) : 0 ≤ cnt p ∧ cnt p ≤ p.length := by
  induction p with
  | nil => simp [cnt]
  | cons b p ih =>
    simp only [cnt, List.length_cons]
    split <;> omega

theorem count_loop (hE : Plain E) (p : List Bool) (h : p.length ≤ 1000) :
    Takes Try.prog E ra base 1 (.loop (codeOf 31 [false, false, true, false, true, true])) (mkT 18 (countL.ins p)) (hp 0 [bl p.length p]) fun z => z = (.exit 0, mkT 18 (countL.outs p), hp 0 [bl p.length p]) := by
  refine takes_loop (fun j ts h => ∃ i : Nat, i ≤ p.length ∧ j = p.length - i + 1 ∧ ts = mkT 18 [(0, .slice (.own 0 0 0 1) p.length (some p.length)), (3, .int .i64 (cnt (p.take i))), (4, .int .i64 i)] ∧ h = hp 0 [bl p.length p]) (fun ts h => by rintro ⟨i, _, h, _⟩; omega) (fun j ts h' => ?_) (j := p.length + 1) ⟨0, Nat.zero_le _, rfl, rfl, rfl⟩
  rintro ⟨i, h1, h2, rfl, rfl⟩
  refine takes_of_tree hE (W_ok sumNone_ok noL_ok) (f := 31) (.inr (by kernel_rfl)) (hp_below _) (count_round E i (cnt (p.take i)) p) ?_
  have hc := cnt_le (p.take i)
  have hcl : ((p.take i).length : Int) ≤ 1000 := by rw [List.length_take]; omega
  simp only [Tree.holds, decide_eq_true_eq, decide_eq_false_iff_not, Bool.and_eq_true, toNat_nat]
  refine ⟨fun k1 => ?_, fun k1 => ?_⟩
  · have hlt : i < p.length := by omega
    have hw : wr .i64 ((i : Int) + 1) = ((i + 1 : Nat) : Int) := by rw [wr_in ⟨by omega, by omega⟩]; omega
    have hs := cnt_snoc p hlt
    refine ⟨by omega, hlt, fun k2 => ⟨i + 1, hlt, by omega, ?_, rfl⟩, fun k2 => ⟨i + 1, hlt, by omega, ?_, rfl⟩⟩
    · rw [k2, if_pos rfl] at hs
      rw [hw, hs, wr_in ⟨by omega, by omega⟩]
    · rw [k2, if_neg (by decide), Int.add_zero] at hs
      rw [hw, hs]
  · have : i = p.length := by omega
    subst this
    rw [List.take_length]
    rfl

theorem S1_ok (hE : Plain E) : SumsOK Try.prog E ra base S1 := by
  refine sumG_deal hE (sumG_deal hE sumNone_ok ⟨_, Try.func26, by kernel_rfl⟩ fun y hy => all_gives hE y hy) ⟨_, Try.func31, by kernel_rfl⟩ fun p hp' => ?_
  simp only [countD, decide_eq_true_eq] at hp'
  have hL : LoopsOK Try.prog E ra base L31 := sumLG_deal hE noL_ok rfl (c := codeOf 31 [false, false, true, false, true, true]) (by kernel_rfl) (fun _ => rfl) fun p hp => count_loop hE p (by simpa [countL] using hp)
  refine (gives_of_tree hE (W_ok sumNone_ok hL) sumNone_ok (hp_below _) (count_call E p) ?_).2
  simp only [Tree.holds, decide_true, Bool.and_self, hp', true_and]
  exact ⟨_, rfl, rfl, rfl⟩
end

end Go.Proofs.Ytbdjcekekhgnkaa
