/- bins: BinEven: contracts kept. -/
import Derived.Test.YtcgebafffkpmfaaT07a
set_option linter.unusedSimpArgs false
namespace Go.Proofs.Ytcgebafffkpmfaa
open Ab

theorem noE_plain : Plain noSeg := by
  intro t p j v h
  rw [noSeg_cell] at h; cases h

theorem wr_u32 {v : Int} (h : 0 ≤ v ∧ v < 4294967296) : wr .u32 v = v := by
  obtain ⟨h1, h2⟩ := h
  show v % 4294967296 = v
  omega

theorem next32 {i : Nat} (h : i < 64) : wr .u32 ((i : Int) + 1) = ((i + 1 : Nat) : Int) := by rw [wr_u32 ⟨by omega, by omega⟩]; omega
theorem next64 {i : Nat} (h : i < 1000) : wr .i64 ((i : Int) + 1) = ((i + 1 : Nat) : Int) := by rw [wr_in ⟨by omega, by omega⟩]; omega

section
variable {ra : Nat → Nat → Nat × Nat} {base : Nat}

theorem S1_ok : SumsOK Try.prog noSeg ra base S1 := by
  have hE := noE_plain
  refine sumG_deal hE (sumG_deal hE sumNone_ok ⟨_, Try.func5, by kernel_rfl⟩ fun _ _ => ?_) ⟨_, Try.func6, by kernel_rfl⟩ fun x _ => ?_
  · exact (gives_of_tree hE (W_ok sumNone_ok noL_ok) sumNone_ok (hp_below _) (works_call ()) ⟨_, rfl, rfl, rfl⟩).2
  · exact (gives_of_tree hE (W_ok sumNone_ok noL_ok) sumNone_ok (hp_below _) (of_call x) ⟨_, rfl, rfl, rfl⟩).2
theorem w1 : ExecOK Try.prog noSeg ra base (W noSeg S1 noL) := W_ok S1_ok noL_ok

theorem binV_nat (x : Nat) : binV ((x : Nat) : Int) = ((binN x : Nat) : Int) ∧ binN x < 8 := by
  have h1 : wr .u32 ((x : Int) * 2654435761) = ((x * 2654435761 % 4294967296 : Nat) : Int) := by
    show ((x : Int) * 2654435761) % 4294967296 = _
    omega
  have h2 : x * 2654435761 % 4294967296 < 4294967296 := Nat.mod_lt _ (by decide)
  rw [binV, h1, binN]
  generalize x * 2654435761 % 4294967296 = m at h2
  have h3 : m / 536870912 < 8 := by omega
  refine ⟨?_, h3⟩
  rw [Int.fdiv_eq_ediv_of_nonneg _ (by decide), wr_in ⟨by omega, by omega⟩]
  omega

/-- how many of the first keys have a bin -/
def cnt (x b i : Nat) : Nat := (List.range i).countP fun k => decide (binN ((x + k) % 4294967296) = b)
def cntsI (x i : Nat) : List Int := (List.range 8).map fun b => ((cnt x b i : Nat) : Int)

theorem cnt_succ (x b i : Nat) : cnt x b (i + 1) = cnt x b i + if binN ((x + i) % 4294967296) = b then 1 else 0 := by
  rw [cnt, List.range_succ, List.countP_append, List.countP_singleton, cnt]
  simp only [decide_eq_true_eq]

theorem cnt_le (x b i : Nat) : cnt x b i ≤ i := by
  have := List.countP_le_length (p := fun k => decide (binN ((x + k) % 4294967296) = b)) (l := List.range i)
  rwa [List.length_range] at this

theorem cntsI_get (x i b : Nat) (hb : b < 8) : (cntsI x i).getD b 0 = ((cnt x b i : Nat) : Int) := by
  rw [cntsI, getD_map (by simpa using hb)]; simp

theorem cnts_succ (x i : Nat) : (cntsI x i).set (binN ((x + i) % 4294967296)) ((cntsI x i).getD (binN ((x + i) % 4294967296)) 0 + 1) = cntsI x (i + 1) := by
  have hb := (binV_nat ((x + i) % 4294967296)).2
  rw [cntsI_get x i _ hb]
  apply List.ext_getElem?
  intro j
  rw [List.getElem?_set]
  by_cases hj : j < 8
  · simp only [cntsI, List.getElem?_map, List.getElem?_range hj, Option.map_some, List.length_map, List.length_range, cnt_succ]
    by_cases h : binN ((x + i) % 4294967296) = j
    · subst h; simp [hb]
    · simp [h]
  · have h : binN ((x + i) % 4294967296) ≠ j := by omega
    simp [h, cntsI, hj]

theorem cnts_even (x : Nat) : evenL (cntsI x 64) = true := by
  rw [evenL, Bool.and_eq_true]
  refine ⟨decide_eq_true (by simp [cntsI]), List.all_eq_true.2 fun v hv => ?_⟩
  obtain ⟨b, hb, rfl⟩ := List.mem_map.1 hv
  have := even x b (List.mem_range.1 hb)
  rw [Bool.and_eq_true]
  exact ⟨decide_eq_true (by rw [cnt]; omega), decide_eq_true (by rw [cnt]; omega)⟩

def k1At (key a m i : Int) : List (Nat × AVal) := [(0, .int .u32 key), (1, .int .u8 a), (2, .int .u8 m), (7, .ptr (.own 0 0 0 0)), (8, .int .u32 i)]

theorem k1_step (x : Nat) (a m : Int) {i : Nat} (hi : i ≤ 64) :
    Takes Try.prog noSeg ra base 0 (codeOf 3 (false :: p1)) (mkT 150 (k1At x a m i)) (hp 0 [rowI 8 (cntsI x i)]) fun z =>
      (i < 64 ∧ z = (.normal, mkT 150 (k1At x a m ((i + 1 : Nat) : Int)), hp 0 [rowI 8 (cntsI x (i + 1))])) ∨ (i = 64 ∧ z = (.exit 0, mkT 150 [(1, .int .u8 a), (2, .int .u8 m), (7, .ptr (.own 0 0 0 0))], hp 0 [rowI 8 (cntsI x 64)])) := by
  have hE := noE_plain
  refine takes_of_tree hE w1 (f := 3) (.inr (by kernel_rfl)) (hp_below _) (k1_round x a m i (cntsI x i)) ?_
  have e1 : wr .u32 ((x : Int) + i) = (((x + i) % 4294967296 : Nat) : Int) := by
    show ((x : Int) + i) % 4294967296 = _
    omega
  obtain ⟨b1, b2⟩ := binV_nat ((x + i) % 4294967296)
  have e3 := cnts_succ x i
  have e4 : wr .i64 ((cntsI x i).getD (binN ((x + i) % 4294967296)) 0 + 1) = (cntsI x i).getD (binN ((x + i) % 4294967296)) 0 + 1 := by
    rw [cntsI_get x i _ b2]
    have := cnt_le x (binN ((x + i) % 4294967296)) i
    exact wr_in ⟨by omega, by omega⟩
  rw [e1, b1]
  clear e1 b1
  generalize (x + i) % 4294967296 = p at b2 e3 e4 ⊢
  generalize binN p = b at b2 e3 e4 ⊢
  generalize cntsI x (i + 1) = l' at e3 ⊢
  generalize hl : cntsI x i = l at e3 e4 ⊢
  rw [Int.toNat_natCast, e4, e3]
  clear e3 e4
  simp only [Tree.holds, decide_eq_true_eq, decide_eq_false_iff_not, decide_true, Bool.and_true, true_and, Bool.and_eq_true]
  refine ⟨fun k1 => ⟨fun k2 => absurd k2 (by omega), fun _ => ⟨fun k2 => absurd k2 (by omega), fun _ => ⟨⟨by omega, by omega⟩, b2, ⟨by omega, by omega⟩, b2, .inl ⟨by omega, ?_⟩⟩⟩⟩, fun k1 => .inr ⟨by omega, ?_⟩⟩
  · rw [next32 (by omega)]; rfl
  · have : i = 64 := by omega
    subst this; rw [hl]; rfl

theorem k1_takes (y : K1) (hy : k1D.pre y = true) : Takes Try.prog noSeg ra base 0 (.loop (codeOf 3 (false :: p1))) (mkT 150 (k1D.ins y)) (hp 0 (k1D.blks y)) fun z => PostL 150 y z k1D.alts := by
  obtain ⟨key, a, m, l⟩ := y
  simp only [k1D, Bool.and_eq_true, decide_eq_true_eq] at hy
  obtain ⟨h1, h2, rfl⟩ := hy
  obtain ⟨x, rfl⟩ := Int.eq_ofNat_of_zero_le h1
  refine takes_loop (fun j ts h => ∃ i : Nat, i ≤ 64 ∧ j = 64 - i + 1 ∧ ts = mkT 150 (k1At x a m i) ∧ h = hp 0 [rowI 8 (cntsI x i)]) (fun ts h => by rintro ⟨i, _, h, _⟩; omega) (fun j ts h' => ?_) (j := 65) ⟨0, Nat.zero_le _, rfl, rfl, rfl⟩
  rintro ⟨i, k1, k2, rfl, rfl⟩
  refine (k1_step x a m k1).mono ?_
  rintro z (⟨g1, rfl⟩ | ⟨g1, rfl⟩)
  · exact ⟨i + 1, by omega, by omega, rfl, rfl⟩
  · exact ⟨cntsI x 64, cnts_even x, rfl⟩

theorem k2_takes (y : K1) (hy : k2D.pre y = true) : Takes Try.prog noSeg ra base 0 (.loop (codeOf 3 (false :: p2))) (mkT 150 (k2D.ins y)) (hp 0 (k2D.blks y)) fun z => PostL 150 y z k2D.alts := by
  have hE := noE_plain
  obtain ⟨key, a, m, l⟩ := y
  have hy : evenL l = true := hy
  rw [evenL, Bool.and_eq_true, decide_eq_true_eq] at hy
  obtain ⟨hl, he⟩ := hy
  refine takes_loop (fun j ts h => ∃ i : Nat, i ≤ 8 ∧ j = 8 - i + 1 ∧ ts = mkT 150 [(1, .int .u8 a), (2, .int .u8 m), (7, .ptr (.own 0 0 0 0)), (10, .int .i64 i)] ∧ h = hp 0 [rowI 8 l]) (fun ts h => by rintro ⟨i, _, h, _⟩; omega) (fun j ts h' => ?_) (j := 9) ⟨0, Nat.zero_le _, rfl, rfl, rfl⟩
  rintro ⟨i, k1, k2, rfl, rfl⟩
  refine takes_of_tree hE w1 (f := 3) (.inr (by kernel_rfl)) (hp_below _) (k2_round a m i l) ?_
  simp only [Tree.holds, decide_eq_true_eq, decide_eq_false_iff_not, Int.toNat_natCast, Bool.and_eq_true]
  have key : i < 8 → 5 ≤ l.getD i 0 ∧ l.getD i 0 ≤ 11 := fun h => by
    rw [getD_at (by omega)]
    have := List.all_eq_true.1 he _ (List.getElem_mem (by omega : i < l.length))
    simpa only [Bool.and_eq_true, decide_eq_true_eq] using this
  refine ⟨fun g => ?_, fun _ => ⟨(), trivial, rfl⟩⟩
  have g' : i < 8 := by omega
  obtain ⟨q1, q2⟩ := key g'
  refine ⟨⟨by omega, by omega⟩, g', fun q => absurd q (by omega), fun _ => ⟨⟨by omega, by omega⟩, g', fun q => absurd q (by omega), fun _ => ⟨i + 1, by omega, by omega, by rw [next64 (by omega)], rfl⟩⟩⟩
end
end Go.Proofs.Ytcgebafffkpmfaa
