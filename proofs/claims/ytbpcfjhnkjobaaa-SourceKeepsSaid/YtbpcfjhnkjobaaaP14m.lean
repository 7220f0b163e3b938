/- source: SourceKeeps: a round keeps what holds. -/
import Derived.Test.YtbpcfjhnkjobaaaP14k
import Derived.Test.YtbpcfjhnkjobaaaT14h
set_option linter.unusedSimpArgs false
namespace Go.Proofs.Ytbpcfjhnkjobaaa
open Ab

/-- what holds between the rounds -/
structure KpI (it : Items) (m : Nat) (l : Int) (y : Sr) : Prop where
  ok : okSr y = true
  items : y.it = it.take m
  len : y.it.im.length = m
  le : m ≤ it.im.length
  late : y.late = Int.tmod l 51
  over : y.over = false

theorem lgl_of {x : Kb} (h1 : okSr x.y = true) (h2 : x.m ≤ x.it.im.length) (h3 : 0 ≤ x.i) (h4 : x.i ≤ x.m) (h5 : x.y.pl = x.i + 1) (h6 : x.f ≤ x.y.f) (h7 : x.m ≤ 1000)
    (h : (x.k = 4 ∧ isNo x.r = true ∧ lgl4 x = true) ∨ (x.k = 3 ∧ isNo x.r = true ∧ lgl3 x = true) ∨ (x.k = 2 ∧ lgl2 x = true) ∨ (x.k = 1 ∧ lgl1 x = true)) : lgl x = true := by
  simp only [lgl, Bool.and_eq_true, decide_eq_true_eq]
  refine ⟨h1, h2, h3, h4, by rw [wr_in ⟨by omega, by omega⟩]; exact h5, h6, ?_⟩
  rcases h with ⟨hk, a, b⟩ | ⟨hk, a, b⟩ | ⟨hk, b⟩ | ⟨hk, b⟩
  · rw [if_pos hk, a, b]; rfl
  · rw [if_neg (by omega), if_pos hk, a, b]; rfl
  · rw [if_neg (by omega), if_neg (by omega), if_pos hk, b]
  · rw [if_neg (by omega), if_neg (by omega), if_neg (by omega), b, decide_eq_true hk]; rfl

theorem take_getI {l : List Int} {m i : Nat} (h : i < m) : (l.take m).getD i 0 = l.getD i 0 := by
  simp [List.getD_eq_getElem?_getD, List.getElem?_take, h]
theorem take_getB {l : List Bool} {m i : Nat} (h : i < m) : (l.take m).getD i false = l.getD i false := by
  simp [List.getD_eq_getElem?_getD, List.getElem?_take, h]

theorem kp_ends {it : Items} {m : Nat} {l : Int} {y : Sr} (h : KpI it m l y) (he : y.ends = true) :
    lgl ⟨it, m, ⟨y.it, y.late, far, y.pl + 1, true⟩, l, y.f, y.pl, noRec, 4⟩ = true := by
  obtain ⟨g1, g2, g3, g4, g5, g6, g7, g8, g9⟩ := okSr_iff.1 h.ok
  have n1 := next_ok h.ok
  rw [(next_ends h.over he).2.2] at n1
  have hpl := g9 h.over
  have hm := h.len
  refine lgl_of n1.1 h.le g7 (by simp only; omega) rfl g6 (by simp only; omega) (.inl ⟨rfl, rfl, ?_⟩)
  simp only [lgl4, Kb.im, Kb.tm, Bool.and_eq_true, Bool.or_eq_true, decide_eq_true_eq, true_and]
  simp only [Sr.ends, Bool.or_eq_true, Bool.and_eq_true, decide_eq_true_eq] at he
  by_cases hp : y.pl = m
  · exact .inl hp
  · rcases he with he | he
    · exact absurd (by omega) hp
    · have hlt : y.pl.toNat < m := by omega
      rw [h.items] at he
      simp only [Items.take, take_getB hlt, take_getI hlt] at he
      exact .inr ⟨he.1, decide_eq_true he.2⟩

theorem kp_mark {it : Items} {m : Nat} {l : Int} {y : Sr} (h : KpI it m l y) (he : y.ends = false) (hm : y.it.im.getD y.pl.toNat false = true) (f' : Int) (hf : f' = y.f ∨ (outT (tmOf y) = false ∧ f' = max y.f (tmOf y - y.late))) (hn : next y = mv y f') :
    lgl ⟨it, m, mv y f', l, y.f, y.pl, noRec, 3⟩ = true := by
  obtain ⟨g1, g2, g3, g4, g5, g6, g7, g8, g9⟩ := okSr_iff.1 h.ok
  have n1 := next_ok h.ok
  rw [hn] at n1
  have hpl := g9 h.over
  have hl := h.len
  have hlt : y.pl < m := by
    simp only [Sr.ends, Bool.or_eq_false_iff, decide_eq_false_iff_not] at he
    have := he.1
    omega
  have hlt' : y.pl.toNat < m := by omega
  have hle : y.f ≤ f' := by
    rcases hf with rfl | ⟨_, rfl⟩
    · exact Int.le_refl _
    · exact Int.le_max_left _ _
  refine lgl_of n1.1 h.le g7 (by simp only; omega) rfl hle (by simp only; omega) (.inr (.inl ⟨rfl, rfl, ?_⟩))
  rw [h.items] at hm
  simp only [Items.take, take_getB hlt'] at hm
  have ht : tmOf y = it.tm.getD y.pl.toNat 0 := by
    rw [tmOf, h.items]; exact take_getI hlt'
  simp only [lgl3, Kb.im, Kb.tm, mv, Bool.and_eq_true, Bool.or_eq_true, decide_eq_true_eq, hm, true_and]
  refine ⟨hlt, ?_⟩
  rcases hf with hf | ⟨ho, hf⟩
  · exact .inl (decide_eq_true hf)
  · by_cases hc : tmOf y - y.late ≤ y.f
    · exact .inl (decide_eq_true (hf.trans (Int.max_eq_left hc)))
    rw [Int.max_eq_right (by omega)] at hf
    refine .inr (decide_eq_true ?_)
    show f' = wr .i64 (it.tm.getD y.pl.toNat 0 - wr .i64 (Int.tmod l 51))
    rw [ht] at ho hf
    obtain ⟨o1, o2⟩ := out_no.1 ho
    have hlate := h.late
    have e1 : wr .i64 (Int.tmod l 51) = y.late := by rw [← hlate, wr_in ⟨by omega, by omega⟩]
    have e2 : wr .i64 (it.tm.getD y.pl.toNat 0 - y.late) = it.tm.getD y.pl.toNat 0 - y.late := in_tm h.ok o1 o2
    rw [e1, e2]
    exact hf

theorem kp_recs {it : Items} {m : Nat} {l : Int} {y : Sr} (h : KpI it m l y) (he : y.ends = false) (hm : y.it.im.getD y.pl.toNat false = false) : y.pl < m ∧ rtOf y = it.rt.getD y.pl.toNat 0 ∧ vlOf y = it.vl.getD y.pl.toNat 0 ∧ ∀ (r : Rec6) (k : Int), r.key = kyOf y → r.side = sdOf y → lglR ⟨it, m, mv y y.f, l, y.f, y.pl, r, k⟩ = true := by
  obtain ⟨g1, g2, g3, g4, g5, g6, g7, g8, g9⟩ := okSr_iff.1 h.ok
  have hpl := g9 h.over
  have hl := h.len
  have hlt : y.pl < m := by
    simp only [Sr.ends, Bool.or_eq_false_iff, decide_eq_false_iff_not] at he
    have := he.1
    omega
  have hlt' : y.pl.toNat < m := by omega
  rw [h.items] at hm
  simp only [Items.take, take_getB hlt'] at hm
  refine ⟨hlt, by rw [rtOf, h.items]; exact take_getI hlt', by rw [vlOf, h.items]; exact take_getI hlt', fun r k hk hs => ?_⟩
  have e1 : kyOf y = it.ky.getD y.pl.toNat 0 := by rw [kyOf, h.items]; exact take_getI hlt'
  have e2 : sdOf y = it.sd.getD y.pl.toNat 0 := by rw [sdOf, h.items]; exact take_getI hlt'
  simp only [lglR, Kb.im, mv, Bool.and_eq_true, decide_eq_true_eq, hm, Bool.not_false, true_and]
  exact ⟨hlt, hk.trans e1, hs.trans e2⟩
end Go.Proofs.Ytbpcfjhnkjobaaa
