/- align: AlignCuts: a row that is built is frozen. -/
import Derived.Test.YtbdjcekekhgnkaaT24f
set_option linter.unusedSimpArgs false
namespace Go.Proofs.Ytbdjcekekhgnkaa
open Ab

def Tc.put (T : Tc) (F : List (List Int)) : Tc := { T with F := F }

theorem mkT_all {p : AVal → Prop} (h0 : p .undef) {n : Nat} : ∀ {l : List (Nat × AVal)}, (∀ q ∈ l, p q.2) → ∀ v ∈ mkT n l, p v
  | [], _, v, hv => by rw [List.eq_of_mem_replicate hv]; exact h0
  | (j, u) :: l, h, v, hv => by
    rcases List.mem_or_eq_of_mem_set hv with hv | rfl
    · exact mkT_all h0 (fun q hq => h q (by simp [hq])) v hv
    · exact h (j, v) (by simp)

theorem tabF_flat (T : Tc) (p0 : Nat) : ∀ t p, ¬ (t = 5 ∧ p0 ≤ p) → ∀ j v, cellOf [tabF T t p] j = some v → flat 0 5 p0 v = true := by
  intro tid par _ j v hv
  obtain ⟨_, s, hs, rfl⟩ := cellOf_seg hv
  rcases tid with _ | _ | _ | _ | _ | _ | tid <;> simp only [tabF, Nat.mod_one, List.getElem?_cons_zero, Option.some.injEq] at hs <;> subst hs <;> simp only [colAt] <;> first | rfl | (split <;> rfl)

theorem tabF_put (T : Tc) (row : List Int) : ∀ t p, ¬ (t = 5 ∧ T.F.length ≤ p) → tabF (T.put (T.F ++ [row])) t p = tabF T t p := by
  intro t p h
  rcases t with _ | _ | _ | _ | _ | _ | t <;> try rfl
  have hp : p < T.F.length := by omega
  have e : (T.F ++ [row]).getD p [] = T.F.getD p [] := by simp [List.getD_eq_getElem?_getD, List.getElem?_append_left hp]
  simp only [tabF, Tc.put, e]

theorem tabF_new (T : Tc) (row : List Int) : tabF (T.put (T.F ++ [row])) 5 T.F.length = ⟨row.length, 1, [.int .i64 row]⟩ := by
  have e : (T.F ++ [row]).getD T.F.length [] = row := by simp [List.getD_eq_getElem?_getD]
  simp only [tabF, Tc.put, e]

theorem tabF_rest (T : Tc) (row : List Int) : ∀ p, T.F.length < p → (tabF (T.put (T.F ++ [row])) 5 p).n = 0 ∧ (tabF (T.put (T.F ++ [row])) 5 p).WF := by
  intro p hp
  have e : (T.F ++ [row]).getD p [] = [] := by rw [List.getD_eq_getElem?_getD, List.getElem?_eq_none (by rw [List.length_append, List.length_singleton]; omega)]; rfl
  simp only [tabF, Tc.put, e]
  exact ⟨rfl, rfl, fun c hc => by rw [List.mem_singleton] at hc; subst hc; rfl⟩

theorem rB_wf (F : List (List Int)) : WFs [⟨F.length, 1, [.subs 5 (F.map List.length) (F.map fun _ => false)]⟩] := by
  intro s hs
  rw [List.mem_singleton] at hs; subst hs
  exact ⟨rfl, fun c hc => by rw [List.mem_singleton] at hc; subst hc; simp [Col.len]⟩

theorem rB_at {F : List (List Int)} {j : Nat} {v : AVal} (h : cellOf [⟨F.length, 1, [.subs 5 (F.map List.length) (F.map fun _ => false)]⟩] j = some v) : j < F.length ∧ v = .slice (.ro 5 j 0 0) (F.getD j []).length none := by
  obtain ⟨h1, s, hs, rfl⟩ := cellOf_seg h
  simp only [Nat.mul_one] at h1
  simp only [Nat.mod_one, List.getElem?_cons_zero, Option.some.injEq] at hs
  subst hs
  refine ⟨h1, ?_⟩
  simp [colAt, List.getD_eq_getElem?_getD, List.getElem?_map, List.getElem?_eq_getElem h1, Nat.div_one]

/-- the first row -/
theorem bec_one (row : List Int) : BecomesB 2 5 0 (.segs [⟨1, 1, [.val [.slice (.own 2 0 0 1) row.length none]]⟩]) (rB [row]) := by
  refine ⟨_, _, rfl, rfl, rfl, rB_wf [row], fun j v' hv => ?_⟩
  obtain ⟨h1, rfl⟩ := rB_at hv
  have : j = 0 := by simpa using h1
  subst this
  have e1 : Nat.ble (0 + 1) (1 * 1) = true := rfl
  exact ⟨.slice (.own 2 0 0 1) row.length none, by simp only [cellOf, e1, Nat.mod_one, List.getElem?_cons_zero, Nat.div_one, colAt]; rfl, .inr ⟨row.length, none, rfl, rfl⟩⟩

/-- one row more -/
theorem bec_more (F : List (List Int)) (row : List Int) :
    BecomesB 2 5 F.length (.segs [⟨F.length + 1, 1, [.mix 5 (List.take F.length (F.map List.length)) (List.take F.length (F.map fun _ => false)) (.slice (.own 2 0 0 1) row.length none)]⟩]) (rB (F ++ [row])) := by
  refine ⟨_, _, rfl, rfl, by simp [total], rB_wf (F ++ [row]), fun j v' hv => ?_⟩
  obtain ⟨h1, rfl⟩ := rB_at hv
  rw [List.length_append, List.length_singleton] at h1
  have e1 : Nat.ble (j + 1) ((F.length + 1) * 1) = true := Nat.ble_eq_true_of_le (by omega)
  have e2 : ∀ c : Col, ([c] : List Col)[j % 1]? = some c := fun c => by rw [Nat.mod_one]; rfl
  have hc : cellOf [⟨F.length + 1, 1, [.mix 5 (List.take F.length (F.map List.length)) (List.take F.length (F.map fun _ => false)) (.slice (.own 2 0 0 1) row.length none)]⟩] j = some (colAt (.mix 5 (List.take F.length (F.map List.length)) (List.take F.length (F.map fun _ => false)) (.slice (.own 2 0 0 1) row.length none)) j) := by
    simp only [cellOf, e1, Nat.mod_one, List.getElem?_cons_zero, Nat.div_one]
  refine ⟨_, hc, ?_⟩
  rcases Nat.lt_or_ge j F.length with hj | hj
  · left
    have e3 : Nat.ble (j + 1) (List.take F.length (F.map List.length)).length = true := Nat.ble_eq_true_of_le (by simp; omega)
    have e4 : (List.take F.length (F.map fun _ => false)).getD j true = false := by simp [List.getD_eq_getElem?_getD, List.getElem?_take, hj, List.getElem?_map]
    have e5 : (List.take F.length (F.map List.length)).getD j 0 = ((F ++ [row]).getD j []).length := by
      simp [List.getD_eq_getElem?_getD, List.getElem?_take, hj, List.getElem?_map, List.getElem?_append_left hj]
    simp only [colAt, e3, e4, e5, and_true]
    have hb : Nat.ble F.length j = false := by
      cases h : Nat.ble F.length j with
      | false => rfl
      | true => have := Nat.le_of_ble_eq_true h; omega
    simp [flat, flatA, hb]
  · right
    have hj' : j = F.length := by omega
    subst hj'
    have e3 : Nat.ble (F.length + 1) (List.take F.length (F.map List.length)).length = false := by
      cases h : Nat.ble (F.length + 1) (List.take F.length (F.map List.length)).length with
      | false => rfl
      | true => have := Nat.le_of_ble_eq_true h; rw [List.length_take, List.length_map] at this; omega
    refine ⟨row.length, none, by simp only [colAt, e3], by simp [List.getD_eq_getElem?_getD]⟩

theorem al_same (x : Al) (p0 : Nat) : BecomesB 2 5 p0 x.blk x.blk ∨ ¬ (WFs [⟨1, 1, [.int .i64 [x.n]]⟩, ⟨16, 1, [.bool x.c]⟩, ⟨1, 1, [.int .i64 [x.m]]⟩, ⟨16, 1, [.bool x.d]⟩, ⟨1, 1, [.int .i64 [x.l]]⟩]) := by
  by_cases hw : WFs [⟨1, 1, [.int .i64 [x.n]]⟩, ⟨16, 1, [.bool x.c]⟩, ⟨1, 1, [.int .i64 [x.m]]⟩, ⟨16, 1, [.bool x.d]⟩, ⟨1, 1, [.int .i64 [x.l]]⟩]
  · left
    refine ⟨_, _, rfl, rfl, rfl, hw, fun j v' hv => ⟨v', hv, .inl ⟨?_, rfl⟩⟩⟩
    have : ∀ (l : List Seg), (∀ s ∈ l, ∀ c ∈ s.cols, (∃ k xs, c = .int k xs) ∨ ∃ xs, c = .bool xs) → ∀ j v, cellOf l j = some v → flat 2 5 p0 v = true := by
      intro l
      induction l with
      | nil => intro _ j v h; cases h
      | cons s l ih =>
        intro hl j v h
        simp only [cellOf] at h
        split at h
        · split at h
          · rename_i c hc
            simp only [Option.some.injEq] at h
            subst h
            rcases hl s (by simp) c (List.mem_of_getElem? hc) with ⟨k, xs, rfl⟩ | ⟨xs, rfl⟩ <;> rfl
          · cases h
        · exact ih (fun s' hs' => hl s' (by simp [hs'])) _ _ h
    refine this _ ?_ j v' hv
    intro s hs c hc
    simp only [List.mem_cons, List.not_mem_nil, or_false] at hs
    rcases hs with rfl | rfl | rfl | rfl | rfl <;> (rw [List.mem_singleton] at hc; subst hc) <;> first | exact .inl ⟨_, _, rfl⟩ | exact .inr ⟨_, rfl⟩
  · exact .inr hw

theorem freeze_turn {T : Tc} {x : Al} {row : List Int} {ts : List (Nat × AVal)} {B : Blk} (hts : ∀ q ∈ ts, flat 2 5 T.F.length q.2 = true) (hB : BecomesB 2 5 T.F.length B (rB (T.F ++ [row]))) :
    Turns (tabF T) (.normal, mkT 251 ts, [(0, some x.blk), (1, some B), (2, some (.segs [⟨row.length, 1, [.int .i64 row]⟩]))]) (tabF (T.put (T.F ++ [row]))) (.normal, mkT 251 ts, hp 0 [x.blk, rB (T.F ++ [row])]) := by
  refine ⟨rfl, fun ra base ι w nb a hf => ?_⟩
  have hxB : BecomesB 2 5 T.F.length x.blk x.blk := by
    rcases al_same x T.F.length with h | h
    · exact h
    · obtain ⟨_, _, _, _, _, _, _, _, _, _, hw, _⟩ := hf.rel.own 0 x.blk rfl
      exact absurd hw h
  have hBs : ∀ i B', view (hp 0 [x.blk, rB (T.F ++ [row])]) i = some B' → ∃ B0, view [(0, some x.blk), (1, some B), (2, some (.segs [⟨row.length, 1, [.int .i64 row]⟩]))] i = some B0 ∧ BecomesB 2 5 T.F.length B0 B' := by
    intro i B' hv
    rcases i with _ | _ | i
    · simp only [hp, view, Nat.beq] at hv ⊢
      simp only [Option.some.injEq] at hv
      subst hv
      exact ⟨_, rfl, hxB⟩
    · simp only [hp, view, Nat.beq, Nat.zero_add] at hv ⊢
      simp only [Option.some.injEq] at hv
      subst hv
      exact ⟨_, rfl, hB⟩
    · simp [hp, view, Nat.beq] at hv
  obtain ⟨ra', base', ι', b, o, F, H, K⟩ := hf.rel.freeze (n := 2) (t0 := 5) (p0 := T.F.length) (E' := tabF (T.put (T.F ++ [row]))) (h' := hp 0 [x.blk, rB (T.F ++ [row])]) (m := row.length) (k := .i64) (xs := row) rfl
    (tabF_put T row) (tabF_new T row) (tabF_rest T row) (tabF_flat T _) (fun i => by rw [hp_ids]; simp) hBs
  exact ⟨ra', base', ι', ⟨H, F.relL (mkT_all (p := fun v => flat 2 5 T.F.length v = true) rfl hts) hf.tmps, hf.defs.any H, hf.size⟩, K⟩

end Go.Proofs.Ytbdjcekekhgnkaa
