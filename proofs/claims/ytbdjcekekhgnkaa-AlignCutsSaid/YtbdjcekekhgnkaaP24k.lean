/- align: AlignCuts: what may be taken: the loop keeps its contract. -/
import Derived.Test.YtbdjcekekhgnkaaP24j
import Derived.Test.YtbdjcekekhgnkaaQ24b
set_option linter.unusedSimpArgs false
namespace Go.Proofs.Ytbdjcekekhgnkaa
open Ab

theorem myV_ne {ms : List Int} (h : ms ≠ []) : myV ms = .slice (.own 3 0 0 1) ms.length none := by
  cases ms with
  | nil => exact absurd rfl h
  | cons m r => rfl
theorem myB_ne {ms : List Int} (h : ms ≠ []) : myB ms = [elI ms] := by
  cases ms with
  | nil => exact absurd rfl h
  | cons m r => rfl
theorem myN_ne {T : Tc} {y : Md} {ms : List Int} (h : ms ≠ []) (k : Nat) : myN T y ms k ≠ [] := by
  unfold myN; split
  · simp
  · exact h

/-- those of the first k that may be taken -/
def myL (T : Tc) (y : Md) : Nat → List Int
  | 0 => []
  | k + 1 => myN T y (myL T y k) k

theorem myL_len (T : Tc) (y : Md) : ∀ k, (myL T y k).length ≤ k
  | 0 => Nat.le_refl _
  | k + 1 => by
    have := myL_len T y k
    simp only [myL, myN]; split
    · rw [List.length_append, List.length_singleton]; omega
    · omega

theorem myL_mem (T : Tc) (y : Md) : ∀ k v, v ∈ myL T y k ↔ ∃ j, j < k ∧ v = (j : Int) ∧ may T y j = true
  | 0, v => by simp [myL]
  | k + 1, v => by
    have ih := myL_mem T y k v
    simp only [myL, myN]
    split
    · rename_i hm
      rw [List.mem_append, ih, List.mem_singleton]
      constructor
      · rintro (⟨j, h1, h2, h3⟩ | rfl)
        · exact ⟨j, by omega, h2, h3⟩
        · exact ⟨k, by omega, rfl, hm⟩
      · rintro ⟨j, h1, h2, h3⟩
        rcases Nat.lt_or_ge j k with h | h
        · exact .inl ⟨j, h, h2, h3⟩
        · have : j = k := by omega
          subst this; exact .inr h2
    · rename_i hm
      rw [ih]
      constructor
      · rintro ⟨j, h1, h2, h3⟩; exact ⟨j, by omega, h2, h3⟩
      · rintro ⟨j, h1, h2, h3⟩
        rcases Nat.lt_or_ge j k with h | h
        · exact ⟨j, h, h2, h3⟩
        · have : j = k := by omega
          subst this; exact absurd h3 hm

theorem myL_is {T : Tc} {y : Md} (h : okSync T y) : MayIs T y (myL T y T.F.length) := by
  obtain ⟨hsh, _, k, hk, hm⟩ := h
  have hl := myL_len T y T.F.length
  have hK : T.F.length ≤ 20 := hsh.2.2.2.2.1
  refine ⟨List.length_pos_of_mem ((myL_mem T y _ _).2 ⟨k, hk, rfl, hm⟩), by omega, fun j hj => ?_⟩
  rw [List.getD_eq_getElem?_getD, List.getElem?_eq_getElem hj]
  obtain ⟨i, h1, h2, h3⟩ := (myL_mem T y _ _).1 (List.getElem_mem hj)
  simp only [Option.getD_some, h2]
  exact ⟨by omega, by omega, by rw [Int.toNat_natCast]; exact h3⟩

section
variable {ra : Nat → Nat → Nat × Nat} {base : Nat}

theorem my_round {T : Tc} (h : Ways T) (y : Md) (hy : okSync T y) {ms : List Int} (hms : ms.length ≤ 100) {k : Nat} (hk : k ≤ T.F.length) {Q : State → Prop}
    (q1 : k < T.F.length → Q (.normal, mkT 251 (myS y (myN T y ms k) (k + 1)), hp 0 (y.bs ++ myB (myN T y ms k)))) (q2 : k = T.F.length → Q (.exit 8, mkT 251 (y.ins ++ [(15, myV ms)]), hp 0 (y.bs ++ myB ms))) :
    Takes Try.prog (tabF T) ra base 0 (codeOf 4 (false :: pMy)) (mkT 251 (myS y ms k)) (hp 0 (y.bs ++ myB ms)) Q := by
  by_cases hne : ms = []
  · subst hne
    rcases hy.1.1 with hO | ⟨q, hO⟩
    · exact my_round_nn h y hy hO hk q1 q2
    · exact my_round_sn h y hy hO hk q1 q2
  · rw [myS, myV_ne hne, myB_ne hne]
    rw [myS, myV_ne (myN_ne hne k), myB_ne (myN_ne hne k)] at q1
    rw [myV_ne hne, myB_ne hne] at q2
    rcases hy.1.1 with hO | ⟨q, hO⟩
    · exact my_round_ns h y hy hO hms hk q1 q2
    · exact my_round_ss h y hy hO hms hk q1 q2

theorem my_takes {T : Tc} (h : Ways T) (y : Md) (hy : (myD T).pre y = true) : Takes Try.prog (tabF T) ra base 0 (.loop (codeOf 4 (false :: pMy))) (mkT 251 ((myD T).ins y)) (hp 0 ((myD T).blks y)) fun z => PostL 251 y z (myD T).alts := by
  classical
  have hy' : okSync T y := by simpa [myD, okSyncB] using hy
  have hK : T.F.length ≤ 20 := hy'.1.2.2.2.2.1
  refine takes_loop (fun m ts h' => ∃ k : Nat, k ≤ T.F.length ∧ m = T.F.length - k + 1 ∧ ts = mkT 251 (myS y (myL T y k) k) ∧ h' = hp 0 (y.bs ++ myB (myL T y k))) (fun ts h' => by rintro ⟨i, _, h, _⟩; omega) (fun m ts h' => ?_) (j := T.F.length + 1) ⟨0, by omega, by omega, rfl, by simp [myL, myB, myD]⟩
  rintro ⟨k, k1, k2, rfl, rfl⟩
  have hl := myL_len T y k
  refine my_round h y hy' (by omega) k1 (fun hk => ⟨k + 1, by omega, by omega, rfl, rfl⟩) (fun hk => ?_)
  subst hk
  have hM := myL_is hy'
  have hne : myL T y T.F.length ≠ [] := fun e => by have := hM.1; rw [e] at this; simp at this
  refine ⟨myL T y T.F.length, hM, ?_⟩
  rw [myV_ne hne, myB_ne hne]

theorem TC_ok {T : Tc} (h : Ways T) : ToldsOK Try.prog (tabF T) ra base 0 (TC T) :=
  sumT_ok (sumT_ok noT_ok rfl (toldR_ok (c := .loop (codeOf 4 (false :: pMy))) (by kernel_rfl) fun y hy => my_takes h y hy)) rfl (toldR_ok (c := .loop (codeOf 4 (false :: pCh))) (by kernel_rfl) fun y hy => ch_takes h y hy)
end

end Go.Proofs.Ytbdjcekekhgnkaa
