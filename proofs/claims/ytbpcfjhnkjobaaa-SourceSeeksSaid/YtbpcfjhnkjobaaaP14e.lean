/- source: drafts: the loop keeps its contract; all that is told. -/
import Derived.Test.YtbpcfjhnkjobaaaP14d
set_option linter.unusedSimpArgs false
namespace Go.Proofs.Ytbpcfjhnkjobaaa
open Ab

theorem dIms_len (T : Tb) (k : Nat) : (dIms T k).length = k := by simp [dIms]
theorem dTms_len (T : Tb) (k : Nat) : (dTms T k).length = k := by simp [dTms]
theorem dRts_len (T : Tb) (k : Nat) : (dRts T k).length = k := by simp [dRts]
theorem firstI_len (l : List Int) (k : Nat) : (firstI l k).length = k := by simp [firstI]
theorem firstB_len (l : List Bool) (k : Nat) : (firstB l k).length = k := by simp [firstB]
theorem take_full {α : Type} {l : List α} {k : Nat} (h : l.length = k) : l.take k = l := List.take_of_length_le (by omega)

theorem draft_lens (T : Tb) (k : Nat) : lensI (draft T k) k = true := by
  simp only [lensI, draft, dIms_len, dTms_len, dRts_len, firstI_len, firstB_len, decide_true, Bool.and_self]
theorem draft_im (T : Tb) (k : Nat) : (draft T k).im.length = k := dIms_len T k

theorem draft_succ (T : Tb) (k : Nat) : (draft T (k + 1)).blk = .segs [⟨k + 1, 8, [.bool (dIms T k ++ [dIm T k]), .int .i64 (dTms T k ++ [dTm T k]), .int .u32 (firstI T.it.ky k ++ [T.it.ky.getD k 0]), .int .i64 (dRts T k ++ [dRt T k]), .int .i64 (firstI T.it.vl k ++ [T.it.vl.getD k 0]),
    .int .u8 (firstI T.it.sd k ++ [T.it.sd.getD k 0]), .bool (firstB T.it.er k ++ [T.it.er.getD k false]), .bool (firstB T.it.lt k ++ [T.it.lt.getD k false])]⟩] := by
  simp only [Items.blk, draft, dIms, dTms, dRts, firstI, firstB, List.range_succ, List.map_append, List.map_cons, List.map_nil, List.length_append, List.length_map, List.length_range, List.length_cons, List.length_nil, Nat.zero_add]

theorem dr_rec {T : Tb} {k : Nat} (h : isRec T k = true) : dIm T k = false ∧ dTm T k = T.it.tm.getD k 0 ∧ dRt T k = wr .i64 (T.t.getD k 0) := by
  simp only [dIm, dTm, dRt, if_pos h, and_self]
theorem dr_mk {T : Tb} {k : Nat} (h : isRec T k = false) (h' : isMk T k = true) : dIm T k = true ∧ dTm T k = wr .i64 (T.t.getD k 0) ∧ dRt T k = T.it.rt.getD k 0 := by
  simp only [dIm, dTm, dRt, h, h', Bool.true_or, if_true, Bool.false_eq_true, if_false, and_self]
theorem dr_far {T : Tb} {k : Nat} (h : isRec T k = false) (h' : isMk T k = false) (h6 : cls T k = 6) : dIm T k = true ∧ dTm T k = far ∧ dRt T k = T.it.rt.getD k 0 := by
  simp only [dIm, dTm, dRt, h, h', h6, decide_true, Bool.or_true, if_true, Bool.false_eq_true, if_false, and_self]
theorem dr_any {T : Tb} {k : Nat} (h : isRec T k = false) (h' : isMk T k = false) (h6 : ¬ cls T k = 6) : dIm T k = T.it.im.getD k false ∧ dTm T k = T.it.tm.getD k 0 ∧ dRt T k = T.it.rt.getD k 0 := by
  simp only [dIm, dTm, dRt, h, h', h6, decide_false, Bool.or_false, Bool.false_eq_true, if_false, and_self]

theorem isRec_iff {T : Tb} {k : Nat} : isRec T k = true ↔ cls T k = 0 ∨ cls T k = 1 ∨ cls T k = 2 ∨ cls T k = 3 := by
  simp only [isRec, Bool.or_eq_true, decide_eq_true_eq]
theorem isMk_iff {T : Tb} {k : Nat} : isMk T k = true ↔ cls T k = 4 ∨ cls T k = 5 := by
  simp only [isMk, Bool.or_eq_true, decide_eq_true_eq]

theorem okT_w {T : Tb} (h : okT T = true) : T.t.length = T.w.length ∧ lensI T.it T.w.length = true := by
  simpa only [okT, Bool.and_eq_true, decide_eq_true_eq] using h

def drV : Nat → AVal
  | 0 => .nils
  | k + 1 => sl 0 (k + 1)
def drAt (T : Tb) (k : Nat) : List (Nat × AVal) := [(0, .slice (.ro 0 0 0 0) T.w.length none), (3, drV k), (4, .int .i64 (k : Nat))]
def drHp (T : Tb) (k : Nat) : List Blk := match k with
  | 0 => []
  | k + 1 => [(draft T (k + 1)).blk]

theorem tabT_plain (T : Tb) : Plain (tabT T) := by
  intro tid par j v hv
  obtain ⟨_, s, hs, rfl⟩ := cellOf_seg hv
  cases tid with
  | zero =>
    simp only [tabT] at hs
    have : j % 10 < 10 := Nat.mod_lt _ (by decide)
    generalize j % 10 = q at hs this
    have h : q = 0 ∨ q = 1 ∨ q = 2 ∨ q = 3 ∨ q = 4 ∨ q = 5 ∨ q = 6 ∨ q = 7 ∨ q = 8 ∨ q = 9 := by omega
    rcases h with e | e | e | e | e | e | e | e | e | e <;> rw [e] at hs <;> simp at hs <;> subst hs <;> rfl
  | succ tid =>
    simp only [tabT] at hs
    have : j % 1 = 0 := Nat.mod_one j
    rw [this] at hs
    simp at hs
    subst hs; rfl

section
variable {ra : Nat → Nat → Nat × Nat} {base : Nat}

theorem dr_step (T : Tb) {k : Nat} (hk : k ≤ many T) :
    Takes Try.prog (tabT T) ra base 0 (codeOf 8 [false, false, true, false, true, true]) (mkT 58 (drAt T k)) (hp 0 (drHp T k)) fun z =>
      (k < many T ∧ z = (.normal, mkT 58 (drAt T (k + 1)), hp 0 (drHp T (k + 1)))) ∨ (k = many T ∧ z = (.exit 0, mkT 58 [(3, drV k)], hp 0 (drHp T k))) := by
  have hE := tabT_plain T
  have hm : k < many T ↔ k < T.w.length ∧ k < 1002 := by simp only [many]; omega
  cases k with
  | zero =>
    refine takes_of_tree hE (W_ok sumNone_ok noL_ok) (f := 8) (.inr (by kernel_rfl)) (hp_below _) (dr_round0 T T.w.length) ?_
    have hc : Int.tmod (T.w.getD 0 0) 8 = cls T 0 := rfl
    rw [hc]
    simp only [Tree.holds, decide_eq_true_eq, decide_eq_false_iff_not]
    refine ⟨fun a => ⟨a, by omega, a, by omega, a, by omega, ?_⟩, fun a => .inr ⟨by omega, rfl⟩⟩
    have hlt : 0 < many T := hm.2 ⟨by omega, by decide⟩
    have leaf : ∀ (b : Bool) (t r : Int), dIm T 0 = b → dTm T 0 = t → dRt T 0 = r → ((AExit.normal, mkT 58 [(0, .slice (.ro 0 0 0 0) T.w.length none), (3, .slice (.own 0 0 0 8) 1 none), (4, .int .i64 1)], [(0, some (.segs [⟨1, 8, [.bool [b], .int .i64 [t], .int .u32 [T.it.ky.getD 0 0], .int .i64 [r], .int .i64 [T.it.vl.getD 0 0], .int .u8 [T.it.sd.getD 0 0], .bool [T.it.er.getD 0 false], .bool [T.it.lt.getD 0 false]]⟩]))]) : State) =
        (.normal, mkT 58 (drAt T 1), hp 0 (drHp T 1)) := by
      rintro b t r rfl rfl rfl
      simp only [drHp, draft_succ]; rfl
    refine ⟨fun c => ⟨c, .inl ⟨hlt, ?_⟩⟩, fun _ => ⟨fun c => ⟨c, .inl ⟨hlt, ?_⟩⟩, fun _ => ⟨fun c => ⟨c, .inl ⟨hlt, ?_⟩⟩, fun _ => ⟨fun c => .inl ⟨hlt, ?_⟩, fun _ => ⟨fun c => ⟨c, .inl ⟨hlt, ?_⟩⟩, fun _ => ⟨fun c => .inl ⟨hlt, ?_⟩, fun _ => ⟨fun c => .inl ⟨hlt, ?_⟩, fun c => .inl ⟨hlt, ?_⟩⟩⟩⟩⟩⟩⟩⟩
    · obtain ⟨e1, e2, e3⟩ := dr_rec (T := T) (k := 0) (isRec_iff.2 (by omega)); exact leaf _ _ _ e1 e2 e3
    · obtain ⟨e1, e2, e3⟩ := dr_rec (T := T) (k := 0) (isRec_iff.2 (by omega)); exact leaf _ _ _ e1 e2 e3
    · obtain ⟨e1, e2, e3⟩ := dr_rec (T := T) (k := 0) (isRec_iff.2 (by omega)); exact leaf _ _ _ e1 e2 e3
    · obtain ⟨e1, e2, e3⟩ := dr_rec (T := T) (k := 0) (isRec_iff.2 (by omega)); exact leaf _ _ _ e1 e2 e3
    · obtain ⟨e1, e2, e3⟩ := dr_mk (T := T) (k := 0) (Bool.eq_false_iff.2 fun h => by have := isRec_iff.1 h; omega) (isMk_iff.2 (by omega)); exact leaf _ _ _ e1 e2 e3
    · obtain ⟨e1, e2, e3⟩ := dr_mk (T := T) (k := 0) (Bool.eq_false_iff.2 fun h => by have := isRec_iff.1 h; omega) (isMk_iff.2 (by omega)); exact leaf _ _ _ e1 e2 e3
    · obtain ⟨e1, e2, e3⟩ := dr_far (T := T) (k := 0) (Bool.eq_false_iff.2 fun h => by have := isRec_iff.1 h; omega) (Bool.eq_false_iff.2 fun h => by have := isMk_iff.1 h; omega) c; exact leaf _ _ _ e1 e2 e3
    · obtain ⟨e1, e2, e3⟩ := dr_any (T := T) (k := 0) (Bool.eq_false_iff.2 fun h => by have := isRec_iff.1 h; omega) (Bool.eq_false_iff.2 fun h => by have := isMk_iff.1 h; omega) c; exact leaf _ _ _ e1 e2 e3
  | succ j =>
    have e0 : (mkT 58 (drAt T (j + 1))) = mkT 58 [(0, .slice (.ro 0 0 0 0) T.w.length none), (3, sl 0 (draft T (j + 1)).im.length), (4, .int .i64 ((j + 1 : Nat) : Int))] := by rw [draft_im]; rfl
    rw [e0]
    refine takes_of_tree hE (W_ok sumNone_ok noL_ok) (f := 8) (.inr (by kernel_rfl)) (hp_below _) (dr_round1 T T.w.length ((j + 1 : Nat) : Int) (draft T (j + 1))) ?_
    generalize hkk : j + 1 = k at *
    have hk0 : 0 < k := by omega
    have hw : k < 1002 → wr .i64 ((k : Int) + 1) = ((k + 1 : Nat) : Int) := fun h => by rw [wr_in ⟨by omega, by omega⟩]; omega
    simp only [toNat_nat, draft, dIms_len, List.drop_zero, take_full (dIms_len T k), take_full (dTms_len T k), take_full (dRts_len T k), take_full (firstI_len _ k), take_full (firstB_len _ k)]
    have hc : Int.tmod (T.w.getD k 0) 8 = cls T k := rfl
    rw [hc]
    simp only [Tree.holds, decide_eq_true_eq, decide_eq_false_iff_not, Bool.and_eq_true]
    have leaf : k < 1002 → ∀ (b : Bool) (t r : Int), dIm T k = b → dTm T k = t → dRt T k = r → ((AExit.normal, mkT 58 [(0, .slice (.ro 0 0 0 0) T.w.length none), (3, .slice (.own 0 0 0 8) (k + 1) none), (4, .int .i64 (wr .i64 ((k : Int) + 1)))], [(0, some (.segs [⟨k + 1, 8, [.bool (dIms T k ++ [b]), .int .i64 (dTms T k ++ [t]), .int .u32 (firstI T.it.ky k ++ [T.it.ky.getD k 0]), .int .i64 (dRts T k ++ [r]), .int .i64 (firstI T.it.vl k ++ [T.it.vl.getD k 0]), .int .u8 (firstI T.it.sd k ++ [T.it.sd.getD k 0]), .bool (firstB T.it.er k ++ [T.it.er.getD k false]), .bool (firstB T.it.lt k ++ [T.it.lt.getD k false])]⟩]))]) : State) =
        (.normal, mkT 58 (drAt T (k + 1)), hp 0 (drHp T (k + 1))) := by
      rintro h b t r rfl rfl rfl
      rw [hw h]
      simp only [drHp, draft_succ]; rfl
    have ending : k = many T → ((AExit.exit 0, mkT 58 [(3, .slice (.own 0 0 0 8) k none)], [(0, some (.segs [⟨k, 8, [.bool (dIms T k), .int .i64 (dTms T k), .int .u32 (firstI T.it.ky k), .int .i64 (dRts T k), .int .i64 (firstI T.it.vl k), .int .u8 (firstI T.it.sd k), .bool (firstB T.it.er k), .bool (firstB T.it.lt k)]⟩]))]) : State) = (.exit 0, mkT 58 [(3, drV k)], hp 0 (drHp T k)) := by
      intro _
      subst hkk
      simp only [drHp, Items.blk, draft, dIms_len]; rfl
    refine ⟨fun a => ⟨fun a2 => ?_, fun a2 => .inr ⟨by omega, ending (by omega)⟩⟩, fun a => .inr ⟨by omega, ending (by omega)⟩⟩
    have h2 : k < 1002 := by omega
    have hlt : k < many T := hm.2 ⟨by omega, h2⟩
    have ex : (k + 1) * 48 ≤ 35184372088832 := by omega
    have ey : 0 + k ≤ k := by omega
    have ez : (0 ≤ (k : Int) ∧ (k : Int) < T.w.length) ∧ k < T.w.length := by omega
    refine ⟨ez.1, ez.2, ez.1, ez.2, ez.1, ez.2, fun c => ⟨c, ex, ey, .inl ⟨hlt, ?_⟩⟩, fun _ => ⟨fun c => ⟨c, ex, ey, .inl ⟨hlt, ?_⟩⟩, fun _ => ⟨fun c => ⟨c, ex, ey, .inl ⟨hlt, ?_⟩⟩, fun _ => ⟨fun c => ⟨ex, ey, .inl ⟨hlt, ?_⟩⟩, fun _ => ⟨fun c => ⟨c, ex, ey, .inl ⟨hlt, ?_⟩⟩, fun _ => ⟨fun c => ⟨ex, ey, .inl ⟨hlt, ?_⟩⟩, fun _ => ⟨fun c => ⟨ex, ey, .inl ⟨hlt, ?_⟩⟩, fun c => ⟨ex, ey, .inl ⟨hlt, ?_⟩⟩⟩⟩⟩⟩⟩⟩⟩
    · obtain ⟨e1, e2, e3⟩ := dr_rec (T := T) (k := k) (isRec_iff.2 (by omega)); exact leaf h2 _ _ _ e1 e2 e3
    · obtain ⟨e1, e2, e3⟩ := dr_rec (T := T) (k := k) (isRec_iff.2 (by omega)); exact leaf h2 _ _ _ e1 e2 e3
    · obtain ⟨e1, e2, e3⟩ := dr_rec (T := T) (k := k) (isRec_iff.2 (by omega)); exact leaf h2 _ _ _ e1 e2 e3
    · obtain ⟨e1, e2, e3⟩ := dr_rec (T := T) (k := k) (isRec_iff.2 (by omega)); exact leaf h2 _ _ _ e1 e2 e3
    · obtain ⟨e1, e2, e3⟩ := dr_mk (T := T) (k := k) (Bool.eq_false_iff.2 fun h => by have := isRec_iff.1 h; omega) (isMk_iff.2 (by omega)); exact leaf h2 _ _ _ e1 e2 e3
    · obtain ⟨e1, e2, e3⟩ := dr_mk (T := T) (k := k) (Bool.eq_false_iff.2 fun h => by have := isRec_iff.1 h; omega) (isMk_iff.2 (by omega)); exact leaf h2 _ _ _ e1 e2 e3
    · obtain ⟨e1, e2, e3⟩ := dr_far (T := T) (k := k) (Bool.eq_false_iff.2 fun h => by have := isRec_iff.1 h; omega) (Bool.eq_false_iff.2 fun h => by have := isMk_iff.1 h; omega) c; exact leaf h2 _ _ _ e1 e2 e3
    · obtain ⟨e1, e2, e3⟩ := dr_any (T := T) (k := k) (Bool.eq_false_iff.2 fun h => by have := isRec_iff.1 h; omega) (Bool.eq_false_iff.2 fun h => by have := isMk_iff.1 h; omega) c; exact leaf h2 _ _ _ e1 e2 e3

theorem okV_cases {t m : Nat} {V : AVal} (h : okV t m V = true) : (V = .nils ∧ m = 0) ∨ V = .slice (.ro t 0 0 0) m none := by
  unfold okV at h
  split at h
  · exact .inl ⟨rfl, Nat.eq_of_beq_eq_true h⟩
  · simp only [Bool.and_eq_true, decide_eq_true_eq] at h
    obtain ⟨h1, h2⟩ := h
    have := Nat.eq_of_beq_eq_true h1
    subst this; subst h2
    exact .inr rfl
  · cases h

theorem noDr_iff {T : Tb} {V : AVal} : noDr T V = true ↔ T.w.length = 0 := ⟨Nat.eq_of_beq_eq_true, fun h => by rw [noDr, h]; rfl⟩

theorem dr_loop (T : Tb) {V : AVal} (hV : okV 0 T.w.length V = true) :
    Takes Try.prog (tabT T) ra base 0 (.loop (codeOf 8 [false, false, true, false, true, true])) (mkT 58 (drIns V)) (hp 0 []) fun z => z = (.exit 0, mkT 58 [(3, drV (many T))], hp 0 (drHp T (many T))) := by
  have hE := tabT_plain T
  rcases okV_cases hV with ⟨rfl, h0⟩ | rfl
  · have : many T = 0 := by simp only [many]; omega
    rw [this]
    refine takes_loop (fun m ts h => m = 1 ∧ ts = mkT 58 (drIns .nils) ∧ h = hp 0 []) (fun ts h => by rintro ⟨h, _⟩; omega) (fun m ts h' => ?_) (j := 1) ⟨rfl, rfl, rfl⟩
    rintro ⟨_, rfl, rfl⟩
    exact takes_of_tree hE (W_ok sumNone_ok noL_ok) (f := 8) (.inr (by kernel_rfl)) (hp_below _) (dr_roundN T) rfl
  · refine takes_loop (fun m ts h => ∃ i : Nat, i ≤ many T ∧ m = many T - i + 1 ∧ ts = mkT 58 (drAt T i) ∧ h = hp 0 (drHp T i)) (fun ts h => by rintro ⟨i, _, h, _⟩; omega) (fun m ts h' => ?_) (j := many T + 1) ⟨0, Nat.zero_le _, by omega, rfl, rfl⟩
    rintro ⟨i, k1, k2, rfl, rfl⟩
    refine (dr_step T k1).mono ?_
    rintro y (⟨g1, rfl⟩ | ⟨rfl, rfl⟩)
    · exact ⟨i + 1, by omega, by omega, rfl, rfl⟩
    · rfl

theorem LD_ok (T : Tb) : LoopsOK Try.prog (tabT T) ra base (LD T) := by
  have hE := tabT_plain T
  refine sum2L_deal hE noL_ok rfl (c := codeOf 8 [false, false, true, false, true, true]) (by kernel_rfl) (fun _ => rfl) (fun _ => rfl) (fun V hV => ?_) (fun V hV => ?_)
  · simp only [drL0, Bool.and_eq_true] at hV
    have h0 := noDr_iff.1 hV.2
    have hm : many T = 0 := by simp only [many]; omega
    have := dr_loop (ra := ra) (base := base) T hV.1
    rw [hm] at this
    exact this
  · simp only [drL1, Bool.and_eq_true, Bool.not_eq_true'] at hV
    have h0 : ¬ T.w.length = 0 := fun h => by rw [noDr_iff.2 h] at hV; exact absurd hV.2 (by decide)
    obtain ⟨m, hm⟩ : ∃ m, many T = m + 1 := ⟨many T - 1, by simp only [many]; omega⟩
    have := dr_loop (ra := ra) (base := base) T hV.1
    rw [hm] at this
    refine this.mono ?_
    rintro z rfl
    simp only [drL1, hm]; rfl

theorem works_true {E : Nat → Nat → Seg} : evalTrue (callB Try.prog E noS (W E noS noL) 16 []) = true := by kernel_rfl

theorem S3_ok (T : Tb) : SumsOK Try.prog (tabT T) ra base (S3 T) := by
  have hE := tabT_plain T
  refine sumG_deal hE (sumNG_deal hE (sumNG_deal hE (sumNG_deal hE (S2_ok hE) ⟨_, Try.func9, by kernel_rfl⟩ ?_ ?_) ⟨_, Try.func10, by kernel_rfl⟩ ?_ ?_) ⟨_, Try.func8, by kernel_rfl⟩ ?_ ?_) ⟨_, Try.func16, by kernel_rfl⟩ fun _ _ => ?_
  · intro q hq
    simp only [List.mem_cons, List.not_mem_nil, or_false] at hq
    rcases hq with rfl | rfl
    · intro x hx
      simp only [newBad, Bool.and_eq_true] at hx
      exact new_bad hE x hx.1 hx.2
    · intro x hx
      simp only [newFull, Bool.and_eq_true, Bool.not_eq_true'] at hx
      exact (new_good hE x hx.1 hx.2.1).2 hx.2.2
  · intro x hx
    simp only [newNil, Bool.and_eq_true, Bool.not_eq_true'] at hx
    exact (new_good hE x hx.1 hx.2.1).1 hx.2.2
  · intro q hq
    simp only [List.mem_cons, List.not_mem_nil, or_false] at hq
    rcases hq with rfl | rfl
    · intro x hx
      simp only [newBad, Bool.and_eq_true] at hx
      exact rnew_bad hE x hx.1 hx.2
    · intro x hx
      simp only [newFull, Bool.and_eq_true, Bool.not_eq_true'] at hx
      exact (rnew_good hE x hx.1 hx.2.1).2 hx.2.2
  · intro x hx
    simp only [rnewNil, Bool.and_eq_true, Bool.not_eq_true'] at hx
    exact (rnew_good hE x hx.1 hx.2.1).1 hx.2.2
  · intro q hq
    simp only [List.mem_cons, List.not_mem_nil, or_false] at hq
    subst hq
    intro V hV
    simp only [drD0, Bool.and_eq_true] at hV
    have h0 := hV.2
    rcases okV_cases hV.1 with ⟨rfl, _⟩ | rfl
    · refine (gives_of_tree hE (W_ok sumNone_ok (LD_ok T)) sumNone_ok (hp_below _) (dr_callN T) ?_).2
      simp only [Tree.holds, h0, hV.1, Bool.and_self, true_and]
      exact ⟨fun _ => ⟨_, rfl, rfl, rfl⟩, fun h => by cases h⟩
    · refine (gives_of_tree hE (W_ok sumNone_ok (LD_ok T)) sumNone_ok (hp_below _) (dr_call T T.w.length) ?_).2
      simp only [Tree.holds, h0, hV.1, decide_true, Bool.and_self, true_and]
      exact ⟨fun _ => ⟨_, rfl, rfl, rfl⟩, fun h => by cases h⟩
  · intro V hV
    simp only [drD1, Bool.and_eq_true, Bool.not_eq_true'] at hV
    have h0 := hV.2
    rcases okV_cases hV.1 with ⟨rfl, h⟩ | rfl
    · rw [noDr_iff.2 h] at h0; cases h0
    · refine (gives_of_tree hE (W_ok sumNone_ok (LD_ok T)) sumNone_ok (hp_below _) (dr_call T T.w.length) ?_).2
      simp only [Tree.holds, h0, hV.1, decide_true, Bool.and_self, true_and, Bool.not_false]
      exact ⟨fun h => (by cases h), fun _ => ⟨_, rfl, rfl, rfl⟩⟩
  · exact (gives_of_eval hE (W_ok sumNone_ok noL_ok) sumNone_ok works_true).2
end
end Go.Proofs.Ytbpcfjhnkjobaaa
