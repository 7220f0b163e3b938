/- net: NetKeeps: the acts keep what holds. -/
import Derived.Test.YtohdkgdaccoohaaP19c
import Derived.Test.YtohdkgdaccoohaaT19c
set_option linter.unusedSimpArgs false
set_option linter.unusedVariables false
namespace Go.Proofs.Ytohdkgdaccoohaa
open Ab

theorem tabN_plain (T : Tb) : Plain (tabN T) := by
  intro tid par j v hv
  obtain ⟨_, s, hs, rfl⟩ := cellOf_seg hv
  simp only [tabN] at hs
  have : j % 3 < 3 := Nat.mod_lt _ (by decide)
  generalize j % 3 = q at hs this
  have h : q = 0 ∨ q = 1 ∨ q = 2 := by omega
  rcases h with e | e | e <;> rw [e] at hs <;> simp at hs <;> subst hs <;> rfl
theorem okV_cases {T : Tb} {V : AVal} (h : okV T V = true) : (V = .nils ∧ T.w.length = 0) ∨ V = .slice (.ro 0 0 0 0) T.w.length none := by
  unfold okV at h
  split at h
  · exact .inl ⟨rfl, Nat.eq_of_beq_eq_true h⟩
  · have := of_decide_eq_true h
    subst this
    exact .inr rfl
  · cases h

section
variable {ra : Nat → Nat → Nat × Nat} {base : Nat} {T : Tb}

/-- an act's end -/
def Ended (T : Tb) (y : Nt) (th : List Int) (s d i k : Int) (w : State) : Prop := ∃ a : Af, keptQ y i a ∧ w = (.normal, mkT 173 ((⟨.slice (.ro 0 0 0 0) T.w.length none, y, th, s, d, i, k⟩ : Sw).out a), hp 0 ((⟨.slice (.ro 0 0 0 0) T.w.length none, y, th, s, d, i, k⟩ : Sw).oB a))

theorem ended {y y' : Nt} {th th' : List Int} {s d s' d' k : Int} {i : Nat} (h : Iv y' th' s' d' (i + 1)) (hl : y'.xs.length = y.xs.length) {w : State}
    (hw : w = (.normal, mkT 173 [(1, .slice (.ro 0 0 0 0) T.w.length none), (5, .int .i64 (y.xs.length : Nat)), (6, .ptr (.own 0 0 0 0)), (7, .ptr (.own 1 0 0 0)), (8, .int .i64 s'), (9, .int .i64 d'), (10, .int .i64 i)], hp 0 [y'.bi 2, .segs [⟨201, 1, [.int .i64 th']⟩], y'.b1])) : Ended T y th s d i k w := by
  refine ⟨⟨y', th', s', d'⟩, ?_, ?_⟩
  · show (invB y' th' s' d' ((i : Int).toNat + 1) && decide (y'.xs.length = y.xs.length)) = true
    rw [Bool.and_eq_true]
    exact ⟨iv_iff.2 (by simpa using h), decide_eq_true hl⟩
  · rw [hw]
    show _ = (AExit.normal, mkT 173 [_, (5, AVal.int .i64 (y'.xs.length : Nat)), _, _, _, _, _], _)
    rw [hl]; rfl

theorem one_in {v : Int} (h : -1000 ≤ v ∧ v ≤ 2000) : wr .i64 v = v := wr_in ⟨by omega, by omega⟩

theorem send_act {y : Nt} {th : List Int} {s d : Int} {i : Nat} (h : Iv y th s d i) (hi : i < 200) (k : Int) :
    Takes Try.prog (tabN T) ra base 0 (codeOf 4 aS) (mkT 173 (Kp.at ⟨.slice (.ro 0 0 0 0) T.w.length none, y, th, s, d⟩ (i : Nat))) (hp 0 (Kp.blks ⟨.slice (.ro 0 0 0 0) T.w.length none, y, th, s, d⟩)) (Ended T y th s d i k) := by
  have hE := tabN_plain T
  have hS := S1_ok (ra := ra) (base := base) hE
  have hok := h.ok (by omega)
  refine takes_of_tree hE (wE hE hS) (f := 4) (.inr (by kernel_rfl)) (hp_below _) (ac_aS T T.w.length y th s d i) ?_
  have htx : strOfNums (List.take 1 (List.drop 0 [wr .u8 (i : Int)])) = tx i := by
    rw [wr_u8 ⟨by omega, by omega⟩]; rfl
  have c1 : decide (0 ≤ (i : Int)) = true := decide_eq_true (by omega)
  have c2 : decide ((i : Int) < 201) = true := decide_eq_true (by omega)
  have c3 : decide (Int.toNat (i : Int) < 201) = true := decide_eq_true (by omega)
  have hs0 := h.sm
  have hd0 := h.d0
  have hl0 := h.l0
  have hsi := h.si
  have hc := h.cnt i (by omega)
  have e1 : wr .i64 (s + 1) = s + 1 := one_in ⟨by omega, by omega⟩
  have e2 : wr .i64 (th.getD i 0 + 1) = th.getD i 0 + 1 := one_in ⟨by omega, by omega⟩
  rw [htx]
  simp only [Int.toNat_natCast, e1, e2]
  have c3' : decide (i < 201) = true := decide_eq_true (by omega)
  simp only [Tree.holds, hok, c1, c2, c3', sameCap, decide_true, Bool.and_self, Bool.and_true, Bool.true_and, true_and]
  refine ⟨fun hr => ?_, fun hr => ?_⟩
  · have hr' := room_iff.1 hr
    have hsend : y.send (tx i) = ⟨y.n + 1, putS y.xs y.n (tx i), y.s + 1, y.l⟩ := by rw [Nt.send, if_pos hr]
    rw [hsend]
    exact ended (h.send hi hr') (putS_len hr' _) rfl
  · have hr' : ¬ y.n < y.xs.length := fun hh => by rw [room_iff.2 hh] at hr; cases hr
    have hsend : y.send (tx i) = ⟨y.n, y.xs, y.s + 1, y.l + 1⟩ := by rw [Nt.send, if_neg (by rw [hr]; decide)]
    rw [hsend]
    exact ended (T := T) (y := y) (th := th) (s := s) (d := d) (k := k) (h.full hr') rfl rfl

theorem del_act {y : Nt} {th : List Int} {s d : Int} {i : Nat} (h : Iv y th s d i) (hi : i < 200) (k : Int) :
    Takes Try.prog (tabN T) ra base 0 (codeOf 4 aD) (mkT 173 (Sw.ins ⟨.slice (.ro 0 0 0 0) T.w.length none, y, th, s, d, (i : Nat), k⟩)) (hp 0 (Kp.blks ⟨.slice (.ro 0 0 0 0) T.w.length none, y, th, s, d⟩)) (Ended T y th s d i k) := by
  have hE := tabN_plain T
  have hS := S1_ok (ra := ra) (base := base) hE
  have hok := h.ok (by omega)
  refine takes_of_tree hE (wE hE hS) (f := 4) (.inr (by kernel_rfl)) (hp_below _) (ac_aD T T.w.length y th s d i k) ?_
  have hs0 := h.sm
  have hd0 := h.d0
  have hl0 := h.l0
  have hsi := h.si
  have e1 : wr .i64 (d + 1) = d + 1 := one_in ⟨by omega, by omega⟩
  cases hh : y.has k with
  | true =>
    obtain ⟨k0, k1⟩ := has_iff.1 hh
    obtain ⟨m, rfl⟩ : ∃ m : Nat, k = m := ⟨k.toNat, by omega⟩
    have hm : m < y.n := by omega
    obtain ⟨b, hb, hx, hth⟩ := h.at hm
    have htext : y.text (m : Int) = tx b := by rw [Nt.text, if_pos hh, Int.toNat_natCast]; exact hx
    have herr : y.err (m : Int) = 0 := by rw [Nt.err, if_pos hh]
    have hdel : y.del (m : Int) = ⟨y.n - 1, shut y.xs y.n m, y.s, y.l⟩ := by rw [Nt.del, if_pos hh, Int.toNat_natCast]; rfl
    have hbyte : BitVec.toNat (List.getD (Array.toList (ByteArray.data (tx b))) 0 0).1 = b := byte_tx (by omega)
    have hsz : ByteArray.size (tx b) = 1 := rfl
    have hc := h.cnt b (by omega)
    have e2 : wr .i64 (th.getD b 0 - 1) = th.getD b 0 - 1 := one_in ⟨by omega, by omega⟩
    rw [htext, herr, hdel]
    simp only [hbyte, hsz, e1, e2]
    have hg : (th.set b (th.getD b 0 - 1)).getD b 0 = th.getD b 0 - 1 := by rw [set_getD (by have := h.thl; omega), if_pos rfl]
    have c1 : decide ((b : Int) < 201) = true := decide_eq_true (by omega)
    have c2 : decide (b < 201) = true := decide_eq_true (by omega)
    have c3 : decide (th.getD b 0 - 1 < 0) = false := decide_eq_false (by omega)
    have c4 : decide ((0 : Int) < ((1 : Nat) : Int)) = true := rfl
    have c5 : decide (((1 : Nat) : Int) = 1) = true := rfl
    simp only [hg, Tree.holds, hok, c1, c2, c3, c4, c5, sameCap, decide_true, Bool.and_self, Bool.and_true, Bool.true_and, true_and, Bool.not_true, Bool.false_eq_true, Bool.true_eq_false, false_implies, forall_const, and_true]
    exact ended (h.del hm hb hx) (shut_len hm h.n_le) rfl
  | false =>
    have htext : y.text k = noTx := by rw [Nt.text, if_neg (by rw [hh]; decide)]
    have herr : y.err k = 2 := by rw [Nt.err, if_neg (by rw [hh]; decide)]
    have hdel : y.del k = y := by rw [Nt.del, if_neg (by rw [hh]; decide)]
    have hsz : ByteArray.size noTx = 0 := rfl
    rw [htext, herr, hdel]
    simp only [hsz]
    have c4 : decide ((2 : Int) = 0) = false := rfl
    have c5 : decide (((0 : Nat) : Int) = 1) = false := rfl
    simp only [Tree.holds, hok, c4, c5, sameCap, decide_true, Bool.and_self, Bool.and_true, Bool.true_and, true_and, Bool.not_true, Bool.false_eq_true, Bool.true_eq_false, false_implies, forall_const, and_true]
    exact ended (T := T) (y := y) (th := th) (s := s) (d := d) (k := k) h.mono rfl rfl

theorem lose_act {y : Nt} {th : List Int} {s d : Int} {i : Nat} (h : Iv y th s d i) (hi : i < 200) (k : Int) :
    Takes Try.prog (tabN T) ra base 0 (codeOf 4 aL) (mkT 173 (Sw.ins ⟨.slice (.ro 0 0 0 0) T.w.length none, y, th, s, d, (i : Nat), k⟩)) (hp 0 (Kp.blks ⟨.slice (.ro 0 0 0 0) T.w.length none, y, th, s, d⟩)) (Ended T y th s d i k) := by
  have hE := tabN_plain T
  have hS := S1_ok (ra := ra) (base := base) hE
  have hok := h.ok (by omega)
  refine takes_of_tree hE (wE hE hS) (f := 4) (.inr (by kernel_rfl)) (hp_below _) (ac_aL T T.w.length y th s d i k) ?_
  simp only [Tree.holds, hok, sameCap, decide_true, Bool.and_self, Bool.and_true, Bool.true_and, true_and]
  cases hh : y.has k with
  | true =>
    obtain ⟨k0, k1⟩ := has_iff.1 hh
    obtain ⟨m, rfl⟩ : ∃ m : Nat, k = m := ⟨k.toNat, by omega⟩
    have hm : m < y.n := by omega
    have hlose : y.lose (m : Int) = ⟨y.n - 1, shut y.xs y.n m, y.s, y.l + 1⟩ := by rw [Nt.lose, if_pos hh, Int.toNat_natCast]
    rw [hlose]
    exact ended (h.lose hm) (shut_len hm h.n_le) rfl
  | false =>
    have hlose : y.lose k = y := by rw [Nt.lose, if_neg (by rw [hh]; decide)]
    rw [hlose]
    exact ended (T := T) (y := y) (th := th) (s := s) (d := d) (k := k) h.mono rfl rfl

/-! ### Once more -/

theorem isSl_cases {V : AVal} (h : isSl V = true) : ∃ n, V = .slice (.ro 0 0 0 0) n none := by
  unfold isSl at h
  split at h
  · exact ⟨_, rfl⟩
  · cases h
theorem tc_takes (x : Tc) (hx : tcD.pre x = true) : Takes Try.prog (tabN T) ra base 0 (codeOf 4 aC) (mkT 173 (tcD.ins x)) (hp 0 (tcD.blks x)) fun w => PostL 173 x w tcD.alts := by
  have hE := tabN_plain T
  have hS := S1_ok (ra := ra) (base := base) hE
  obtain ⟨V, m, y, th, s, d, i, b, z⟩ := x
  simp only [tcD, tcB, Bool.and_eq_true, decide_eq_true_eq] at hx
  obtain ⟨h0, h1, h2, h3, h4, h5, h6, h7, h8, h9, h10, h11⟩ := hx
  obtain ⟨n, rfl⟩ := isSl_cases h0
  refine takes_of_tree hE (wE hE hS) (f := 4) (.inr (by kernel_rfl)) (hp_below _) (ac_aC T n m y th s d i b z) ?_
  have hh : z.has b = true := has_iff.2 ⟨h3, h6⟩
  have herr : z.err b = 0 := by rw [Nt.err, if_pos hh]
  have h8 : ByteArray.size (z.text b) = 1 := h8
  have h9 : BitVec.toNat (List.getD (Array.toList (ByteArray.data (z.text b))) 0 0).1 < 200 := h9
  have h10 : 1 ≤ th.getD (BitVec.toNat (List.getD (Array.toList (ByteArray.data (z.text b))) 0 0).1) 0 := h10
  have h11 : th.getD (BitVec.toNat (List.getD (Array.toList (ByteArray.data (z.text b))) 0 0).1) 0 ≤ 1000 := h11
  have hq : byteOf (z.text b) = BitVec.toNat (List.getD (Array.toList (ByteArray.data (z.text b))) 0 0).1 := rfl
  obtain ⟨o1, o2, o3, o4, o5, o6, o7⟩ := okNt_iff.1 h1
  have hok : (decide (y.n ≤ y.xs.length) && (decide (y.xs.length ≤ 64) && (decide (4 ≤ y.xs.length) && (decide (0 ≤ y.s) && (decide (y.s ≤ 100000) && (decide (0 ≤ y.l) && decide (y.l ≤ 100000))))))) = true := by
    simp only [Bool.and_eq_true, decide_eq_true_eq]; exact ⟨o1, o2, o3, o4, o5, o6, o7⟩
  rw [herr]
  simp only [h8]
  have leaf : ∀ q : Nat, byteOf (z.text b) = q → ∀ w : State, w = (.normal, mkT 173 (Tc.fr ⟨.slice (.ro 0 0 0 0) n none, m, y, th, s, d, i, b, z⟩), hp 0 [y.bi 2, .segs [⟨201, 1, [.int .i64 (upAt th q)]⟩], y.b1]) → PostL 173 (⟨.slice (.ro 0 0 0 0) n none, m, y, th, s, d, i, b, z⟩ : Tc) w tcD.alts := fun q hq w hw => by
    subst hq
    exact ⟨(), trivial, hw⟩
  replace leaf := leaf _ hq
  generalize BitVec.toNat (List.getD (Array.toList (ByteArray.data (z.text b))) 0 0).1 = q at h9 h10 h11 leaf ⊢
  have e1 : wr .i64 (b + 1) = b + 1 := one_in ⟨by omega, by omega⟩
  have e2 : wr .i64 (th.getD q 0 + 1) = th.getD q 0 + 1 := one_in ⟨by omega, by omega⟩
  have c0 : decide ((y.n : Int) = b + 1) = true := decide_eq_true h5
  have c1 : decide ((q : Int) < 201) = true := decide_eq_true (by omega)
  have c2 : decide (q < 201) = true := decide_eq_true (by omega)
  have c3 : decide (th.getD q 0 < 1) = false := decide_eq_false (by omega)
  have c4 : decide ((0 : Int) < ((1 : Nat) : Int)) = true := rfl
  have c5 : decide (((1 : Nat) : Int) = 1) = true := rfl
  simp only [e1, e2, Tree.holds, h1, h2, hok, c0, c1, c2, c3, c4, c5, sameCap, decide_true, Bool.and_self, Bool.and_true, Bool.true_and, true_and, Bool.not_true, Bool.false_eq_true, Bool.true_eq_false, false_implies, forall_const, and_true]
  exact leaf _ rfl

theorem TTc_ok (T : Tb) : ToldsOK Try.prog (tabN T) ra base 0 TTc := sumT_ok noT_ok rfl (toldR_ok (c := codeOf 4 aC) (by kernel_rfl) tc_takes)

theorem copy_text {n : Nat} {xs : List ByteArray} (hr : n < xs.length) (t : ByteArray) (s l : Int) : (Nt.copy ⟨n + 1, putS xs n t, s, l⟩).text (n : Int) = t := by
  have hh : (Nt.copy ⟨n + 1, putS xs n t, s, l⟩).has (n : Int) = true := has_iff.2 ⟨by omega, by simp only [Nt.copy]; omega⟩
  rw [Nt.text, if_pos hh, Int.toNat_natCast]
  have h1 : (xs.take n).length = n := by rw [List.length_take]; omega
  have h2 : ((putS xs n t).take (n + 1)).length = n + 1 := by rw [List.length_take, putS_len hr]; omega
  simp only [Nt.copy]
  rw [List.getD_eq_getElem?_getD, List.getElem?_append_left (by omega), List.getElem?_take_of_lt (by omega)]
  simp only [putS]
  rw [List.getElem?_append_right (by omega), h1, Nat.sub_self]
  rfl

theorem twice_act {y : Nt} {th : List Int} {s d : Int} {i : Nat} (h : Iv y th s d i) (hi : i < 200) (k : Int) :
    Takes Try.prog (tabN T) ra base 0 (codeOf 4 aT) (mkT 173 (Sw.ins ⟨.slice (.ro 0 0 0 0) T.w.length none, y, th, s, d, (i : Nat), k⟩)) (hp 0 (Kp.blks ⟨.slice (.ro 0 0 0 0) T.w.length none, y, th, s, d⟩)) (Ended T y th s d i k) := by
  have hE := tabN_plain T
  have hS := S1_ok (ra := ra) (base := base) hE
  have hok := h.ok (by omega)
  refine takes_of_treeQ hE (wE hE hS) (TTc_ok T) (f := 4) (.inr (by kernel_rfl)) (hp_below _) (ac_aT T T.w.length y th s d i k) ?_
  have hs0 := h.sm
  have hd0 := h.d0
  have hl0 := h.l0
  have hsi := h.si
  have e1 : wr .i64 (s + 1) = s + 1 := one_in ⟨by omega, by omega⟩
  obtain ⟨o1, o2, o3, o4, o5, o6, o7⟩ := okNt_iff.1 hok
  have hok' : (decide (y.n ≤ y.xs.length) && (decide (y.xs.length ≤ 64) && (decide (4 ≤ y.xs.length) && (decide (0 ≤ y.s) && (decide (y.s ≤ 100000) && (decide (0 ≤ y.l) && decide (y.l ≤ 100000))))))) = true := by
    simp only [Bool.and_eq_true, decide_eq_true_eq]; exact ⟨o1, o2, o3, o4, o5, o6, o7⟩
  have same : (hT : y.twice k = y) → Ended T y th s d i k (.normal, mkT 173 [(1, .slice (.ro 0 0 0 0) T.w.length none), (5, .int .i64 (y.xs.length : Nat)), (6, .ptr (.own 0 0 0 0)), (7, .ptr (.own 1 0 0 0)), (8, .int .i64 s), (9, .int .i64 d), (10, .int .i64 i)], hp 0 [(y.twice k).bi 2, .segs [⟨201, 1, [.int .i64 th]⟩], (y.twice k).b1]) := fun hT => by
    rw [hT]
    exact ended (T := T) (y := y) (th := th) (s := s) (d := d) (k := k) h.mono rfl rfl
  cases hh : y.has k with
  | false =>
    have ht : y.twice k = y := by rw [Nt.twice, if_neg (by rw [hh, Bool.false_and]; decide)]
    have he : y.terr k = 2 := by rw [Nt.terr, if_neg (by rw [hh]; decide)]
    have c : decide ((2 : Int) = 0) = false := rfl
    rw [he]
    simp only [TreeQ.holds, hok, hok', c, sameCap, decide_true, Bool.and_self, Bool.and_true, Bool.true_and, true_and, Bool.false_eq_true, Bool.true_eq_false, false_implies, forall_const]
    exact same ht
  | true =>
    cases hr : y.room with
    | false =>
      have ht : y.twice k = y := by rw [Nt.twice, if_neg (by rw [hh, hr]; decide)]
      have he : y.terr k = 8 := by rw [Nt.terr, if_pos hh, if_neg (by rw [hr]; decide)]
      have c : decide ((8 : Int) = 0) = false := rfl
      rw [he]
      simp only [TreeQ.holds, hok, hok', c, sameCap, decide_true, Bool.and_self, Bool.and_true, Bool.true_and, true_and, Bool.false_eq_true, Bool.true_eq_false, false_implies, forall_const]
      exact same ht
    | true =>
      have hr' := room_iff.1 hr
      obtain ⟨k0, k1⟩ := has_iff.1 hh
      obtain ⟨m, rfl⟩ : ∃ m : Nat, k = m := ⟨k.toNat, by omega⟩
      have hm : m < y.n := by omega
      obtain ⟨b, hb, hx, hth⟩ := h.at hm
      have he : y.terr (m : Int) = 0 := by rw [Nt.terr, if_pos hh, if_pos hr]
      have ht : y.twice (m : Int) = ⟨y.n + 1, putS y.xs y.n (tx b), y.s + 1, y.l⟩ := by
        rw [Nt.twice, if_pos (by rw [hh, hr]; rfl), Nt.send, if_pos hr, Int.toNat_natCast, hx]
      have hN := h.send hb hr'
      have hcp : (Nt.copy (y.twice (m : Int))).text (y.n : Int) = tx b := by rw [ht]; exact copy_text hr' _ _ _
      have okN : okNt (y.twice (m : Int)) = true := by rw [ht]; exact hN.ok (by omega)
      have okC : okNt (Nt.copy (y.twice (m : Int))) = true := by
        obtain ⟨p1, p2, p3, p4, p5, p6, p7⟩ := okNt_iff.1 okN
        have hl : ((y.twice (m : Int)).xs.take (y.twice (m : Int)).n ++ List.replicate ((y.twice (m : Int)).xs.length - (y.twice (m : Int)).n) noTx).length = (y.twice (m : Int)).xs.length := by
          rw [List.length_append, List.length_take, List.length_replicate]; omega
        rw [okNt_iff]
        simp only [Nt.copy, hl]
        exact ⟨p1, p2, p3, p4, p5, p6, p7⟩
      have hc := h.cnt b (by omega)
      have hbt : byteOf (tx b) = b := byte_tx (by omega)
      have hnn : (y.twice (m : Int)).n = y.n + 1 := by rw [ht]
      have tcb : tcB ⟨.slice (.ro 0 0 0 0) T.w.length none, (y.xs.length : Nat), y.twice (m : Int), th, s + 1, d, (i : Nat), (y.n : Nat), Nt.copy (y.twice (m : Int))⟩ = true := by
        have hcp' : Tc.t ⟨.slice (.ro 0 0 0 0) T.w.length none, (y.xs.length : Nat), y.twice (m : Int), th, s + 1, d, (i : Nat), (y.n : Nat), Nt.copy (y.twice (m : Int))⟩ = tx b := hcp
        simp only [tcB, Bool.and_eq_true, decide_eq_true_eq, hcp', hbt]
        have hn2 : (Nt.copy (y.twice (m : Int))).n = y.n + 1 := hnn
        exact ⟨rfl, okN, okC, by omega, by omega, by omega, by omega, h.thl, rfl, hb, by omega, by omega⟩
      have c : decide ((0 : Int) = 0) = true := rfl
      rw [he, e1]
      simp only [TreeQ.holds, hok, hok', okN, c, sameCap, decide_true, Bool.and_self, Bool.and_true, Bool.true_and, true_and, Bool.false_eq_true, Bool.true_eq_false, false_implies, forall_const, and_true]
      refine ⟨tcb, ?_⟩
      refine ended (T := T) (y := y) (y' := y.twice (m : Int)) (th := th) (th' := upAt th (byteOf ((Nt.copy (y.twice (m : Int))).text (y.n : Int)))) (s := s) (s' := s + 1) (d := d) (d' := d) (k := m) ?_ ?_ rfl
      · rw [hcp, hbt, ht]; exact hN
      · rw [ht]; exact putS_len hr' _
end
end Go.Proofs.Ytohdkgdaccoohaa
