/- Arguments opened, one by one; a tree that ends in true. -/
import Derived.Test.YtcgebafffkpmfaaE27
import Derived.Test.YtcgebafffkpmfaaE19
set_option linter.unusedSimpArgs false
namespace Go.Proofs.Ytcgebafffkpmfaa.Ab
open Go.ChangeShapes Go.WideShapes

variable {P : Program} {E : Nat → Nat → Seg} {ra : Nat → Nat → Nat × Nat} {base : Nat} {S : Sums} {X : Exts} {L : Loops} {R : Walk}

section
variable {H : Type} {enc : TypeId × Value → H} {w : World} {r : Reach} {b0 : Nat} {t : TypeId} {v : Value} {d : DataW H} {ps : List MemPlace}

/-- An argument of one cell. -/
theorem arg_cell {k : CK} (hk : kinds P 20 t = some [k]) (hc : P.cellsOf t = 1) (ha : (match P.underlying t with
    | some (.struct _) | some (.array _ _) => false
    | _ => true) = true) (hval : Value.okWide P w r b0 t v) (hd : DataW.Trod enc P w 0 (fun _ => true) true t v d ps) : OpenC enc P w k v := by
  obtain ⟨fuel, hx⟩ := hd
  have hv : v.cells.toList = [v] := by
    unfold Value.okWide at hval
    split at hval
    · rename_i e; rw [e] at ha; cases ha
    · rename_i e; rw [e] at ha; cases ha
    · unfold Cell.okWide at hval
      cases v <;> first | rfl | (exfalso; revert hval; simp only [Cell.ok]; cases hu : P.underlying t <;> simp <;> rename_i q <;> cases q <;> simp)
  rw [hv] at hx
  have := opened 20 t [k] hk fuel [v] (d, ps) (by rw [hc]; rfl) hx
  cases this with | cons h _ => exact h

/-- An argument of a row of cells. -/
theorem arg_row {ks : List CK} (hk : kinds P 20 t = some ks) (ha : (match P.underlying t with
    | some (.struct _) | some (.array _ _) => true
    | _ => false) = true) (hval : Value.okWide P w r b0 t v) (hd : DataW.Trod enc P w 0 (fun _ => true) true t v d ps) : ∃ cs : List Value, v = .agg cs.toArray ∧ OpenL enc P w ks cs := by
  obtain ⟨fuel, hx⟩ := hd
  have hv : ∃ cs : Array Value, v = .agg cs ∧ cs.size = P.cellsOf t := by
    unfold Value.okWide at hval
    split at hval
    · obtain ⟨cs, h1, h2, _⟩ := hval; exact ⟨cs, h1, h2⟩
    · obtain ⟨cs, h1, h2, _⟩ := hval; exact ⟨cs, h1, h2⟩
    · rename_i h1 h2
      exfalso
      revert ha
      split
      · rename_i e; exact (h1 _ e).elim
      · rename_i e; exact (h2 _ _ e).elim
      · intro h; cases h
  obtain ⟨cs, rfl, hl⟩ := hv
  exact ⟨cs.toList, by simp, opened 20 t ks hk fuel cs.toList (d, ps) (by simpa using hl) hx⟩
end

/-- A tree of a call all whose ends are true. -/
theorem true_of_tree {f : FuncId} {as : List AVal} {p : Pat} {T : Tree State} (ht : ((callB P E S R f as).full ⟨[], 0, [], []⟩ leafV).take 0 p = T) (hT : T.holds fun x => x.2.1 = [.bool true]) :
    ∃ d r, (callB P E S R f as).Runs [] (.bool true) d r := by
  rw [← ht] at hT
  have h1 := full_wp _ _ _ _ (take_holds _ _ hT)
  obtain ⟨q, s', d, r, h2, h3, _, _, _, h4⟩ := wp_runs _ _ _ (fun i hi => by cases hi) h1
  obtain ⟨l, mask, x, hx, hv⟩ := (h4 : Comes 0 _ ((.ret, [q]), s'))
  obtain ⟨_, _, _, k4, _⟩ := canon_spec hx
  rw [hv] at k4
  simp only [renL, renV, maskT, List.cons.injEq, and_true] at k4
  cases hb : Nat.testBit mask 0 with
  | true =>
    rw [hb] at k4
    simp only at k4
    subst k4
    exact ⟨d, r, h2⟩
  | false => rw [hb] at k4; cases k4

theorem ints_length (w : World) (v : Value) (st j : Nat) : (ints w v st j).length = gL v := by simp [ints]
theorem bools_length (w : World) (v : Value) (st j : Nat) : (bools w v st j).length = gL v := by simp [bools]
theorem strs_length (w : World) (v : Value) (st j : Nat) : (strs w v st j).length = gL v := by simp [strs]

/-- a number's range -/
def inK : IntKind → Int → Prop
  | .i8, v => -128 ≤ v ∧ v < 128
  | .i16, v => -32768 ≤ v ∧ v < 32768
  | .i32, v => -2147483648 ≤ v ∧ v < 2147483648
  | .i64, v => -9223372036854775808 ≤ v ∧ v < 9223372036854775808
  | .u8, v => 0 ≤ v ∧ v < 256
  | .u16, v => 0 ≤ v ∧ v < 65536
  | .u32, v => 0 ≤ v ∧ v < 4294967296
  | .u64, v => 0 ≤ v ∧ v < 18446744073709551616

theorem inK_of {k : IntKind} {v : Int} (h : (Lit.int k v).wf = true) : inK k v := by
  simp only [Lit.wf, IntKind.has, Bool.and_eq_true, decide_eq_true_eq] at h
  obtain ⟨h1, h2⟩ := h
  cases k <;> simp [IntKind.min, IntKind.max, IntKind.signed, IntKind.bits] at h1 h2 <;> simp only [inK] <;> omega

/-- A law's end. -/
theorem law_end {H : Type} {enc : TypeId × Value → H} {f : FuncId} {fn : Func} {s : ChangeSpec} {W : World} {args : Array Value} {ds gs : List (DataW H)} {before : List MemPlace} (hl : laidOutB P = true)
    (hlaw : lawB P fn = true) (hv : s.vars = []) (hW : DataW.Whole enc P fn.params.toList s.vars false W args.toList ds gs before) (hs : s.fn H ds = { results := [.lit (.bool true)], args := ds })
    {as : List AVal} (H0 : WRel E ra W.heap.size (fun _ => none) [] W) (ha : RelL E ra (fun _ => none) as args.toList) (hR : ExecOK P E ra W.heap.size R) (hS : SumsOK P E ra W.heap.size S)
    (hr : ∃ d r, (callB P E S R f as).Runs [] (.bool true) d r) : Calls P f args W fun e W' => ∃ v, e = .returned v ∧ s.post enc P fn false true false false W args v W' := by
  obtain ⟨d, r, hr⟩ := hr
  refine Calls.mono (calls_true hR hS H0 ha hr) ?_
  rintro e W' ⟨rfl, hb⟩
  exact ⟨_, rfl, post_true hl hlaw hv hW hs hb⟩

/-! ### A function, piece by piece -/

theorem leaves_marksK {k : Nat} {ι ι' : Inj} {h h' : Log} {w : World} {fn : Func} {ts : Tmps} {tmps : Array Value} {v : AVal} {rs : List Nat}
    (ht : RelL E ra ι' ts tmps.toList) (hr : (resA P E fn ts).Runs h' v [] rs) {Q : AVal → Log → Prop} (hQ : Q v h') : ∀ (ds : List Deferred) (w' : World),
    DefOK ι' h' w' w.heap.size ds → WRel E ra base ι' h' w' → KeepsK k ι h w ι' h' w' → base ≤ w.heap.size →
    LeavesInM (FW none) 0 P fn tmps (fun e w' => ∃ v v' h' ι', e = .returned v' ∧ Q v h' ∧ Rel E ra ι' v v' ∧ WRel E ra base ι' h' w' ∧ KeepsK k ι h w ι' h' w') ds .returning w' := by
  intro ds
  induction ds with
  | nil =>
    intro w' _ H kk _
    obtain ⟨_, v', h1, h2⟩ := resA_sound H ht hr
    exact ⟨v', h1, v, v', h', ι', rfl, hQ, h2, H, kk⟩
  | cons m ds ih =>
    intro w' hd H kk hle
    obtain ⟨r, h1, h2, h3, h4⟩ := hd.1 m (by simp)
    refine ⟨by simp, .inl ⟨r, _, h1, run_takeDeferred h3, ih _ ⟨fun m' hm' => ?_, (List.pairwise_cons.1 hd.2).2⟩ ?_ ?_ hle⟩⟩
    · obtain ⟨r', g1, g2, g3, g4⟩ := hd.1 m' (by simp [hm'])
      refine ⟨r', g1, g2, ?_, g4⟩
      have hne : r' ≠ r := fun e => (List.pairwise_cons.1 hd.2).1 m' hm' (by rw [h1, g1, e])
      rw [World.putObj_heap_other hne]; exact g3
    · refine ⟨H.dom, fun id B hB => (H.own id B hB).mono (.refl _) fun b o sz hb => World.putObj_heap_other fun e => h4 ⟨id, B, o, sz, hB, e ▸ hb⟩, H.inj, by rw [World.putObj_size]; exact H.le, H.roLt, H.roWF,
        H.roKeep (.refl _) fun b hb => World.putObj_heap_other fun e => ?_⟩
      omega
    · refine ⟨kk.ext, kk.os, kk.tape, kk.output, by rw [World.putObj_size]; exact kk.size, fun b hb hn => ?_, kk.live⟩
      rw [World.putObj_heap_other (by omega)]; exact kk.block b hb hn

/-- A function that gives one temporary. -/
theorem gives_of_takes {k : Nat} {f : FuncId} {fn : Func} (hf : P.funcs[f]? = some fn) {c : Code} (hc : fn.body = some c) {t : Tmp} (hres : fn.results.toList = [.tmp t]) {as : List AVal} {h : Log} {n : Nat} (hn : fn.ntmps - as.length = n) {Q : AVal → Log → Prop}
    (T : Takes P E ra base k c (as ++ List.replicate n .undef) h fun x => (x.1 = .ret ∨ x.1 = .normal) ∧ Q (x.2.1.getD t .undef) x.2.2) : Gives P E ra base k f as h Q := by
  intro ι w as' H ha
  have hlen : as'.size = as.length := by rw [← Array.length_toList]; exact ha.length
  refine callsIn_of_wp_marks hf hc trivial ?_
  have hfit : Fit E ra base ι h w w.heap.size (as ++ List.replicate n .undef) { tmps := as' ++ Array.replicate (fn.ntmps - as'.size) undef, defers := [] } :=
    ⟨H, by rw [← hn]; simp only [Array.toList_append, Array.toList_replicate, hlen]; exact ha.append (.replicate (.undef _) _), .nil _ _ _ _, Nat.le_refl _⟩
  refine wpIn_mono (T ι w w.heap.size _ hfit) ?_
  rintro e a' w' ⟨⟨xe, xt, xh⟩, ι', rfl, ⟨hx, hQ⟩, f', kk⟩
  have hr : (resA P E fn xt).Runs xh (xt.getD t .undef) [] [] := by
    unfold resA; rw [hres]; exact ⟨rfl, rfl, rfl⟩
  have fin := leaves_marksK f'.tmps hr hQ a'.defers w' f'.defs f'.rel kk H.le
  rcases hx with rfl | rfl
  · exact fin
  · exact fin

theorem law_end' {H : Type} {enc : TypeId × Value → H} {f : FuncId} {fn : Func} {s : ChangeSpec} {W : World} {args : Array Value} {ds gs : List (DataW H)} {before : List MemPlace} (hl : laidOutB P = true)
    (hlaw : lawB P fn = true) (hv : s.vars = []) (hW : DataW.Whole enc P fn.params.toList s.vars false W args.toList ds gs before) (hs : s.fn H ds = { results := [.lit (.bool true)], args := ds })
    {as : List AVal} (H0 : WRel E ra W.heap.size (fun _ => none) [] W) (ha : RelL E ra (fun _ => none) as args.toList) (g : Gives P E ra W.heap.size 0 f as [] fun v _ => v = .bool true) :
    Calls P f args W fun e W' => ∃ v, e = .returned v ∧ s.post enc P fn false true false false W args v W' := by
  have key : Calls P f args W fun e W' => e = .returned (.bool true) ∧ RowKit.Below W.heap.size W W' := by
    refine (callsIn_wide (n := 0)).1 (CallsIn.mono (g _ W args H0 ha) ?_)
    rintro e w' ⟨v, v', h', ι', rfl, rfl, h1, h2, h3⟩
    cases h1
    refine ⟨rfl, h3.os, h3.tape, h3.output, h3.size, fun k hk => h3.block k hk fun hl => ?_⟩
    obtain ⟨id, B, o, sz, h4, h5⟩ := hl
    cases h5
  refine Calls.mono key ?_
  rintro e W' ⟨rfl, hb⟩
  exact ⟨_, rfl, post_true hl hlaw hv hW hs hb⟩

/-- The tables, by another name. -/
theorem Tabs.start' {H : Type} {enc : TypeId × Value → H} {w : World} {val : Nat → Nat → Value} {et : Nat → TypeId} {kt : Nat → List CK} {ch : Nat → Nat → Nat} (T : Tabs enc P w val et kt ch) (hE : tabE w val kt ch = E) :
    WRel E (tabR val) w.heap.size (fun _ => none) [] w := hE ▸ T.start

theorem Tabs.rel' {H : Type} {enc : TypeId × Value → H} {w : World} {val : Nat → Nat → Value} {et : Nat → TypeId} {kt : Nat → List CK} {ch : Nat → Nat → Nat} (T : Tabs enc P w val et kt ch) (hE : tabE w val kt ch = E) (t p : Nat) {ι : Inj} :
    Rel E (tabR val) ι (gV t p (val t p)) (val t p) := hE ▸ T.rel t p

end Go.Proofs.Ytcgebafffkpmfaa.Ab
