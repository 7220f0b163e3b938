/- Code: the abstract evaluator is sound. -/
import Derived.Test.YtcgebafffkpmfaaE17
import Derived.Scope
namespace Go.Proofs.Ytcgebafffkpmfaa.Ab

variable {P : Program} {E : Nat → Nat → Seg} {ra : Nat → Nat → Nat × Nat} {base : Nat} {S : Sums} {X : Exts} {L : Loops} {R : Walk}

theorem pushed {ι : Inj} {h : Log} {w w' : World} (H : WRel E ra base ι h w) {o : Obj} (hw : w'.heap = w.heap.push o) (ho : w'.os = w.os) (ht : w'.tape = w.tape) (hp : w'.output = w.output) : WRel E ra base ι h w' ∧ Keeps ι h w ι h w' := by
  have hlt : ∀ b, b < w.heap.size → w'.heap[b]? = w.heap[b]? := fun b hb => by rw [hw]; exact heap_push _ _ _ hb
  refine ⟨⟨H.dom, fun id B hB => (H.own id B hB).mono (.refl _) fun b o sz hb => hlt b ?_, H.inj, ?_, H.roLt, H.roWF, H.roKeep (.refl _) fun b hb => hlt b (Nat.lt_of_lt_of_le hb H.le)⟩, ⟨.refl _, ho, ht, hp, ?_, fun b hb _ => hlt b hb, fun _ _ hl => hl⟩⟩
  · obtain ⟨b', o', sz', h1, _, h3⟩ := (H.own id B hB).at
    rw [hb] at h1
    simp only [Option.some.injEq, Prod.mk.injEq] at h1
    omega
  · rw [hw, Array.size_push]; have := H.le; omega
  · rw [hw, Array.size_push]; omega

theorem live_lt {ι : Inj} {h : Log} {w : World} (H : WRel E ra base ι h w) {b : Nat} (hl : Live ι h b) : b < w.heap.size := by
  obtain ⟨id, B, o, sz, h1, h2⟩ := hl
  obtain ⟨b', o', sz', h3, _, h4⟩ := (H.own id B h1).at
  rw [h2] at h3
  simp only [Option.some.injEq, Prod.mk.injEq] at h3
  omega

theorem range_pairwise : ∀ (n i : Nat), (List.range' i n).Pairwise (· < ·)
  | 0, _ => .nil
  | n + 1, i => by
    rw [List.range'_succ]
    exact .cons (fun j hj => by rw [List.mem_range'_1] at hj; omega) (range_pairwise n (i + 1))

theorem drawA_sound (hR : ExecOK P E ra base R) (hS : SumsOK P E ra base S) (hX : ExtsOK P E ra X) (hN : NamesOK P) (hm : P.follows .mixedOrders = true) {id : Nat} {ops : Array Oper} (ro : Option Nat) {Q : Exit → Act → World → Prop} {ι : Inj} {h : Log} {w : World} {nb : Nat} {ts : Tmps} {a : Act}
    (hf : Fit E ra base ι h w nb ts a) {p : AExit × Tmps} {d : Log} {r : List Nat} (hr : (drawA P E S X R ops.toList (before ops.toList []) 0 ops.toList ts []).Runs h p d r)
    (hQ : ∀ ι' a' w', Fit E ra base ι' (d ++ h) w' nb p.2 a' → Keeps ι h w ι' (d ++ h) w' → Q p.1.toExit a' w') : (Code.region id ops true).wpIn (FW ro) 0 P Q a w := by
  obtain ⟨ys, c1, c2, c3, rfl, c5, c6, c7, c8⟩ := draw_runs ops.toList 0 rfl hr
  have k : Keeps ι h w ι h { w with drawn := w.drawn + 1 } := .same ι h rfl rfl rfl rfl
  have f' := hf.move (hf.rel.same (w' := { w with drawn := w.drawn + 1 }) rfl) k
  have hmem : ∀ i, (∃ y ∈ ys, y.i = i) ↔ i < ops.size := by
    intro i
    have : i ∈ ys.map (·.i) ↔ i < ops.size := by rw [c2, List.mem_range'_1]; simp
    rw [← this, List.mem_map]
  have hlen : ys.length = ops.size := by
    have := congrArg List.length c2
    simpa using this
  refine wpIn_region_any hm (draw_any hR hS hX hN ro c8 ops.size _ ys (by omega) (by simp) (fun y hy => by simpa using c3 y hy) (fun i => ?_) ?_ ?_ ?_ f' c1 fun ι' a' w' h' f₂ e₂ k₂ => ?_)
  · rw [hmem i]
    by_cases hi : i < ops.size <;> simp [Array.getD, hi]
  · have := range_pairwise ops.toList.length 0
    rw [← c2, List.pairwise_map] at this
    exact this
  · rw [List.append_nil, ← List.map_reverse] at c6
    have := foots_spec ys.reverse (fun y hy => c3 y (by simpa using hy)) c6
    rw [List.pairwise_reverse] at this
    exact this
  · intro i o hi _ e _ _
    by_cases h' : i < ops.size
    · simp [Array.getD, h'] at hi
    · simp [Array.getD, h'] at hi
  · rw [← c5] at e₂
    exact hQ ι' a' w' (f₂.eqv e₂) ((k.trans k₂).eqv e₂)

theorem endLoopA_sound {ι : Inj} {h : Log} {w : World} {nb : Nat} {ts : Tmps} {a : Act} (hf : Fit E ra base ι h w nb ts a) {id b o sz : Nat} (hb : ι id = some (b, o, sz)) {p : AExit × Tmps} {d : Log} {r : List Nat} (hr : (endLoopA id ts).Runs h p d r)
    {Q : Exit → Act → World → Prop} (hQ : ∀ w', Fit E ra base ι (d ++ h) w' nb p.2 a → Keeps ι h w ι (d ++ h) w' → Q p.1.toExit a w') (v : Value) : rangePost (FW none) 0 P b Q a (.returned v) w := by
  simp only [endLoopA, AM.Runs] at hr
  obtain ⟨B, r', hv, rfl, hr⟩ := hr
  match B, hr with
  | .loop ls ps as bd st pend, hr =>
    obtain ⟨hst, B', d', r'', hv', rfl, rfl, hr2⟩ := hr
    obtain ⟨l, l1, l2, l3, l4, l5, l6, l7, l8⟩ := loop_at hf.rel hv hb
    have T := loop_turn hf.rel hv hb (l := { l with state := .exhausted }) (lt_of_heap l1) l2 (ts := ls) (ps := ps) (as := as) (bd := bd) (st := .exhausted) (pe := pend) ⟨l3, l4, l5, l6, rfl, l8⟩
    have hnb : l.state ≠ .busy := by
      rw [l7]
      intro e
      rw [e] at hst
      cases hst
    have run := run_endLoop (P := P) l1 hnb
    generalize w.putObj b (.loop { l with state := .exhausted }) = W at T run
    rw [l8] at run
    refine ⟨pend, W, run, ?_⟩
    match pend, hr2 with
    | none, hr2 =>
      obtain ⟨rfl, rfl, rfl⟩ := hr2
      exact hQ _ (hf.move T.1 T.2) T.2
    | some .ret, hr2 =>
      obtain ⟨rfl, rfl, rfl⟩ := hr2
      exact wpIn_ret (hQ _ (hf.move T.1 T.2) T.2)
    | some (.exit i), hr2 =>
      obtain ⟨rfl, rfl, rfl⟩ := hr2
      exact wpIn_exit (hQ _ (hf.move T.1 T.2) T.2)

section
variable {b : Frame} {a : Act} {k : List Item} {cs : List Frame} {w : World} {Q : Exit → Act → World → Prop}

theorem stepR_scope {c : Code} : step P (lone (b.atR a (.code (.scope c) :: k)) cs w) = .next (lone (b.atR a (.code c :: .inScope c :: k)) cs w) :=
  step_lone_go (by simp [stepG, stepG.exec, Frame.atR])
theorem stepR_inScope {c : Code} : step P (lone (b.atR a (.inScope c :: k)) cs w) = .next (lone (b.atR a k) cs w) :=
  step_lone_go (by simp [stepG, stepG.exec, Frame.atR])

theorem wpIn_scope {F : Fence} {n : Nat} {c : Code} (h : c.wpIn F n P (Exit.noGoto Q) a w) : (Code.scope c).wpIn F n P Q a w := by
  intro b k cs hro hb hr
  have h0 : (lone (b.atR a (.code (.scope c) :: k)) cs w).fenced P F := fenced_calm hb hr rfl
  obtain ⟨e, a₁, w₁, hq, harr⟩ := h b (.inScope c :: k) cs hro hb hr
  cases e with
  | normal => exact ⟨.normal, a₁, w₁, hq, .head h0 stepR_scope (StepsIn.trans harr (.one (fenced_calm hb hr rfl) stepR_inScope))⟩
  | exit id =>
    have hx : exitTo id (.inScope c :: k) = exitTo id k := by simp [exitTo]
    exact ⟨.exit id, a₁, w₁, hq, fun k' hk => .head h0 stepR_scope (harr.1 k' (by rw [hx]; exact hk)),
      fun hr' hk => let ⟨k₁, h1, h2⟩ := harr.2 hr' (by rw [hx]; exact hk); ⟨k₁, h1, .head h0 stepR_scope h2⟩⟩
  | goto l => exact hq.elim
  | ret => exact ⟨_, a₁, w₁, hq, .of_steps (.one h0 stepR_scope) harr⟩
  | panic ch => exact ⟨_, a₁, w₁, hq, .of_steps (.one h0 stepR_scope) harr⟩
  | outgrown => exact ⟨_, a₁, w₁, hq, .of_steps (.one h0 stepR_scope) harr⟩
end

/-- A loop, by the number of its rounds. -/
theorem wpIn_loop_count {F : Fence} {n : Nat} {Q : Exit → Act → World → Prop} {c : Code} (I : Nat → Act → World → Prop) (h0 : ∀ a w, ¬ I 0 a w) (round : ∀ j a w, I (j + 1) a w → c.wpIn F n P (Exit.then (I j) Q) a w) {j : Nat} {a : Act} {w : World} (h : I j a w) : (Code.loop c).wpIn F n P Q a w := by
  intro b k cs hro hb hr
  have key : ∀ j a w, I j a w → ∃ e a' w', Q e a' w' ∧ ArrivesIn (Machine.fenced P F) P (lone (b.atR a (.code c :: .inLoop c :: k)) cs w) b k cs e a' w' := by
    intro j
    induction j with
    | zero => exact fun a w hI => (h0 a w hI).elim
    | succ j ih =>
      intro a w hI
      obtain ⟨e, a₁, w₁, hq, harr⟩ := round j a w hI b (.inLoop c :: k) cs hro hb hr
      cases e with
      | normal =>
        obtain ⟨e₂, a₂, w₂, hq₂, harr₂⟩ := ih a₁ w₁ hq
        exact ⟨e₂, a₂, w₂, hq₂, .of_steps (StepsIn.trans harr (.one (fenced_calm hb hr rfl) stepR_inLoop)) harr₂⟩
      | exit id => exact ⟨_, a₁, w₁, hq, .pass (x := .inLoop c) rfl (fun _ _ => .inl (by simp)) harr⟩
      | goto l => exact ⟨_, a₁, w₁, hq, .pass (x := .inLoop c) rfl (fun _ _ => .inl (by simp)) harr⟩
      | ret => exact ⟨_, a₁, w₁, hq, .pass (x := .inLoop c) rfl (fun _ _ => .inl (by simp)) harr⟩
      | panic ch => exact ⟨_, a₁, w₁, hq, .pass (x := .inLoop c) rfl (fun _ _ => .inl (by simp)) harr⟩
      | outgrown => exact ⟨_, a₁, w₁, hq, .pass (x := .inLoop c) rfl (fun _ _ => .inl (by simp)) harr⟩
  obtain ⟨e, a', w', hq, harr⟩ := key _ a w h
  exact ⟨e, a', w', hq, .of_steps (.one (fenced_calm hb hr rfl) stepR_loop) harr⟩

theorem loopA_sound (hR : ExecOK P E ra base R) {f : FuncId} {pl : List Bool} {ro : Option Nat} {c : Code} (hat : At P f pl (.loop c)) {Q : Exit → Act → World → Prop} {ι : Inj} {h : Log} {w : World} {nb : Nat} {p : AExit × Tmps} (j : Nat) {ts : Tmps} {a : Act} {d : Log} {r : List Nat}
    (hf : Fit E ra base ι h w nb ts a) (hr : (loopA R f pl ro.isSome c j ts).Runs h p d r)
    (hQ : ∀ ι' a' w', Fit E ra base ι' (d ++ h) w' nb p.2 a' → Keeps ι h w ι' (d ++ h) w' → Q p.1.toExit a' w') : (Code.loop c).wpIn (FW ro) 0 P Q a w := by
  refine wpIn_loop_count (fun j a' w' => ∃ ι' ts' d₁ d₂ r, Fit E ra base ι' (d₁ ++ h) w' nb ts' a' ∧ Keeps ι h w ι' (d₁ ++ h) w' ∧ (loopA R f pl ro.isSome c j ts').Runs (d₁ ++ h) p d₂ r ∧ d = d₂ ++ d₁) ?_ ?_ (j := j) ⟨ι, ts, [], d, r, hf, .refl _ _ _, hr, by simp⟩
  · rintro a w ⟨ι', ts', d₁, d₂, r, _, _, h3, _⟩
    exact h3
  · rintro j a₁ w₁ ⟨ι₁, ts₁, d₁, d₂, r₁, f₁, k₁, h3, rfl⟩
    simp only [loopA, runs_bind] at h3
    obtain ⟨⟨e, ts₂⟩, d₃, r₃, d₄, r₄, h4, h5, rfl, rfl⟩ := h3
    refine hR f (false :: pl) ro c ts₁ ι₁ _ w₁ nb a₁ _ d₃ r₃ (hat.kid rfl) f₁ h4 _ fun ι₂ a₂ w₂ f₂ k₂ => ?_
    have k := k₁.trans k₂
    cases e with
    | normal =>
      have h6 : (loopA R f pl ro.isSome c j ts₂).Runs (d₃ ++ (d₁ ++ h)) p d₄ r₄ := h5
      exact ⟨ι₂, ts₂, d₃ ++ d₁, d₄, r₄, by simpa using f₂, by simpa using k, by simpa using h6, by simp⟩
    | exit i => obtain ⟨rfl, rfl, rfl⟩ := h5; exact hQ ι₂ a₂ w₂ (by simpa using f₂) (by simpa using k)
    | ret => obtain ⟨rfl, rfl, rfl⟩ := h5; exact hQ ι₂ a₂ w₂ (by simpa using f₂) (by simpa using k)

theorem execF_sound (hL : LoopsOK P E ra base L) (hR : ExecOK P E ra base R) (hS : SumsOK P E ra base S) (hX : ExtsOK P E ra X) (hN : NamesOK P) (hm : P.follows .mixedOrders = true) (n : Nat) : ExecOK P E ra base (execF P E S X L R n) := by
  intro fi pl ro c ts ι h w nb a p d r hat hf hr Q hQ
  unfold execF at hr
  split at hr
  · obtain ⟨rfl, rfl, rfl⟩ := hr
    exact wpIn_skip (hQ ι a w hf (.refl _ _ _))
  · obtain ⟨rfl, rfl, rfl⟩ := hr
    exact wpIn_label (hQ ι a w hf (.refl _ _ _))
  · rename_i id ops draw
    cases draw with
    | false =>
      refine wpIn_region ?_
      have := opsA_sound hR hS hX hN ro (Q := Q) ops.toList 0 rfl hf hr hQ
      rw [List.range_eq_range']
      simpa using this
    | true => exact drawA_sound hR hS hX hN hm ro hf hr hQ
  · rename_i x y
    rw [runs_bind] at hr
    obtain ⟨⟨e, ts₁⟩, d₁, r₁, d₂, r₂, h1, h2, rfl, rfl⟩ := hr
    refine wpIn_seq (hR fi _ ro x ts ι h w nb a _ d₁ r₁ (hat.kid rfl) hf h1 _ fun ι' a' w' f' k' => ?_)
    rw [List.append_assoc] at hQ
    cases e with
    | normal => exact hR fi _ ro y ts₁ ι' _ w' nb a' p d₂ r₂ (hat.kid rfl) f' h2 _ fun ι₂ a₂ w₂ f₂ k₂ => hQ ι₂ a₂ w₂ f₂ (k'.trans k₂)
    | exit i => obtain ⟨rfl, rfl, rfl⟩ := h2; exact hQ ι' a' w' f' k'
    | ret => obtain ⟨rfl, rfl, rfl⟩ := h2; exact hQ ι' a' w' f' k'
  · rename_i g x y
    split at hr
    · rename_i t ht
      have hg := evalA_sound hf.tmps g
      rw [ht] at hg
      generalize hv : a.eval g = gv at hg
      cases hg
      refine wpIn_cond hv ?_
      cases t
      · exact hR fi _ ro y ts ι h w nb a p d r (hat.kid rfl) hf hr Q hQ
      · exact hR fi _ ro x ts ι h w nb a p d r (hat.kid rfl) hf hr Q hQ
    · exact hr.elim
  · rename_i id x
    rw [runs_bind] at hr
    obtain ⟨⟨e, ts₁⟩, d₁, r₁, d₂, r₂, h1, ⟨rfl, rfl, rfl⟩, rfl, rfl⟩ := hr
    refine wpIn_block (hR fi _ ro x ts ι h w nb a _ _ _ (hat.kid rfl) hf h1 _ fun ι' a' w' f' k' => ?_)
    have := hQ ι' a' w'
    cases e with
    | normal => exact this f' k'
    | ret => exact this f' k'
    | exit i =>
      simp only [AExit.toExit, Exit.inBlock]
      by_cases hi : i = id
      · subst hi
        rw [if_pos rfl]
        have e : blockA i (.exit i, ts₁) = (.normal, ts₁) := by simp [blockA]
        rw [e] at this
        exact this f' k'
      · rw [if_neg hi]
        have e : blockA id (.exit i, ts₁) = (.exit i, ts₁) := by
          have : Nat.beq i id = false := by
            cases hh : Nat.beq i id with
            | false => rfl
            | true => exact absurd (Nat.eq_of_beq_eq_true hh) hi
          simp [blockA, this]
        rw [e] at this
        exact this f' k'
  · rename_i x
    split at hr
    · rename_i m hro hm'
      cases ro with
      | some l => cases hro
      | none =>
        obtain ⟨h1, h2⟩ := hL fi pl m hm'
        rcases hat with h | hat
        · exact absurd h h1
        · exact h2 x hat ts ι h w nb a p d r hf hr Q hQ
    · exact loopA_sound hR hat n hf hr hQ
  · rename_i g ps as bd
    split at hr
    · rename_i f cap hro hg
      cases ro with
      | some l => cases hro
      | none =>
        obtain ⟨id, d', hid, rfl, hr⟩ := hr
        rw [runs_bind] at hr
        obtain ⟨u, d₁, r₁, d₂, r₂, h1, h2, rfl, rfl⟩ := hr
        have hgv := evalA_sound hf.tmps g
        rw [hg] at hgv
        generalize hv : a.eval g = gv at hgv
        cases hgv with | fn hcap =>
        rename_i caps
        obtain ⟨hbody, hcall⟩ := callB_sound hR hS h1
        refine wpIn_rangeFunc fun fn _ => ?_
        have T₁ := pushed hf.rel (w' := w.alloc (.deferred (some []))) (o := .deferred (some [])) rfl rfl rfl rfl
        have hsz : (w.alloc (.deferred (some []))).heap.size = w.heap.size + 1 := World.size_alloc _ _
        let L : Loop := { state := .ready, pending := none, fn, tmps := a.tmps, params := ps, assign := as, body := bd, defers := w.heap.size }
        have T₂ := T₁.1.alloc (w' := (w.alloc (.deferred (some []))).alloc (.loop L)) hid (.loop L) rfl rfl rfl rfl (.loop ts ps.toList as bd .ready none) (0, 0)
          ⟨w.heap.size + 1, 0, 0, L, by rw [hsz]; simp [put], by rw [← hsz]; exact T₁.1.le, by rw [← hsz]; exact World.alloc_heap_new _ _, hf.tmps.mono (put_ext (T₁.1.fresh hid)), rfl, rfl, rfl, rfl, rfl⟩
        rw [hsz] at T₂
        have K₂ := T₁.2.trans T₂.2
        refine ⟨w.heap.size + 1, [{ target := .collected w.heap.size, args := #[] }], (w.alloc (.deferred (some []))).alloc (.loop L), { target := .fn (.func f) caps.toArray, args := #[.func (.yield (w.heap.size + 1)) #[] #[]] }, (w.alloc (.deferred (some []))).alloc (.loop L), f, #[.func (.yield (w.heap.size + 1)) #[] #[]] ++ caps.toArray, (w.alloc (.deferred (some []))).alloc (.loop L),
          run_enterLoop_outer _ _ _ _ _, ?_, fun _ _ => trivial, ?_, wide_n, ?_⟩
        · simp only [resolve, hv]
          simp [Deferred.ofValue, Act.eval]
        · exact run_callFunc hN hbody _ _
        · refine CallsIn.mono (hcall _ _ _ T₂.1 ?_) ?_
          · simp only [Array.toList_append]
            exact .cons (.yld (o := 0) (sz := 0) (by simp [put])) (by simpa using hcap.mono K₂.ext)
          · rintro e w' ⟨v', ι', rfl, g1, g2, g3⟩
            have K₃ := K₂.trans g3
            have hr0 : ((w.alloc (.deferred (some []))).alloc (.loop L)).heap[w.heap.size]? = some (.deferred (some [])) := by
              show ((w.heap.push _).push _)[w.heap.size]? = _
              rw [Array.getElem?_push, if_neg (by simp)]
              simp
            have hfit : Fit E ra base (put ι id (w.heap.size + 1, 0, 0)) ((id, some (.loop ts ps.toList as bd .ready none)) :: h) ((w.alloc (.deferred (some []))).alloc (.loop L)) nb ts { a with defers := [{ target := .collected w.heap.size, args := #[] }] ++ a.defers } := by
              refine ⟨T₂.1, hf.tmps.mono K₂.ext, ⟨fun m hm => ?_, ?_⟩, Nat.le_trans hf.size K₂.size⟩
              · rcases List.mem_cons.1 hm with rfl | hm
                · refine ⟨w.heap.size, rfl, hf.size, hr0, fun hl => ?_⟩
                  have := K₂.live
                  obtain ⟨j, C, o', sz', hC, hj⟩ := hl
                  simp only [view] at hC
                  cases hje : Nat.beq id j with
                  | true =>
                    have := Nat.eq_of_beq_eq_true hje
                    subst this
                    simp [put] at hj
                  | false =>
                    have hne : j ≠ id := fun e => by subst e; simp at hje
                    simp only [hje] at hC
                    simp only [put, if_neg hne] at hj
                    exact Nat.lt_irrefl _ (live_lt hf.rel ⟨j, C, o', sz', hC, hj⟩)
                · obtain ⟨q, q1, q2, q3, q4⟩ := (hf.defs.keeps K₂).1 m hm
                  exact ⟨q, q1, q2, q3, q4⟩
              · refine .cons (fun m hm => ?_) hf.defs.2
                obtain ⟨q, q1, q2, q3, q4⟩ := hf.defs.1 m hm
                rw [q1]
                intro e
                simp only [Target.collected.injEq] at e
                have := lt_of_heap q3
                omega
            have hQ' : ∀ w'', Fit E ra base ι' (d₂ ++ (d₁ ++ (id, some (.loop ts ps.toList as bd .ready none)) :: h)) w'' nb p.2 { a with defers := [{ target := .collected w.heap.size, args := #[] }] ++ a.defers } → Keeps ι' (d₁ ++ (id, some (.loop ts ps.toList as bd .ready none)) :: h) w' ι' (d₂ ++ (d₁ ++ (id, some (.loop ts ps.toList as bd .ready none)) :: h)) w'' → Q p.1.toExit { a with defers := [{ target := .collected w.heap.size, args := #[] }] ++ a.defers } w'' := by
              intro w'' f'' k''
              have := hQ ι' _ w'' (by simpa using f'') (by simpa using K₃.trans k'')
              exact this
            exact endLoopA_sound (b := w.heap.size + 1) (o := 0) (sz := 0) (hfit.move g2 g3) (g3.ext id _ (by simp [put])) h2 hQ' v'
    · exact hr.elim
  · obtain ⟨rfl, rfl, rfl⟩ := hr
    exact wpIn_exit (hQ ι a w hf (.refl _ _ _))
  · rename_i x
    refine wpIn_scope (hR fi _ ro x ts ι h w nb a p d r (hat.kid rfl) hf hr _ fun ι' a' w' f' k' => ?_)
    have := hQ ι' a' w' f' k'
    revert this
    cases p.1 <;> exact id
  · obtain ⟨rfl, rfl, rfl⟩ := hr
    exact wpIn_ret (hQ ι a w hf (.refl _ _ _))
  · exact hr.elim

theorem exec_sound (hL : LoopsOK P E ra base L) (hS : SumsOK P E ra base S) (hX : ExtsOK P E ra X) (hN : NamesOK P) (hm : P.follows .mixedOrders = true) : ∀ n, ExecOK P E ra base (exec P E S X L n)
  | 0 => fun _ _ _ _ _ _ _ _ _ _ _ _ _ _ _ hr => hr.elim
  | n + 1 => execF_sound hL (exec_sound hL hS hX hN hm n) hS hX hN hm n

end Go.Proofs.Ytcgebafffkpmfaa.Ab
