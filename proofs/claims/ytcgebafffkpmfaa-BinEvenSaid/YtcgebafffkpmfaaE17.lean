/- A region whose order is drawn: the steps of the text's order, taken in any order that its edges allow. -/
import Derived.Test.YtcgebafffkpmfaaE16
namespace Go.Proofs.Ytcgebafffkpmfaa.Ab

variable {P : Program} {E : Nat → Nat → Seg} {ra : Nat → Nat → Nat × Nat} {base : Nat} {S : Sums} {X : Exts} {R : Walk}

structure Yld where
  i : Nat
  o : Oper
  v : AVal
  d : Log
  r : List Nat

section
variable (P E S X R)
def Chain (all : List Oper) : Tmps → Log → List Yld → Prop
  | _, _, [] => True
  | ts, h, y :: l => StepR P E S X R all y.o ts h y.v y.d y.r ∧ Chain all (putA ts y.o.dst y.v) (y.d ++ h) l
end

def endT : Tmps → List Yld → Tmps
  | ts, [] => ts
  | ts, y :: l => endT (putA ts y.o.dst y.v) l

def endH : Log → List Yld → Log
  | h, [] => h
  | h, y :: l => endH (y.d ++ h) l

def Indep (all : List Oper) (x y : Yld) : Prop :=
  (∀ i ∈ ids y.d, i ∉ ids x.d) ∧ (∀ i ∈ ids y.d, i ∉ x.r) ∧ (∀ i ∈ y.r, i ∉ ids x.d) ∧ x.o.apart all.toArray y.o = true

theorem chain_eqv {all : List Oper} : ∀ (l : List Yld) {ts : Tmps} {h h' : Log}, Eqv h h' → Chain P E S X R all ts h l → Chain P E S X R all ts h' l
  | [], _, _, _, _, _ => trivial
  | y :: l, _, _, _, e, hc => ⟨hc.1.imp (fun x => ⟨x.1, runs_eqv e x.2⟩) id, chain_eqv l (e.app y.d) hc.2⟩

theorem endH_eqv : ∀ (l : List Yld) {h h' : Log}, Eqv h h' → Eqv (endH h l) (endH h' l)
  | [], _, _, e => e
  | y :: l, _, _, e => endH_eqv l (e.app y.d)

/-! What an operation hangs on, of the temporaries. -/

theorem evalA_put {ts : Tmps} {dst : Option Tmp} {v : AVal} {x : Operand} (h : ∀ d, dst = some d → x ≠ .tmp d) : evalA (putA ts dst v) x = evalA ts x := by
  cases dst with
  | none => rfl
  | some d =>
    cases x with
    | tmp t =>
      have hne : d ≠ t := fun e => h d rfl (e ▸ rfl)
      simp [evalA, putA, List.getD_eq_getElem?_getD, List.getElem?_set_ne hne]
    | _ => rfl

theorem opA_congr {o : Oper} {ρ ρ' : Operand → AVal} (h : ∀ x ∈ o.op.operands, ρ x = ρ' x) : opA P E S X R o ρ = opA P E S X R o ρ' := by
  unfold opA
  split
  · rename_i c hc
    rw [hc] at h
    split
    · rename_i f hf
      have hmap : c.args.toList.map ρ = c.args.toList.map ρ' := map_congr' fun x hx => h x (by simp [Op.operands, Call.operands, hf]; exact .inr (by simpa using hx))
      have hfe : ρ f = ρ' f := h f (by simp [Op.operands, Call.operands, hf])
      rw [hmap, hfe]
    · rw [hc]; exact aop_congr h
    · rfl
  · exact aop_congr h

theorem opA_put {all : List Oper} {o : Oper} {ts : Tmps} {dst : Option Tmp} {v : AVal} (h : ∀ d, dst = some d → d ∉ o.looksAt all.toArray) : opA P E S X R o (evalA (putA ts dst v)) = opA P E S X R o (evalA ts) :=
  opA_congr fun x hx => evalA_put fun d hd hxd => h d hd (by
    subst hxd
    exact List.mem_append_left _ (List.mem_filterMap.2 ⟨.tmp d, by simpa using hx, rfl⟩))

theorem wantedA_put {all : List Oper} {o : Oper} {ts : Tmps} {dst : Option Tmp} {v : AVal} (h : ∀ d, dst = some d → d ∉ o.looksAt all.toArray) : wantedA all o (putA ts dst v) = wantedA all o ts := by
  cases dst with
  | none => rfl
  | some d =>
    unfold wantedA
    cases hg : o.guard with
    | none => rfl
    | some gw =>
      obtain ⟨g, want⟩ := gw
      simp only
      cases hj : all[g]? with
      | none => rfl
      | some oj =>
        simp only
        cases hd : oj.dst with
        | none => rfl
        | some t =>
          have hne : d ≠ t := by
            intro e
            subst e
            refine h d rfl (List.mem_append_right _ ?_)
            simp [hg, hj, hd]
          simp [putA, List.getD_eq_getElem?_getD, List.getElem?_set_ne hne]

theorem stepR_put {all : List Oper} {o : Oper} {ts : Tmps} {dst : Option Tmp} {u : AVal} (hn : ∀ d, dst = some d → d ∉ o.looksAt all.toArray) {h : Log} {v : AVal} {d : Log} {r : List Nat} :
    StepR P E S X R all o (putA ts dst u) h v d r ↔ StepR P E S X R all o ts h v d r := by
  unfold StepR
  rw [opA_put hn, wantedA_put hn]

theorem put_comm {ts : Tmps} {a b : Option Tmp} {u v : AVal} (h : ∀ d, a = some d → b ≠ some d) : putA (putA ts a u) b v = putA (putA ts b v) a u := by
  cases a with
  | none => rfl
  | some x =>
    cases b with
    | none => rfl
    | some y =>
      have : x ≠ y := fun e => h x rfl (by rw [e])
      exact List.set_comm _ _ this

/-- Two that are apart, swapped. -/
theorem swap_steps {all : List Oper} {x y : Yld} (hi : Indep all x y) {ts : Tmps} {h : Log} (h1 : StepR P E S X R all x.o ts h x.v x.d x.r) (h2 : StepR P E S X R all y.o (putA ts x.o.dst x.v) (x.d ++ h) y.v y.d y.r) :
    StepR P E S X R all y.o ts h y.v y.d y.r ∧ StepR P E S X R all x.o (putA ts y.o.dst y.v) (y.d ++ h) x.v x.d x.r := by
  obtain ⟨i1, i2, i3, i4⟩ := hi
  obtain ⟨a1, a2, a3⟩ := Oper.apart_spec i4
  rw [stepR_put a1] at h2
  rw [stepR_put a3]
  refine ⟨h2.imp (fun q => ⟨q.1, ?_⟩) id, h1.imp (fun q => ⟨q.1, ?_⟩) id⟩
  · refine runs_local _ _ _ _ _ _ q.2 (fun i hr => ?_) (fun i _ hn hm => hn (by simp only [ids, List.map_append, List.mem_append]; exact .inr hm))
    rw [view_append, if_neg (i3 i hr)]
  · refine runs_local _ _ _ _ _ _ q.2 (fun i hr => ?_) (fun i hm hn hm' => ?_)
    · rw [view_append, if_neg (fun hy => i2 i hy hr)]
    · simp only [ids, List.map_append, List.mem_append] at hm'
      rcases hm' with h' | h'
      · exact i1 i h' hm
      · exact hn h'

theorem move_front {all : List Oper} {y : Yld} {post : List Yld} : ∀ (pre : List Yld) {ts : Tmps} {h : Log}, (∀ x ∈ pre, Indep all x y) → Chain P E S X R all ts h (pre ++ y :: post) →
    StepR P E S X R all y.o ts h y.v y.d y.r ∧ Chain P E S X R all (putA ts y.o.dst y.v) (y.d ++ h) (pre ++ post) ∧
    endT ts (pre ++ y :: post) = endT (putA ts y.o.dst y.v) (pre ++ post) ∧ Eqv (endH h (pre ++ y :: post)) (endH (y.d ++ h) (pre ++ post))
  | [], _, _, _, hc => ⟨hc.1, hc.2, rfl, .refl _⟩
  | x :: pre, ts, h, hp, hc => by
    obtain ⟨c1, c2⟩ := hc
    have hi := hp x (by simp)
    obtain ⟨m1, m2, m3, m4⟩ := move_front pre (fun z hz => hp z (by simp [hz])) c2
    obtain ⟨s1, s2⟩ := swap_steps hi c1 m1
    have ecomm : putA (putA ts x.o.dst x.v) y.o.dst y.v = putA (putA ts y.o.dst y.v) x.o.dst x.v := put_comm fun d hd => (Oper.apart_spec hi.2.2.2).2.1 d hd
    have heq := Eqv.comm (x := x.d) (y := y.d) h hi.1
    rw [ecomm] at m2 m3
    exact ⟨s1, ⟨s2, chain_eqv _ heq m2⟩, m3, m4.trans (endH_eqv _ heq)⟩

/-! ### Which come behind which, whatever the order -/

inductive Bef (all : List Oper) : Nat → Nat → Prop
  | edge {i : Nat} {o : Oper} {e : Edge} (ho : all[i]? = some o) (he : e ∈ o.after) (hb : Region.binds .any e = true) : Bef all e.on i
  | trans {i j : Nat} {o : Oper} {e : Edge} (ho : all[i]? = some o) (he : e ∈ o.after) (hb : Region.binds .any e = true) (h : Bef all j e.on) : Bef all j i

theorem before_aux (all : List Oper) : ∀ (l : List Oper) (acc : List Nat), all.drop acc.length = l →
    (∀ i j, (acc.getD i 0).testBit j = true → Bef all j i) → ∀ i j, ((before l acc).getD i 0).testBit j = true → Bef all j i
  | [], acc, _, h => h
  | o :: l, acc, hd, h => by
    have ho : all[acc.length]? = some o := by rw [← List.head?_drop, hd]; rfl
    refine before_aux all l _ (by rw [List.length_append, List.length_singleton, ← List.drop_drop, hd]; rfl) fun i j hb => ?_
    rw [List.getD_eq_getElem?_getD] at hb
    rcases Nat.lt_trichotomy i acc.length with hlt | heq | hgt
    · rw [List.getElem?_append_left hlt] at hb
      exact h i j (by rw [List.getD_eq_getElem?_getD]; exact hb)
    · subst heq
      rw [List.getElem?_append_right (Nat.le_refl _)] at hb
      simp only [Nat.sub_self, List.getElem?_cons_zero, Option.getD_some] at hb
      have key : ∀ (es : List Edge) (s : Nat), (∀ e ∈ es, e ∈ o.after) → (∀ j, s.testBit j = true → Bef all j acc.length) → ∀ j, (es.foldl (fun s e => bif Region.binds .any e then s ||| 2 ^ e.on ||| acc.getD e.on 0 else s) s).testBit j = true → Bef all j acc.length := by
        intro es
        induction es with
        | nil => exact fun s _ hs j hj => hs j hj
        | cons e es ih =>
          intro s hm hs j hj
          refine ih _ (fun e he => hm e (by simp [he])) (fun j hj => ?_) j hj
          cases hbe : Region.binds .any e with
          | false => simp only [hbe, cond_false] at hj; exact hs j hj
          | true =>
            simp only [hbe, cond_true, Nat.testBit_or, Bool.or_eq_true] at hj
            rcases hj with (hj | hj) | hj
            · exact hs j hj
            · have : j = e.on := by
                rw [Nat.testBit_two_pow] at hj
                simpa using (of_decide_eq_true hj).symm
              subst this
              exact .edge ho (hm e (by simp)) hbe
            · exact .trans ho (hm e (by simp)) hbe (h _ _ hj)
      exact key o.after.toList 0 (fun e he => by simpa using he) (fun j hj => by simp at hj) j hb
    · rw [List.getElem?_append_right (by omega)] at hb
      have : i - acc.length ≠ 0 := by omega
      obtain ⟨k, hk⟩ : ∃ k, i - acc.length = k + 1 := ⟨i - acc.length - 1, by omega⟩
      simp [hk] at hb

theorem before_spec (all : List Oper) (i j : Nat) (h : ((before all []).getD i 0).testBit j = true) : Bef all j i :=
  before_aux all all [] rfl (fun i j h => by simp at h) i j h

theorem edgesOk_spec {all : List Oper} : ∀ (l : List Oper) (k : Nat), all.drop k = l → edgesOk k l = true → ∀ i o, k ≤ i → all[i]? = some o → ∀ e ∈ o.after, Region.binds .any e = true → e.on < i
  | [], k, hd, _, i, o, hi, ho => by
    have : all.length ≤ k := by
      have := congrArg List.length hd
      simp at this; omega
    rw [List.getElem?_eq_none (by omega)] at ho
    cases ho
  | x :: l, k, hd, h, i, o, hi, ho => by
    have hx : all[k]? = some x := by rw [← List.head?_drop, hd]; rfl
    simp only [edgesOk, Bool.and_eq_true, List.all_eq_true] at h
    rcases Nat.eq_or_lt_of_le hi with rfl | hlt
    · rw [hx] at ho
      cases ho
      intro e he hb
      have := h.1 e (by simpa using he)
      simp only [hb, Bool.not_true, Bool.false_or] at this
      exact Nat.le_of_ble_eq_true this
    · exact edgesOk_spec l (k + 1) (by rw [← List.drop_drop, hd]; rfl) h.2 i o hlt ho

/-! ### The draw's own steps -/

def foot (y : Yld) : Nat × List Nat × List Nat := (y.i, y.r, ids y.d)

theorem draw_runs {all : List Oper} {bef : List Nat} : ∀ (l : List Oper) (i : Nat), all.drop i = l → ∀ {ts : Tmps} {h : Log} {fs : List (Nat × List Nat × List Nat)} {p : AExit × Tmps} {d : Log} {r : List Nat}, (drawA P E S X R all bef i l ts fs).Runs h p d r →
    ∃ ys : List Yld, Chain P E S X R all ts h ys ∧ ys.map (·.i) = List.range' i l.length ∧ (∀ y ∈ ys, all[y.i]? = some y.o) ∧ p = (.normal, endT ts ys) ∧ d ++ h = endH h ys ∧
      foots all bef ((ys.map foot).reverse ++ fs) = true ∧ Region.noSelect all.toArray = true ∧ edgesOk 0 all = true
  | [], i, _, ts, h, fs, p, d, r, hr => by
    obtain ⟨hc, rfl, rfl, rfl⟩ := hr
    simp only [Bool.and_eq_true] at hc
    exact ⟨[], trivial, rfl, by simp, rfl, rfl, by simpa using hc.1.1, hc.1.2, hc.2⟩
  | o :: l, i, hd, ts, h, fs, p, d, r, hr => by
    obtain ⟨ts', d₁, r₁, d₂, r₂, h1, h2, rfl, rfl⟩ := hr
    obtain ⟨v, rfl, hs⟩ := gstep_runs h1
    obtain ⟨ys, c1, c2, c3, c4, c5, c6, c7⟩ := draw_runs l (i + 1) (by rw [← List.drop_drop, hd]; rfl) h2
    have ho : all[i]? = some o := by rw [← List.head?_drop, hd]; rfl
    refine ⟨⟨i, o, v, d₁, r₁⟩ :: ys, ⟨hs, c1⟩, ?_, ?_, c4, ?_, ?_, c7⟩
    · rw [List.map_cons, c2, List.length_cons, List.range'_succ]
    · intro y hy
      rcases List.mem_cons.1 hy with rfl | hy
      · exact ho
      · exact c3 y hy
    · rw [List.append_assoc]; exact c5
    · rw [List.map_cons, List.reverse_cons, List.append_assoc]; exact c6

theorem apartL_spec {a b : List Nat} (h : apartL a b = true) : ∀ i ∈ a, i ∉ b := by
  intro i hi hb
  simp only [apartL, List.all_eq_true] at h
  have := h i hi i hb
  simp at this

theorem footOk_spec {all : List Oper} {x y : Yld} (hx : all[x.i]? = some x.o) (hy : all[y.i]? = some y.o) (h : footOk all (before all []) y.i y.r (ids y.d) (foot x) = true) : Bef all x.i y.i ∨ Indep all x y := by
  simp only [footOk, foot, Bool.or_eq_true, Bool.and_eq_true] at h
  rcases h with h | ⟨⟨⟨h1, h2⟩, h3⟩, h4⟩
  · exact .inl (before_spec all _ _ h)
  · rw [hx, hy] at h4
    exact .inr ⟨apartL_spec h1, apartL_spec h2, apartL_spec h3, h4⟩

theorem foots_spec {all : List Oper} : ∀ (ys : List Yld), (∀ y ∈ ys, all[y.i]? = some y.o) → foots all (before all []) (ys.map foot) = true → ys.Pairwise fun y x => Bef all x.i y.i ∨ Indep all x y
  | [], _, _ => .nil
  | y :: ys, ho, h => by
    simp only [List.map_cons, foots, foot, Bool.and_eq_true, List.all_eq_true, List.mem_map] at h
    refine .cons (fun x hx => footOk_spec (ho x (by simp [hx])) (ho y (by simp)) (h.1 _ ⟨x, hx, rfl⟩)) (foots_spec ys (fun z hz => ho z (by simp [hz])) h.2)

/-! ### Any order -/

def Shut (ops : Array Oper) (listed : Array Bool) : Prop := ∀ i o, listed.getD i false = true → ops[i]? = some o → ∀ e ∈ o.after, Region.binds .any e = true → listed.getD e.on false = true

theorem bef_listed {ops : Array Oper} {listed : Array Bool} (hs : Shut ops listed) {i j : Nat} (h : Bef ops.toList j i) (hr : ∀ o, ops[i]? = some o → ∀ e ∈ o.after, Region.binds .any e = true → listed.getD e.on false = true) : listed.getD j false = true := by
  induction h with
  | edge ho he hb => exact hr _ (by simpa using ho) _ he hb
  | trans ho he hb _ ih => exact ih fun o' ho' e' he' hb' => hs _ _ (hr _ (by simpa using ho) _ he hb) ho' e' he' hb'

theorem getD_conv {l : Array Bool} {i : Nat} (h : i < l.size) (a b : Bool) : l.getD i a = l.getD i b := by simp [Array.getD, h]

theorem getD_size {l : Array Bool} {i : Nat} (h : l.getD i true = false) : i < l.size := by
  rcases Nat.lt_or_ge i l.size with h' | h'
  · exact h'
  · simp [Array.getD, Nat.not_lt.2 h'] at h

theorem draw_any (hR : ExecOK P E ra base R) (hS : SumsOK P E ra base S) (hX : ExtsOK P E ra X) (hN : NamesOK P) {ops : Array Oper} (ro : Option Nat) {Q : Exit → Act → World → Prop} (hedge : edgesOk 0 ops.toList = true) {nb : Nat} : ∀ (fuel : Nat) (listed : Array Bool) (ys : List Yld) {ι : Inj} {h : Log} {w : World} {ts : Tmps} {a : Act},
    ys.length ≤ fuel → listed.size = ops.size → (∀ y ∈ ys, ops[y.i]? = some y.o) → (∀ i, listed.getD i true = false ↔ ∃ y ∈ ys, y.i = i) → ys.Pairwise (fun x y => x.i < y.i) →
    ys.Pairwise (fun x y => Bef ops.toList x.i y.i ∨ Indep ops.toList x y) → Shut ops listed → Fit E ra base ι h w nb ts a → Chain P E S X R ops.toList ts h ys →
    (∀ ι' a' w' h', Fit E ra base ι' h' w' nb (endT ts ys) a' → Eqv h' (endH h ys) → Keeps ι h w ι' h' w' → Q .normal a' w') → wpAnyIn (FW ro) 0 P .any ops Q fuel listed a w := by
  have hdone : ∀ (listed : Array Bool) (ys : List Yld), listed.size = ops.size → (∀ y ∈ ys, ops[y.i]? = some y.o) → (∀ i, listed.getD i true = false ↔ ∃ y ∈ ys, y.i = i) → ys.Pairwise (fun x y => x.i < y.i) → Region.ready .any ops listed = [] → ys = [] := by
    intro listed ys hsz ho hun hsort hrd
    match ys with
    | [] => rfl
    | y :: ys =>
      exfalso
      have : y.i ∈ Region.ready .any ops listed := by
        rw [mem_ready]
        refine ⟨(hun y.i).2 ⟨y, by simp, rfl⟩, y.o, ho y (by simp), fun e he hb => ?_⟩
        have hlt := edgesOk_spec ops.toList 0 rfl hedge y.i y.o (Nat.zero_le _) (by simpa using ho y (by simp)) e he hb
        have hys : y.i < listed.size := getD_size ((hun y.i).2 ⟨y, by simp, rfl⟩)
        rw [getD_conv (by omega) false true]
        cases hh : listed.getD e.on true with
        | true => rfl
        | false =>
          obtain ⟨z, hz, hze⟩ := (hun e.on).1 hh
          rcases List.mem_cons.1 hz with rfl | hz
          · omega
          · have := (List.pairwise_cons.1 hsort).1 z hz
            omega
      rw [hrd] at this
      cases this
  intro fuel
  induction fuel with
  | zero =>
    intro listed ys ι h w ts a hl hsz ho hun hsort hpw hshut hf hc hQ
    have : ys = [] := List.length_eq_zero_iff.1 (by omega)
    subst this
    refine ⟨?_, hQ ι a w h hf (.refl _) (.refl _ _ _)⟩
    rw [List.eq_nil_iff_forall_not_mem]
    intro j hj
    obtain ⟨z, hz, _⟩ := (hun j).1 (mem_ready.1 hj).1
    cases hz
  | succ fuel ih =>
    intro listed ys ι h w ts a hl hsz ho hun hsort hpw hshut hf hc hQ
    refine ⟨fun hrd => ?_, fun i hi => ?_⟩
    · have := hdone listed ys hsz ho hun hsort hrd
      subst this
      exact hQ ι a w h hf (.refl _) (.refl _ _ _)
    · obtain ⟨hu, o, hoi, hall⟩ := mem_ready.1 hi
      obtain ⟨y, hy, hyi⟩ := (hun i).1 hu
      obtain ⟨pre, post, rfl⟩ := List.append_of_mem hy
      have hyo : y.o = o := by
        have := ho y hy
        rw [hyi, hoi] at this
        exact (Option.some.inj this).symm
      have hind : ∀ x ∈ pre, Indep ops.toList x y := by
        intro x hx
        refine ((List.pairwise_append.1 hpw).2.2 x hx y (by simp)).resolve_left fun hb => ?_
        have h1 := bef_listed hshut (hyi ▸ hb) (fun o' ho' e he hbb => by rw [hoi] at ho'; cases ho'; exact hall e he hbb)
        have h2 := (hun x.i).2 ⟨x, by simp [hx], rfl⟩
        rw [getD_conv (getD_size h2) true false, h1] at h2
        cases h2
      obtain ⟨s1, s2, s3, s4⟩ := move_front pre hind hc
      have hne : ∀ z ∈ pre ++ post, z.i ≠ i := by
        intro z hz
        rcases List.mem_append.1 hz with hz | hz
        · have := (List.pairwise_append.1 hsort).2.2 z hz y (by simp)
          omega
        · have := (List.pairwise_cons.1 (List.pairwise_append.1 hsort).2.1).1 z hz
          omega
      have hsub : (pre ++ post).Sublist (pre ++ y :: post) := List.Sublist.append_left (List.sublist_cons_self _ _) _
      refine step_sound hR hS hX hN hf (o := y.o) (by rw [hyo]; exact hoi) s1 ro fun ι' a' w' f' k' => ?_
      refine ih (listed.setIfInBounds i true) (pre ++ post) (by simp at hl ⊢; omega) (by simpa using hsz) (fun z hz => ho z (hsub.subset hz)) (fun j => ?_) (hsort.sublist hsub) (hpw.sublist hsub) ?_ f' s2 fun ι₂ a₂ w₂ h₂ f₂ e₂ k₂ => ?_
      · by_cases hj : j = i
        · subst hj
          have hlt := getD_size hu
          constructor
          · intro hh
            simp [Array.getD, hlt] at hh
          · rintro ⟨z, hz, hzi⟩
            exact absurd hzi (hne z hz)
        · rw [getD_set_ne true (Ne.symm hj), hun j]
          constructor
          · rintro ⟨z, hz, hzj⟩
            rcases List.mem_append.1 hz with hz | hz
            · exact ⟨z, List.mem_append_left _ hz, hzj⟩
            · rcases List.mem_cons.1 hz with rfl | hz
              · exact absurd (hzj.symm.trans hyi) hj
              · exact ⟨z, List.mem_append_right _ hz, hzj⟩
          · rintro ⟨z, hz, hzj⟩
            exact ⟨z, hsub.subset hz, hzj⟩
      · intro j oj hj hoj e he hb
        refine getD_set_true ?_
        by_cases hji : j = i
        · subst hji
          rw [hoi] at hoj; cases hoj
          exact hall e he hb
        · rw [getD_set_ne false (Ne.symm hji)] at hj
          exact hshut j oj hj hoj e he hb
      · refine hQ ι₂ a₂ w₂ h₂ (by rw [s3]; exact f₂) (e₂.trans s4.symm) (k'.trans k₂)

end Go.Proofs.Ytcgebafffkpmfaa.Ab
