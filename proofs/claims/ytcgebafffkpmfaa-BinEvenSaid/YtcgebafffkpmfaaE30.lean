/- Contracts whose blocks are those that are reached from what is given. -/
import Derived.Test.YtcgebafffkpmfaaE29
namespace Go.Proofs.Ytcgebafffkpmfaa.Ab

variable {P : Program} {E : Nat → Nat → Seg} {ra : Nat → Nat → Nat × Nat} {base : Nat} {S : Sums} {L : Loops}

def idA : AAddr → List Nat
  | .own i _ _ _ => [i]
  | .ro _ _ _ _ => []

mutual
def idsV : AVal → List Nat
  | .ptr a => idA a
  | .slice a _ _ => idA a
  | .fn _ cs => idsL cs
  | .yld i => [i]
  | .iface _ v => idsV v
  | .mapv i => [i]
  | .agg cs => idsL cs
  | .tup cs => idsL cs
  | _ => []
def idsL : List AVal → List Nat
  | [] => []
  | v :: l => idsV v ++ idsL l
end

def idsCs : List Col → List Nat
  | [] => []
  | .val xs :: l => idsL xs ++ idsCs l
  | _ :: l => idsCs l

def idsSs : List Seg → List Nat
  | [] => []
  | s :: l => idsCs s.cols ++ idsSs l

def idsB : Blk → List Nat
  | .segs l => idsSs l
  | _ => []

/-- those that are new, behind -/
def addNew : List Nat → List Nat → List Nat
  | seen, [] => seen
  | seen, i :: r => addNew (match memB seen i with
    | true => seen
    | false => seen ++ [i]) r

/-- all blocks that are reached, in the order in which they are met -/
def reachA : Nat → Nat → List Nat → AM (List Nat)
  | 0, _, l => .pure l
  | n + 1, p, l => match l[p]? with
    | none => .pure l
    | some i => .read i fun B => reachA n (p + 1) (addNew l (idsB B))

theorem reachA_runs : ∀ (n p : Nat) (l : List Nat) {h : Log} {l' : List Nat} {d : Log} {r : List Nat}, (reachA n p l).Runs h l' d r → d = []
  | 0, _, _, _, _, _, _, hr => hr.2.1
  | n + 1, p, l, h, l', d, r, hr => by
    unfold reachA at hr
    split at hr
    · exact hr.2.1
    · obtain ⟨b, r', _, _, hr⟩ := hr
      exact reachA_runs n _ _ hr

def callG {ξ : Type} (D : CDeal ξ) (dec : List AVal → List Blk → Option ξ) (as : List AVal) : AM AVal :=
  (reachA 40 0 (addNew [] (idsL as))).bind fun l => callD D (fun _ => some l) dec as

theorem sumG_deal (hE : Plain E) (hS : SumsOK P E ra base S) {f : FuncId} (hb : HasBody P f) {ξ : Type} {D : CDeal ξ} {dec : List AVal → List Blk → Option ξ}
    (ht : ∀ x, D.pre x = true → Gives P E ra base (D.blks x).length f (D.args x) (hp 0 (D.blks x)) fun v h' => v = D.out x ∧ h' = hp 0 (D.blks' x)) : SumsOK P E ra base (sumF f (callG D dec) S) := by
  refine sumF_ok hS hb fun as h v d r hr => ?_
  simp only [callG, runs_bind] at hr
  obtain ⟨l, d₁, r₁, d₂, r₂, h1, h2, rfl, rfl⟩ := hr
  have := reachA_runs _ _ _ h1
  subst this
  rw [List.append_nil]
  have key := sumF_deal hE hS hb (gets := fun _ => some l) (dec := dec) ht
  have := key f (callD D (fun _ => some l) dec) (by simp [sumF])
  exact this.2 as h v d₂ r₂ h2

/-- temporaries of which some are looked at -/
def pickT (js : List Nat) (ts : Tmps) : List AVal := js.map fun j => ts.getD j .undef

def loopG (n : Nat) {ξ : Type} (D : Deal ξ) (js : List Nat) (dec : List AVal → List Blk → Option ξ) (ts : Tmps) : AM (AExit × Tmps) :=
  (reachA 40 0 (addNew [] (idsL (pickT js ts)))).bind fun l => loopA' n D (fun _ => some l) (fun ts Bs => dec (pickT js ts) Bs) ts

theorem sumLG_deal (hE : Plain E) (hL : LoopsOK P E ra base L) {f : FuncId} (hf : Nat.beq f noF = false) {pl : List Bool} {c : Code} (hc : codeAt P f (false :: pl) = some c) {n : Nat} {ξ : Type} {D : Deal ξ} {js : List Nat} {dec : List AVal → List Blk → Option ξ}
    (hone : ∀ x, onceB n (D.outs x) = true)
    (ht : ∀ x, D.pre x = true → Takes P E ra base (D.blks x).length (.loop c) (mkT n (D.ins x)) (hp 0 (D.blks x)) fun y => y = (D.ex x, mkT n (D.outs x), hp 0 (D.blks' x))) : LoopsOK P E ra base (sumL f pl (loopG n D js dec) L) := by
  refine sumL_ok hL hf fun c' hc' ts ι h w nb a p d r hfit hr Q hQ => ?_
  simp only [loopG, runs_bind] at hr
  obtain ⟨l, d₁, r₁, d₂, r₂, h1, h2, rfl, rfl⟩ := hr
  have := reachA_runs _ _ _ h1
  subst this
  rw [List.append_nil] at hQ
  have key := sumL_deal hE hL hf (pl := pl) hc (n := n) (gets := fun _ => some l) (dec := fun ts Bs => dec (pickT js ts) Bs) hone ht
  have := key f pl (loopA' n D (fun _ => some l) fun ts Bs => dec (pickT js ts) Bs) (by
    have hbp : ∀ p : List Bool, sumL.beqP p p = true := fun p => by
      induction p with
      | nil => rfl
      | cons b p ih => cases b <;> simpa [sumL.beqP] using ih
    simp [sumL, hbp])
  exact this.2 c' hc' ts ι h w nb a p d₂ r₂ hfit (by simpa using h2) Q hQ

/-! ### One of two contracts -/

def call2G {ξ : Type} (D₁ D₂ : CDeal ξ) (c : ξ → Bool) (dec : List AVal → List Blk → Option ξ) (as : List AVal) : AM AVal :=
  (reachA 40 0 (addNew [] (idsL as))).bind fun l => readsA l fun Bs => match dec as Bs with
    | some x => .br (c x) (callD D₁ (fun _ => some l) dec as) (callD D₂ (fun _ => some l) dec as)
    | none => .fail

theorem sum2_deal (hE : Plain E) (hS : SumsOK P E ra base S) {f : FuncId} (hb : HasBody P f) {ξ : Type} {D₁ D₂ : CDeal ξ} {c : ξ → Bool} {dec : List AVal → List Blk → Option ξ}
    (h1 : ∀ x, D₁.pre x = true → Gives P E ra base (D₁.blks x).length f (D₁.args x) (hp 0 (D₁.blks x)) fun v h' => v = D₁.out x ∧ h' = hp 0 (D₁.blks' x))
    (h2 : ∀ x, D₂.pre x = true → Gives P E ra base (D₂.blks x).length f (D₂.args x) (hp 0 (D₂.blks x)) fun v h' => v = D₂.out x ∧ h' = hp 0 (D₂.blks' x)) : SumsOK P E ra base (sumF f (call2G D₁ D₂ c dec) S) := by
  refine sumF_ok hS hb fun as h v d r hr => ?_
  simp only [call2G, runs_bind] at hr
  obtain ⟨l, d₁, r₁, d₂, r₂, g1, g2, rfl, rfl⟩ := hr
  have := reachA_runs _ _ _ g1
  subst this
  rw [List.append_nil]
  obtain ⟨Bs, r', _, _, g3⟩ := reads_runs g2
  split at g3
  · rename_i x hx
    simp only [AM.Runs] at g3
    cases hc : c x with
    | true =>
      rw [hc] at g3
      have key := sumF_deal hE hS hb (gets := fun _ => some l) (dec := dec) h1
      have := key f (callD D₁ (fun _ => some l) dec) (by simp [sumF])
      exact this.2 as h v d₂ _ (by simpa using g3)
    | false =>
      rw [hc] at g3
      have key := sumF_deal hE hS hb (gets := fun _ => some l) (dec := dec) h2
      have := key f (callD D₂ (fun _ => some l) dec) (by simp [sumF])
      exact this.2 as h v d₂ _ (by simpa using g3)
  · exact g3.elim

def loop2G (n : Nat) {ξ : Type} (D₁ D₂ : Deal ξ) (c : ξ → Bool) (js : List Nat) (dec : List AVal → List Blk → Option ξ) (ts : Tmps) : AM (AExit × Tmps) :=
  (reachA 40 0 (addNew [] (idsL (pickT js ts)))).bind fun l => readsA l fun Bs => match dec (pickT js ts) Bs with
    | some x => .br (c x) (loopA' n D₁ (fun _ => some l) (fun ts Bs => dec (pickT js ts) Bs) ts) (loopA' n D₂ (fun _ => some l) (fun ts Bs => dec (pickT js ts) Bs) ts)
    | none => .fail

theorem beqP_self : ∀ p : List Bool, sumL.beqP p p = true
  | [] => rfl
  | b :: p => by cases b <;> simpa [sumL.beqP] using beqP_self p

theorem sum2L_deal (hE : Plain E) (hL : LoopsOK P E ra base L) {f : FuncId} (hf : Nat.beq f noF = false) {pl : List Bool} {c : Code} (hc : codeAt P f (false :: pl) = some c) {n : Nat} {ξ : Type} {D₁ D₂ : Deal ξ} {b : ξ → Bool} {js : List Nat} {dec : List AVal → List Blk → Option ξ}
    (o1 : ∀ x, onceB n (D₁.outs x) = true) (o2 : ∀ x, onceB n (D₂.outs x) = true)
    (h1 : ∀ x, D₁.pre x = true → Takes P E ra base (D₁.blks x).length (.loop c) (mkT n (D₁.ins x)) (hp 0 (D₁.blks x)) fun y => y = (D₁.ex x, mkT n (D₁.outs x), hp 0 (D₁.blks' x)))
    (h2 : ∀ x, D₂.pre x = true → Takes P E ra base (D₂.blks x).length (.loop c) (mkT n (D₂.ins x)) (hp 0 (D₂.blks x)) fun y => y = (D₂.ex x, mkT n (D₂.outs x), hp 0 (D₂.blks' x))) : LoopsOK P E ra base (sumL f pl (loop2G n D₁ D₂ b js dec) L) := by
  refine sumL_ok hL hf fun c' hc' ts ι h w nb a p d r hfit hr Q hQ => ?_
  simp only [loop2G, runs_bind] at hr
  obtain ⟨l, d₁, r₁, d₂, r₂, g1, g2, rfl, rfl⟩ := hr
  have := reachA_runs _ _ _ g1
  subst this
  rw [List.append_nil] at hQ
  obtain ⟨Bs, r', _, _, g3⟩ := reads_runs g2
  split at g3
  · rename_i x hx
    simp only [AM.Runs] at g3
    cases hb : b x with
    | true =>
      rw [hb] at g3
      have key := sumL_deal hE hL hf (pl := pl) hc (n := n) (gets := fun _ => some l) (dec := fun ts Bs => dec (pickT js ts) Bs) o1 h1
      have := key f pl (loopA' n D₁ (fun _ => some l) fun ts Bs => dec (pickT js ts) Bs) (by simp [sumL, beqP_self])
      exact this.2 c' hc' ts ι h w nb a p d₂ _ hfit (by simpa using g3) Q hQ
    | false =>
      rw [hb] at g3
      have key := sumL_deal hE hL hf (pl := pl) hc (n := n) (gets := fun _ => some l) (dec := fun ts Bs => dec (pickT js ts) Bs) o2 h2
      have := key f pl (loopA' n D₂ (fun _ => some l) fun ts Bs => dec (pickT js ts) Bs) (by simp [sumL, beqP_self])
      exact this.2 c' hc' ts ι h w nb a p d₂ _ hfit (by simpa using g3) Q hQ
  · exact g3.elim

end Go.Proofs.Ytcgebafffkpmfaa.Ab
