/- oper: rounds of Apply's inner loop. -/
import Derived.Test.YtbfebjmmpiffpaaP04c
import Derived.Test.YtbfebjmmpiffpaaT04c
set_option linter.unusedSimpArgs false
set_option linter.unusedVariables false
namespace Go.Proofs.Ytbfebjmmpiffpaa
open Ab

theorem makes_pass {x : Op4} {r : Rc} (h : r.err = true ∨ r.late = true) : makes x r = [r] := by rw [makes, if_pos h]
theorem makes_not {x : Op4} {r : Rc} (h1 : r.err = false) (h2 : r.late = false) : makes x r = if x.k = 0 then [⟨r.key, r.time, wr .i64 (wr .i64 (r.val * x.a) + x.b), r.side, r.err, r.late⟩] else
  if x.k = 1 then [⟨keyOf x r, r.time, r.val, r.side, r.err, r.late⟩] else
  if x.k = 2 then if leftOf x r = x.b then [r] else [] else copies x x.a.toNat r := by
  rw [makes, if_neg (by rw [h1, h2]; decide)]

def fullB (o : List Rc) : Bool := !o.isEmpty
theorem fullB_app {o p : List Rc} (h : fullB o = true) : fullB (o ++ p) = true := by
  cases o with
  | nil => cases h
  | cons => rfl
theorem full_nil {o : List Rc} (h : fullB o = false) : o = [] := by
  cases o with
  | nil => rfl
  | cons => cases h

/-- a list's record, by its fields -/
structure Cols (l : List Rc) (i : Nat) (r : Rc) : Prop where
  fk : List.getD (Rs.ks (Rs.of l)) (0 + Int.toNat (i : Int)) 0 = r.key
  ft : List.getD (Rs.ts (Rs.of l)) (0 + Int.toNat (i : Int)) 0 = r.time
  fv : List.getD (Rs.vs (Rs.of l)) (0 + Int.toNat (i : Int)) 0 = r.val
  fs : List.getD (Rs.ss (Rs.of l)) (0 + Int.toNat (i : Int)) 0 = r.side
  fe : List.getD (Rs.es (Rs.of l)) (0 + Int.toNat (i : Int)) false = r.err
  fl : List.getD (Rs.ls (Rs.of l)) (0 + Int.toNat (i : Int)) false = r.late
  flt : i < l.length

theorem cols_of {l : List Rc} {i : Nat} {r : Rc} (h : l[i]? = some r) : Cols l i r := by
  have e : 0 + Int.toNat (i : Int) = i := by simp
  refine ⟨?_, ?_, ?_, ?_, ?_, ?_, (List.getElem?_eq_some_iff.1 h).1⟩ <;> rw [e] <;> simp [Rs.of, List.getD_eq_getElem?_getD, h]

/-- the records that were made, by their fields -/
structure Tk (o : List Rc) : Prop where
  fk : List.take (o.length) (List.drop 0 (Rs.ks (Rs.of o))) = o.map Rc.key
  ft : List.take (o.length) (List.drop 0 (Rs.ts (Rs.of o))) = o.map Rc.time
  fv : List.take (o.length) (List.drop 0 (Rs.vs (Rs.of o))) = o.map Rc.val
  fs : List.take (o.length) (List.drop 0 (Rs.ss (Rs.of o))) = o.map Rc.side
  fe : List.take (o.length) (List.drop 0 (Rs.es (Rs.of o))) = o.map Rc.err
  fl : List.take (o.length) (List.drop 0 (Rs.ls (Rs.of o))) = o.map Rc.late
theorem tk_of (o : List Rc) : Tk o := by
  refine ⟨?_, ?_, ?_, ?_, ?_, ?_⟩ <;> simp only [Rs.of, List.drop_zero] <;> exact List.take_of_length_le (by simp)

theorem ks_len (o : List Rc) : List.length (Rs.ks (Rs.of o)) = o.length := List.length_map _
theorem of_blk (o : List Rc) : (Rs.of o).blk = .segs [⟨o.length, 6, [.int .u32 (o.map Rc.key), .int .i64 (o.map Rc.time), .int .i64 (o.map Rc.val), .int .u8 (o.map Rc.side), .bool (o.map Rc.err), .bool (o.map Rc.late)]⟩] := by
  rw [Rs.blk, ks_len]; rfl
theorem u1 {α : Type} (F : Rc → α) (o : List Rc) (v : α) : List.take (o.length + 1) (List.drop 0 (o.map F ++ List.take 1 (List.drop 0 [v]))) = o.map F ++ [v] := by
  rw [List.drop_zero]; exact List.take_of_length_le (by simp)
theorem u2 {α : Type} (F : Rc → α) (o : List Rc) (v w : α) : List.take (o.length + 1 + 1) (List.drop 0 (o.map F ++ [v] ++ List.take 1 (List.drop 0 [w]))) = o.map F ++ [v] ++ [w] := by
  rw [List.drop_zero]; exact List.take_of_length_le (by simp)
theorem till {i : Nat} (h : i ≤ 4000000) : wr .i64 ((i : Int) + 1) = ((i + 1 : Nat) : Int) := by rw [wr_in ⟨by omega, by omega⟩]; omega
theorem room {n : Nat} (h : n ≤ 4000000) : decide (n * 32 ≤ 35184372088832) = true := decide_eq_true (by omega)

section
variable {E : Nat → Nat → Seg} {ra : Nat → Nat → Nat × Nat} {base : Nat}
def p2 : List Bool := [false, true, false, true, true, true, true, false, false, true, true, false, false, true, false, true, true]
/-- what stands in the loop, of so many rounds -/
def inT (x : Op4) (f : Fr) (c : Option Nat) (l : List Rc) (i : Nat) : Tmps := mkT 63 (Rd.at ⟨x, f, true, [], c⟩ (Rs.of l) (l.length : Nat) (i : Nat))
def inH (x : Op4) (f : Fr) (c : Option Nat) (l o : List Rc) : Log := hp 0 (Rd.blks ⟨x, f, true, [], c⟩ (Rs.of l) 4 (fullB o) (Rs.of o))
def InStep (E : Nat → Nat → Seg) (ra : Nat → Nat → Nat × Nat) (base : Nat) (x : Op4) : Prop := ∀ (f : Fr) (c : Option Nat) (l o : List Rc) (i : Nat) (r : Rc), l[i]? = some r → l.length ≤ 1000000 → o.length ≤ 3000000 →
  Takes Try.prog E ra base 1 (codeOf 15 (false :: p2)) (inT x f c l i) (inH x f c l o) fun y => y = (.normal, inT x f c l (i + 1), inH x f c l (o ++ makes x r))

theorem inT_eq {x : Op4} {f : Fr} {c : Option Nat} {l : List Rc} {i : Nat} : inT x f c l i = mkT 63 [(7, .ptr (.own 1 0 0 0)), (8, fnV x.k), (9, .ptr (.own 2 0 0 0)), (15, .slice (.own 0 0 0 4) f.o.kk.length f.c), (16, .int .i64 f.n), (17, .int .i64 f.i), (34, .slice (.own 3 0 0 6) l.length c), (35, .int .i64 (l.length : Nat)), (36, .int .i64 (i : Nat))] := by
  rw [inT, Rd.at, Rd.lV]
  simp only [ks_len]; rfl
theorem of_len (l : List Rc) : (Rs.of l).blk = .segs [⟨l.length, 6, [.int .u32 (Rs.of l).ks, .int .i64 (Rs.of l).ts, .int .i64 (Rs.of l).vs, .int .u8 (Rs.of l).ss, .bool (Rs.of l).es, .bool (Rs.of l).ls]⟩] := by rw [Rs.blk, ks_len]
theorem inH_S {x : Op4} {f : Fr} {c : Option Nat} {l o : List Rc} (h : fullB o = true) : inH x f c l o = hp 0 [f.o.blk, x.cells, cellB (.slice (.own 4 0 0 6) o.length none), .segs [⟨l.length, 6, [.int .u32 (Rs.of l).ks, .int .i64 (Rs.of l).ts, .int .i64 (Rs.of l).vs, .int .u8 (Rs.of l).ss, .bool (Rs.of l).es, .bool (Rs.of l).ls]⟩], .segs [⟨o.length, 6, [.int .u32 (o.map Rc.key), .int .i64 (o.map Rc.time), .int .i64 (o.map Rc.val), .int .u8 (o.map Rc.side), .bool (o.map Rc.err), .bool (o.map Rc.late)]⟩]] := by
  rw [← of_len]; simp only [inH, Rd.blks, h, oV, oB, ks_len, of_blk]; rfl
theorem inH_N {x : Op4} {f : Fr} {c : Option Nat} {l : List Rc} : inH x f c l [] = hp 0 [f.o.blk, x.cells, cellB .nils, .segs [⟨l.length, 6, [.int .u32 (Rs.of l).ks, .int .i64 (Rs.of l).ts, .int .i64 (Rs.of l).vs, .int .u8 (Rs.of l).ss, .bool (Rs.of l).es, .bool (Rs.of l).ls]⟩]] := by rw [← of_len]; rfl
theorem inH_1 {x : Op4} {f : Fr} {c : Option Nat} {l o : List Rc} {r : Rc} (h : fullB o = true) : inH x f c l (o ++ [r]) = hp 0 [f.o.blk, x.cells, cellB (.slice (.own 4 0 0 6) (o.length + 1) none), .segs [⟨l.length, 6, [.int .u32 (Rs.of l).ks, .int .i64 (Rs.of l).ts, .int .i64 (Rs.of l).vs, .int .u8 (Rs.of l).ss, .bool (Rs.of l).es, .bool (Rs.of l).ls]⟩], .segs [⟨o.length + 1, 6, [.int .u32 (o.map Rc.key ++ [r.key]), .int .i64 (o.map Rc.time ++ [r.time]), .int .i64 (o.map Rc.val ++ [r.val]), .int .u8 (o.map Rc.side ++ [r.side]), .bool (o.map Rc.err ++ [r.err]), .bool (o.map Rc.late ++ [r.late])]⟩]] := by
  rw [inH_S (fullB_app h), List.length_append]; simp only [List.map_append]; rfl
theorem inH_N1 {x : Op4} {f : Fr} {c : Option Nat} {l : List Rc} {r : Rc} : inH x f c l [r] = hp 0 [f.o.blk, x.cells, cellB (.slice (.own 4 0 0 6) 1 none), .segs [⟨l.length, 6, [.int .u32 (Rs.of l).ks, .int .i64 (Rs.of l).ts, .int .i64 (Rs.of l).vs, .int .u8 (Rs.of l).ss, .bool (Rs.of l).es, .bool (Rs.of l).ls]⟩], .segs [⟨1, 6, [.int .u32 ([r.key]), .int .i64 ([r.time]), .int .i64 ([r.val]), .int .u8 ([r.side]), .bool ([r.err]), .bool ([r.late])]⟩]] := by
  rw [inH_S rfl]; rfl
theorem inH_2 {x : Op4} {f : Fr} {c : Option Nat} {l o : List Rc} {r r' : Rc} (h : fullB o = true) : inH x f c l (o ++ [r, r']) = hp 0 [f.o.blk, x.cells, cellB (.slice (.own 4 0 0 6) (o.length + 2) none), .segs [⟨l.length, 6, [.int .u32 (Rs.of l).ks, .int .i64 (Rs.of l).ts, .int .i64 (Rs.of l).vs, .int .u8 (Rs.of l).ss, .bool (Rs.of l).es, .bool (Rs.of l).ls]⟩], .segs [⟨o.length + 2, 6, [.int .u32 (o.map Rc.key ++ [r.key] ++ [r'.key]), .int .i64 (o.map Rc.time ++ [r.time] ++ [r'.time]), .int .i64 (o.map Rc.val ++ [r.val] ++ [r'.val]), .int .u8 (o.map Rc.side ++ [r.side] ++ [r'.side]), .bool (o.map Rc.err ++ [r.err] ++ [r'.err]), .bool (o.map Rc.late ++ [r.late] ++ [r'.late])]⟩]] := by
  rw [inH_S (fullB_app h), List.length_append]; simp only [List.map_append, List.append_assoc]; rfl
theorem inH_N2 {x : Op4} {f : Fr} {c : Option Nat} {l : List Rc} {r r' : Rc} : inH x f c l [r, r'] = hp 0 [f.o.blk, x.cells, cellB (.slice (.own 4 0 0 6) 2 none), .segs [⟨l.length, 6, [.int .u32 (Rs.of l).ks, .int .i64 (Rs.of l).ts, .int .i64 (Rs.of l).vs, .int .u8 (Rs.of l).ss, .bool (Rs.of l).es, .bool (Rs.of l).ls]⟩], .segs [⟨2, 6, [.int .u32 ([r.key, r'.key]), .int .i64 ([r.time, r'.time]), .int .i64 ([r.val, r'.val]), .int .u8 ([r.side, r'.side]), .bool ([r.err, r'.err]), .bool ([r.late, r'.late])]⟩]] := by
  rw [inH_S rfl]; rfl
theorem inH_3 {x : Op4} {f : Fr} {c : Option Nat} {l o : List Rc} {r r' r'' : Rc} (h : fullB o = true) : inH x f c l (o ++ [r, r', r'']) = hp 0 [f.o.blk, x.cells, cellB (.slice (.own 4 0 0 6) (o.length + 3) none), .segs [⟨l.length, 6, [.int .u32 (Rs.of l).ks, .int .i64 (Rs.of l).ts, .int .i64 (Rs.of l).vs, .int .u8 (Rs.of l).ss, .bool (Rs.of l).es, .bool (Rs.of l).ls]⟩], .segs [⟨o.length + 3, 6, [.int .u32 (o.map Rc.key ++ [r.key] ++ [r'.key] ++ [r''.key]), .int .i64 (o.map Rc.time ++ [r.time] ++ [r'.time] ++ [r''.time]), .int .i64 (o.map Rc.val ++ [r.val] ++ [r'.val] ++ [r''.val]), .int .u8 (o.map Rc.side ++ [r.side] ++ [r'.side] ++ [r''.side]), .bool (o.map Rc.err ++ [r.err] ++ [r'.err] ++ [r''.err]), .bool (o.map Rc.late ++ [r.late] ++ [r'.late] ++ [r''.late])]⟩]] := by
  rw [inH_S (fullB_app h), List.length_append]; simp only [List.map_append, List.append_assoc]; rfl
theorem inH_N3 {x : Op4} {f : Fr} {c : Option Nat} {l : List Rc} {r r' r'' : Rc} : inH x f c l [r, r', r''] = hp 0 [f.o.blk, x.cells, cellB (.slice (.own 4 0 0 6) 3 none), .segs [⟨l.length, 6, [.int .u32 (Rs.of l).ks, .int .i64 (Rs.of l).ts, .int .i64 (Rs.of l).vs, .int .u8 (Rs.of l).ss, .bool (Rs.of l).es, .bool (Rs.of l).ls]⟩], .segs [⟨3, 6, [.int .u32 ([r.key, r'.key, r''.key]), .int .i64 ([r.time, r'.time, r''.time]), .int .i64 ([r.val, r'.val, r''.val]), .int .u8 ([r.side, r'.side, r''.side]), .bool ([r.err, r'.err, r''.err]), .bool ([r.late, r'.late, r''.late])]⟩]] := by
  rw [inH_S rfl]; rfl
end
end Go.Proofs.Ytbfebjmmpiffpaa
