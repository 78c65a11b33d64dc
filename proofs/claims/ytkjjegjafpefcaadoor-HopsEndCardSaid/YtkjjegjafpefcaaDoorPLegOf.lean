/- What directives tell: the program's and the document's are one. -/
import Derived.Test.YtkjjegjafpefcaaDoorPLeg
namespace Go.Proofs.YtkjjegjafpefcaaDoor.R
open Go Go.RowKit
set_option linter.unusedSimpArgs false
set_option linter.unusedVariables false
abbrev nmD (d : Dir) : Bs := d.1.data.toList
def hasL (nm : Bs) (l : List Dir) : Bool := l.any fun d => decide (nmD d = nm)
def dval (nm : Bs) (d : Dir) : Int := if nm = [109, 97, 120, 45, 115, 116, 97, 108, 101] ∧ d.2.2 = false then 2147483648 else (digV d.2.1.data.toList).1
def numL (nm : Bs) : List Dir → Int
  | [] => -1
  | d :: r => if nmD d = nm then dval nm d else numL nm r
theorem dval_nn (nm : Bs) (d : Dir) : 0 ≤ dval nm d := by
  unfold dval
  split
  · decide
  · exact (digV_bd _).1
theorem numL_app (nm : Bs) (q : List Dir) : ∀ p : List Dir, numL nm (p ++ q) = if hasL nm p = true then numL nm p else numL nm q
  | [] => rfl
  | d :: p => by
    have ih := numL_app nm q p
    simp only [List.cons_append, numL]
    by_cases h : nmD d = nm
    · rw [if_pos h, if_pos h, if_pos (by simp [hasL, h])]
    · rw [if_neg h, if_neg h, ih]
      have : hasL nm (d :: p) = hasL nm p := by simp [hasL, h]
      rw [this]
theorem numL_nn (nm : Bs) : ∀ l : List Dir, (hasL nm l = true → 0 ≤ numL nm l) ∧ (hasL nm l = false → numL nm l = -1)
  | [] => ⟨fun h => by simp [hasL] at h, fun _ => rfl⟩
  | d :: l => by
    have ih := numL_nn nm l
    unfold numL
    by_cases h : nmD d = nm
    · rw [if_pos h]
      exact ⟨fun _ => dval_nn nm d, fun hh => by simp [hasL, h] at hh⟩
    · rw [if_neg h]
      have : hasL nm (d :: l) = hasL nm l := by simp [hasL, h]
      rw [this]
      exact ih
theorem hasL_app (nm : Bs) (p q : List Dir) : hasL nm (p ++ q) = (hasL nm p || hasL nm q) := by unfold hasL; rw [List.any_append]
theorem hasL_snoc (nm : Bs) (p : List Dir) (d : Dir) : hasL nm (p ++ [d]) = (hasL nm p || decide (nmD d = nm)) := by rw [hasL_app]; simp [hasL]
theorem numL_snoc (nm : Bs) (p : List Dir) (d : Dir) : numL nm (p ++ [d]) = if hasL nm p = true then numL nm p else if nmD d = nm then dval nm d else -1 := by rw [numL_app]; rfl
abbrev R13 := Bool × Bool × Bool × Bool × Bool × Bool × Bool × Bool × Int × Int × Int × Int × Int
def ofM (l : List Dir) : R13 := (hasL [110, 111, 45, 115, 116, 111, 114, 101] l, hasL [110, 111, 45, 99, 97, 99, 104, 101] l, hasL [112, 114, 105, 118, 97, 116, 101] l, hasL [112, 117, 98, 108, 105, 99] l, hasL [109, 117, 115, 116, 45, 114, 101, 118, 97, 108, 105, 100, 97, 116, 101] l, hasL [112, 114, 111, 120, 121, 45, 114, 101, 118, 97, 108, 105, 100, 97, 116, 101] l, hasL [105, 109, 109, 117, 116, 97, 98, 108, 101] l, hasL [111, 110, 108, 121, 45, 105, 102, 45, 99, 97, 99, 104, 101, 100] l, numL [109, 97, 120, 45, 97, 103, 101] l, numL [115, 45, 109, 97, 120, 97, 103, 101] l, numL [109, 97, 120, 45, 115, 116, 97, 108, 101] l, numL [109, 105, 110, 45, 102, 114, 101, 115, 104] l, numL [115, 116, 97, 108, 101, 45, 105, 102, 45, 101, 114, 114, 111, 114] l)
theorem ofM_snoc (p : List Dir) (d : Dir) : ofM (p ++ [d]) = ((hasL [110, 111, 45, 115, 116, 111, 114, 101] p || decide (nmD d = [110, 111, 45, 115, 116, 111, 114, 101])), (hasL [110, 111, 45, 99, 97, 99, 104, 101] p || decide (nmD d = [110, 111, 45, 99, 97, 99, 104, 101])), (hasL [112, 114, 105, 118, 97, 116, 101] p || decide (nmD d = [112, 114, 105, 118, 97, 116, 101])), (hasL [112, 117, 98, 108, 105, 99] p || decide (nmD d = [112, 117, 98, 108, 105, 99])), (hasL [109, 117, 115, 116, 45, 114, 101, 118, 97, 108, 105, 100, 97, 116, 101] p || decide (nmD d = [109, 117, 115, 116, 45, 114, 101, 118, 97, 108, 105, 100, 97, 116, 101])), (hasL [112, 114, 111, 120, 121, 45, 114, 101, 118, 97, 108, 105, 100, 97, 116, 101] p || decide (nmD d = [112, 114, 111, 120, 121, 45, 114, 101, 118, 97, 108, 105, 100, 97, 116, 101])), (hasL [105, 109, 109, 117, 116, 97, 98, 108, 101] p || decide (nmD d = [105, 109, 109, 117, 116, 97, 98, 108, 101])), (hasL [111, 110, 108, 121, 45, 105, 102, 45, 99, 97, 99, 104, 101, 100] p || decide (nmD d = [111, 110, 108, 121, 45, 105, 102, 45, 99, 97, 99, 104, 101, 100])), (if hasL [109, 97, 120, 45, 97, 103, 101] p = true then numL [109, 97, 120, 45, 97, 103, 101] p else if nmD d = [109, 97, 120, 45, 97, 103, 101] then dval [109, 97, 120, 45, 97, 103, 101] d else -1), (if hasL [115, 45, 109, 97, 120, 97, 103, 101] p = true then numL [115, 45, 109, 97, 120, 97, 103, 101] p else if nmD d = [115, 45, 109, 97, 120, 97, 103, 101] then dval [115, 45, 109, 97, 120, 97, 103, 101] d else -1), (if hasL [109, 97, 120, 45, 115, 116, 97, 108, 101] p = true then numL [109, 97, 120, 45, 115, 116, 97, 108, 101] p else if nmD d = [109, 97, 120, 45, 115, 116, 97, 108, 101] then dval [109, 97, 120, 45, 115, 116, 97, 108, 101] d else -1), (if hasL [109, 105, 110, 45, 102, 114, 101, 115, 104] p = true then numL [109, 105, 110, 45, 102, 114, 101, 115, 104] p else if nmD d = [109, 105, 110, 45, 102, 114, 101, 115, 104] then dval [109, 105, 110, 45, 102, 114, 101, 115, 104] d else -1), (if hasL [115, 116, 97, 108, 101, 45, 105, 102, 45, 101, 114, 114, 111, 114] p = true then numL [115, 116, 97, 108, 101, 45, 105, 102, 45, 101, 114, 114, 111, 114] p else if nmD d = [115, 116, 97, 108, 101, 45, 105, 102, 45, 101, 114, 114, 111, 114] then dval [115, 116, 97, 108, 101, 45, 105, 102, 45, 101, 114, 114, 111, 114] d else -1)) := by
  unfold ofM
  simp only [hasL_snoc, numL_snoc]
def ofSt (l : List Dir) (i : Nat) : Tup [(.sl 62 (.agg (.pair .str (.pair .str .bool)))), (.int .i64), (.int .i64), .bool, .bool, .bool, .bool, .bool, .bool, .bool, .bool, (.int .i64), (.int .i64), (.int .i64), (.int .i64), (.int .i64), .bool, .bool, .bool, .bool, .bool, .bool, .bool, .bool, (.int .i64), (.int .i64), (.int .i64), (.int .i64), (.int .i64)] := (l, ((l.length : Int), ((i : Int), (false, (false, (false, (false, (false, (false, (false, (false, ((0 : Int), ((0 : Int), ((0 : Int), ((0 : Int), ((0 : Int), ofM (l.take i)))))))))))))))))
theorem number_is (d : Dir) (h : d.2.1.size ≤ 9223372036854775807) (k : Nat) : _legacy_Directive__number.f k d = some (digV d.2.1.data.toList).1 := by
  unfold _legacy_Directive__number.f
  have : ascii_Digits.f k d.2.1 = some (digV d.2.1.data.toList) := (congrArg (fun q => ascii_Digits.f k q) (B_of d.2.1)).trans (digits_is _ (by rw [Array.length_toList]; exact h) k)
  rw [this, bindO_some]
theorem eqS_lit (x : ByteArray) (l : Bs) : eqS x (⟨l.toArray⟩ : ByteArray) = decide (x.data.toList = l) := by
  have := B_eq x.data.toList l
  rw [← B_of x] at this
  exact this
theorem of_j2 (K : Nat) (r : _) (l : List Dir) (n i : Int) (z0 z1 z2 z3 z4 z5 z6 z7 : Bool) (z8 z9 z10 z11 z12 : Int) (s0 s1 s2 s3 s4 s5 s6 s7 : Bool) (n0 n1 n2 n3 n4 : Int) (d : Dir) (h : d.2.1.size ≤ 9223372036854775807) :
    legacy_Of.j2 K r (l, (n, (i, (z0, (z1, (z2, (z3, (z4, (z5, (z6, (z7, (z8, (z9, (z10, (z11, (z12, (s0, (s1, (s2, (s3, (s4, (s5, (s6, (s7, (n0, (n1, (n2, (n3, (n4, (d.1, (d.2.1, (d.2.2)))))))))))))))))))))))))))))))) = legacy_Of.j3 K r (l, (n, (i, (z0, (z1, (z2, (z3, (z4, (z5, (z6, (z7, (z8, (z9, (z10, (z11, (z12, (s0, (s1, (s2, (s3, (s4, (s5, (s6, (s7, ((if nmD d = [109, 97, 120, 45, 97, 103, 101] ∧ ¬ 0 ≤ n0 then dval [109, 97, 120, 45, 97, 103, 101] d else n0), ((if nmD d = [115, 45, 109, 97, 120, 97, 103, 101] ∧ ¬ 0 ≤ n1 then dval [115, 45, 109, 97, 120, 97, 103, 101] d else n1), ((if nmD d = [109, 97, 120, 45, 115, 116, 97, 108, 101] ∧ ¬ 0 ≤ n2 then dval [109, 97, 120, 45, 115, 116, 97, 108, 101] d else n2), ((if nmD d = [109, 105, 110, 45, 102, 114, 101, 115, 104] ∧ ¬ 0 ≤ n3 then dval [109, 105, 110, 45, 102, 114, 101, 115, 104] d else n3), ((if nmD d = [115, 116, 97, 108, 101, 45, 105, 102, 45, 101, 114, 114, 111, 114] ∧ ¬ 0 ≤ n4 then dval [115, 116, 97, 108, 101, 45, 105, 102, 45, 101, 114, 114, 111, 114] d else n4)))))))))))))))))))))))))))))) := by
  have hd := number_is d h K
  have hd' : _legacy_Directive__number.f K (d.1, (d.2.1, d.2.2)) = some (digV d.2.1.data.toList).1 := hd
  unfold legacy_Of.j2
  simp only [eqD, eqS_lit, leD, ifO_dec, hd', bindO_some]
  by_cases c0 : nmD d = [109, 97, 120, 45, 97, 103, 101]
  · have e : d.1.data.toList = [109, 97, 120, 45, 97, 103, 101] := c0
    simp +decide only [e, nmD, if_true, if_false, true_and, false_and, and_true, dval]
    by_cases g : 0 ≤ n0
    · simp only [g, not_true_eq_false, if_true, if_false]
    · simp only [g, not_false_eq_true, if_true, if_false]
  by_cases c1 : nmD d = [115, 45, 109, 97, 120, 97, 103, 101]
  · have e : d.1.data.toList = [115, 45, 109, 97, 120, 97, 103, 101] := c1
    simp +decide only [e, nmD, if_true, if_false, true_and, false_and, and_true, dval]
    by_cases g : 0 ≤ n1
    · simp only [g, not_true_eq_false, if_true, if_false]
    · simp only [g, not_false_eq_true, if_true, if_false]
  by_cases c2 : nmD d = [109, 97, 120, 45, 115, 116, 97, 108, 101]
  · have e : d.1.data.toList = [109, 97, 120, 45, 115, 116, 97, 108, 101] := c2
    simp +decide only [e, nmD, if_true, if_false, true_and, false_and, and_true, dval]
    by_cases g : 0 ≤ n2
    · simp only [g, not_true_eq_false, if_true, if_false]
    · simp only [g, not_false_eq_true, if_true, if_false]
      cases hh : d.2.2 <;> simp +decide only [notB, Bool.not_true, Bool.not_false, ifO_true, ifO_false, true_and, false_and, and_true, and_false, if_true, if_false]
  by_cases c3 : nmD d = [109, 105, 110, 45, 102, 114, 101, 115, 104]
  · have e : d.1.data.toList = [109, 105, 110, 45, 102, 114, 101, 115, 104] := c3
    simp +decide only [e, nmD, if_true, if_false, true_and, false_and, and_true, dval]
    by_cases g : 0 ≤ n3
    · simp only [g, not_true_eq_false, if_true, if_false]
    · simp only [g, not_false_eq_true, if_true, if_false]
  by_cases c4 : nmD d = [115, 116, 97, 108, 101, 45, 105, 102, 45, 101, 114, 114, 111, 114]
  · have e : d.1.data.toList = [115, 116, 97, 108, 101, 45, 105, 102, 45, 101, 114, 114, 111, 114] := c4
    simp +decide only [e, nmD, if_true, if_false, true_and, false_and, and_true, dval]
    by_cases g : 0 ≤ n4
    · simp only [g, not_true_eq_false, if_true, if_false]
    · simp only [g, not_false_eq_true, if_true, if_false]
  · simp only [show ¬ d.1.data.toList = [109, 97, 120, 45, 97, 103, 101] from c0, show ¬ d.1.data.toList = [115, 45, 109, 97, 120, 97, 103, 101] from c1, show ¬ d.1.data.toList = [109, 97, 120, 45, 115, 116, 97, 108, 101] from c2, show ¬ d.1.data.toList = [109, 105, 110, 45, 102, 114, 101, 115, 104] from c3, show ¬ d.1.data.toList = [115, 116, 97, 108, 101, 45, 105, 102, 45, 101, 114, 114, 111, 114] from c4, nmD, if_false, false_and]
theorem of_round (l : List Dir) (i : Nat) (h : i < l.length) (hb : i < 9000000000000000000) (hd : l[i].2.1.size ≤ 9223372036854775807) (K : Nat) (r : _) : legacy_Of.l1b K r (ofSt l i) = r (ofSt l (i + 1)) := by
  have hs : ofSt l (i + 1) = (l, ((l.length : Int), (((i + 1 : Nat) : Int), (false, (false, (false, (false, (false, (false, (false, (false, ((0 : Int), ((0 : Int), ((0 : Int), ((0 : Int), ((0 : Int), ((hasL [110, 111, 45, 115, 116, 111, 114, 101] (l.take i) || decide (nmD l[i] = [110, 111, 45, 115, 116, 111, 114, 101])), (hasL [110, 111, 45, 99, 97, 99, 104, 101] (l.take i) || decide (nmD l[i] = [110, 111, 45, 99, 97, 99, 104, 101])), (hasL [112, 114, 105, 118, 97, 116, 101] (l.take i) || decide (nmD l[i] = [112, 114, 105, 118, 97, 116, 101])), (hasL [112, 117, 98, 108, 105, 99] (l.take i) || decide (nmD l[i] = [112, 117, 98, 108, 105, 99])), (hasL [109, 117, 115, 116, 45, 114, 101, 118, 97, 108, 105, 100, 97, 116, 101] (l.take i) || decide (nmD l[i] = [109, 117, 115, 116, 45, 114, 101, 118, 97, 108, 105, 100, 97, 116, 101])), (hasL [112, 114, 111, 120, 121, 45, 114, 101, 118, 97, 108, 105, 100, 97, 116, 101] (l.take i) || decide (nmD l[i] = [112, 114, 111, 120, 121, 45, 114, 101, 118, 97, 108, 105, 100, 97, 116, 101])), (hasL [105, 109, 109, 117, 116, 97, 98, 108, 101] (l.take i) || decide (nmD l[i] = [105, 109, 109, 117, 116, 97, 98, 108, 101])), (hasL [111, 110, 108, 121, 45, 105, 102, 45, 99, 97, 99, 104, 101, 100] (l.take i) || decide (nmD l[i] = [111, 110, 108, 121, 45, 105, 102, 45, 99, 97, 99, 104, 101, 100])), (if hasL [109, 97, 120, 45, 97, 103, 101] (l.take i) = true then numL [109, 97, 120, 45, 97, 103, 101] (l.take i) else if nmD l[i] = [109, 97, 120, 45, 97, 103, 101] then dval [109, 97, 120, 45, 97, 103, 101] l[i] else -1), (if hasL [115, 45, 109, 97, 120, 97, 103, 101] (l.take i) = true then numL [115, 45, 109, 97, 120, 97, 103, 101] (l.take i) else if nmD l[i] = [115, 45, 109, 97, 120, 97, 103, 101] then dval [115, 45, 109, 97, 120, 97, 103, 101] l[i] else -1), (if hasL [109, 97, 120, 45, 115, 116, 97, 108, 101] (l.take i) = true then numL [109, 97, 120, 45, 115, 116, 97, 108, 101] (l.take i) else if nmD l[i] = [109, 97, 120, 45, 115, 116, 97, 108, 101] then dval [109, 97, 120, 45, 115, 116, 97, 108, 101] l[i] else -1), (if hasL [109, 105, 110, 45, 102, 114, 101, 115, 104] (l.take i) = true then numL [109, 105, 110, 45, 102, 114, 101, 115, 104] (l.take i) else if nmD l[i] = [109, 105, 110, 45, 102, 114, 101, 115, 104] then dval [109, 105, 110, 45, 102, 114, 101, 115, 104] l[i] else -1), (if hasL [115, 116, 97, 108, 101, 45, 105, 102, 45, 101, 114, 114, 111, 114] (l.take i) = true then numL [115, 116, 97, 108, 101, 45, 105, 102, 45, 101, 114, 114, 111, 114] (l.take i) else if nmD l[i] = [115, 116, 97, 108, 101, 45, 105, 102, 45, 101, 114, 114, 111, 114] then dval [115, 116, 97, 108, 101, 45, 105, 102, 45, 101, 114, 114, 111, 114] l[i] else -1)))))))))))))))))) := by
    unfold ofSt
    rw [take_snoc l i h, ofM_snoc]
  have q1 := fun nm => numL_nn nm (l.take i)
  rw [hs]
  unfold legacy_Of.l1b ofSt
  simp only [lenL_nat, ltI_nat, inB_nat, ifO_dec]
  rw [if_pos h, if_pos h, elT_get (t := .agg (.pair .str (.pair .str .bool))) (xs := l) h]
  generalize hp : l.take i = p at *
  generalize hd0 : l[i] = d at *
  simp only [eqD, eqS_lit, ifO_dec, ofM]
  have fin : ∀ (s0 s1 s2 s3 s4 s5 s6 s7 : Bool), legacy_Of.j2 K r (l, ((l.length : Int), ((i : Int), (false, (false, (false, (false, (false, (false, (false, (false, ((0 : Int), ((0 : Int), ((0 : Int), ((0 : Int), ((0 : Int), (s0, (s1, (s2, (s3, (s4, (s5, (s6, (s7, (numL [109, 97, 120, 45, 97, 103, 101] p, (numL [115, 45, 109, 97, 120, 97, 103, 101] p, (numL [109, 97, 120, 45, 115, 116, 97, 108, 101] p, (numL [109, 105, 110, 45, 102, 114, 101, 115, 104] p, (numL [115, 116, 97, 108, 101, 45, 105, 102, 45, 101, 114, 114, 111, 114] p, (d.1, (d.2.1, (d.2.2)))))))))))))))))))))))))))))))) = r (l, ((l.length : Int), (((i + 1 : Nat) : Int), (false, (false, (false, (false, (false, (false, (false, (false, ((0 : Int), ((0 : Int), ((0 : Int), ((0 : Int), ((0 : Int), (s0, s1, s2, s3, s4, s5, s6, s7, (if hasL [109, 97, 120, 45, 97, 103, 101] p = true then numL [109, 97, 120, 45, 97, 103, 101] p else if nmD d = [109, 97, 120, 45, 97, 103, 101] then dval [109, 97, 120, 45, 97, 103, 101] d else -1), (if hasL [115, 45, 109, 97, 120, 97, 103, 101] p = true then numL [115, 45, 109, 97, 120, 97, 103, 101] p else if nmD d = [115, 45, 109, 97, 120, 97, 103, 101] then dval [115, 45, 109, 97, 120, 97, 103, 101] d else -1), (if hasL [109, 97, 120, 45, 115, 116, 97, 108, 101] p = true then numL [109, 97, 120, 45, 115, 116, 97, 108, 101] p else if nmD d = [109, 97, 120, 45, 115, 116, 97, 108, 101] then dval [109, 97, 120, 45, 115, 116, 97, 108, 101] d else -1), (if hasL [109, 105, 110, 45, 102, 114, 101, 115, 104] p = true then numL [109, 105, 110, 45, 102, 114, 101, 115, 104] p else if nmD d = [109, 105, 110, 45, 102, 114, 101, 115, 104] then dval [109, 105, 110, 45, 102, 114, 101, 115, 104] d else -1), (if hasL [115, 116, 97, 108, 101, 45, 105, 102, 45, 101, 114, 114, 111, 114] p = true then numL [115, 116, 97, 108, 101, 45, 105, 102, 45, 101, 114, 114, 111, 114] p else if nmD d = [115, 116, 97, 108, 101, 45, 105, 102, 45, 101, 114, 114, 111, 114] then dval [115, 116, 97, 108, 101, 45, 105, 102, 45, 101, 114, 114, 111, 114] d else -1)))))))))))))))))) := by
    intro s0 s1 s2 s3 s4 s5 s6 s7
    rw [of_j2 K r l _ _ _ _ _ _ _ _ _ _ _ _ _ _ _ _ _ _ _ _ _ _ _ _ _ _ _ _ d hd]
    unfold legacy_Of.j3
    simp only
    rw [next64 (by omega)]
    have e0 : (if nmD d = [109, 97, 120, 45, 97, 103, 101] ∧ ¬ 0 ≤ numL [109, 97, 120, 45, 97, 103, 101] p then dval [109, 97, 120, 45, 97, 103, 101] d else numL [109, 97, 120, 45, 97, 103, 101] p) = (if hasL [109, 97, 120, 45, 97, 103, 101] p = true then numL [109, 97, 120, 45, 97, 103, 101] p else if nmD d = [109, 97, 120, 45, 97, 103, 101] then dval [109, 97, 120, 45, 97, 103, 101] d else -1) := by
      cases hh : hasL [109, 97, 120, 45, 97, 103, 101] p with
      | true => rw [if_neg (fun hx => hx.2 ((q1 _).1 hh)), if_pos rfl]
      | false => rw [(q1 _).2 hh]; simp
    have e1 : (if nmD d = [115, 45, 109, 97, 120, 97, 103, 101] ∧ ¬ 0 ≤ numL [115, 45, 109, 97, 120, 97, 103, 101] p then dval [115, 45, 109, 97, 120, 97, 103, 101] d else numL [115, 45, 109, 97, 120, 97, 103, 101] p) = (if hasL [115, 45, 109, 97, 120, 97, 103, 101] p = true then numL [115, 45, 109, 97, 120, 97, 103, 101] p else if nmD d = [115, 45, 109, 97, 120, 97, 103, 101] then dval [115, 45, 109, 97, 120, 97, 103, 101] d else -1) := by
      cases hh : hasL [115, 45, 109, 97, 120, 97, 103, 101] p with
      | true => rw [if_neg (fun hx => hx.2 ((q1 _).1 hh)), if_pos rfl]
      | false => rw [(q1 _).2 hh]; simp
    have e2 : (if nmD d = [109, 97, 120, 45, 115, 116, 97, 108, 101] ∧ ¬ 0 ≤ numL [109, 97, 120, 45, 115, 116, 97, 108, 101] p then dval [109, 97, 120, 45, 115, 116, 97, 108, 101] d else numL [109, 97, 120, 45, 115, 116, 97, 108, 101] p) = (if hasL [109, 97, 120, 45, 115, 116, 97, 108, 101] p = true then numL [109, 97, 120, 45, 115, 116, 97, 108, 101] p else if nmD d = [109, 97, 120, 45, 115, 116, 97, 108, 101] then dval [109, 97, 120, 45, 115, 116, 97, 108, 101] d else -1) := by
      cases hh : hasL [109, 97, 120, 45, 115, 116, 97, 108, 101] p with
      | true => rw [if_neg (fun hx => hx.2 ((q1 _).1 hh)), if_pos rfl]
      | false => rw [(q1 _).2 hh]; simp
    have e3 : (if nmD d = [109, 105, 110, 45, 102, 114, 101, 115, 104] ∧ ¬ 0 ≤ numL [109, 105, 110, 45, 102, 114, 101, 115, 104] p then dval [109, 105, 110, 45, 102, 114, 101, 115, 104] d else numL [109, 105, 110, 45, 102, 114, 101, 115, 104] p) = (if hasL [109, 105, 110, 45, 102, 114, 101, 115, 104] p = true then numL [109, 105, 110, 45, 102, 114, 101, 115, 104] p else if nmD d = [109, 105, 110, 45, 102, 114, 101, 115, 104] then dval [109, 105, 110, 45, 102, 114, 101, 115, 104] d else -1) := by
      cases hh : hasL [109, 105, 110, 45, 102, 114, 101, 115, 104] p with
      | true => rw [if_neg (fun hx => hx.2 ((q1 _).1 hh)), if_pos rfl]
      | false => rw [(q1 _).2 hh]; simp
    have e4 : (if nmD d = [115, 116, 97, 108, 101, 45, 105, 102, 45, 101, 114, 114, 111, 114] ∧ ¬ 0 ≤ numL [115, 116, 97, 108, 101, 45, 105, 102, 45, 101, 114, 114, 111, 114] p then dval [115, 116, 97, 108, 101, 45, 105, 102, 45, 101, 114, 114, 111, 114] d else numL [115, 116, 97, 108, 101, 45, 105, 102, 45, 101, 114, 114, 111, 114] p) = (if hasL [115, 116, 97, 108, 101, 45, 105, 102, 45, 101, 114, 114, 111, 114] p = true then numL [115, 116, 97, 108, 101, 45, 105, 102, 45, 101, 114, 114, 111, 114] p else if nmD d = [115, 116, 97, 108, 101, 45, 105, 102, 45, 101, 114, 114, 111, 114] then dval [115, 116, 97, 108, 101, 45, 105, 102, 45, 101, 114, 114, 111, 114] d else -1) := by
      cases hh : hasL [115, 116, 97, 108, 101, 45, 105, 102, 45, 101, 114, 114, 111, 114] p with
      | true => rw [if_neg (fun hx => hx.2 ((q1 _).1 hh)), if_pos rfl]
      | false => rw [(q1 _).2 hh]; simp
    rw [e0, e1, e2, e3, e4]
  by_cases c0 : d.1.data.toList = [110, 111, 45, 115, 116, 111, 114, 101]
  · rw [if_pos c0, fin]
    simp +decide [nmD, c0]
  rw [if_neg c0]
  by_cases c1 : d.1.data.toList = [110, 111, 45, 99, 97, 99, 104, 101]
  · rw [if_pos c1, fin]
    simp +decide [nmD, c1]
  rw [if_neg c1]
  by_cases c2 : d.1.data.toList = [112, 114, 105, 118, 97, 116, 101]
  · rw [if_pos c2, fin]
    simp +decide [nmD, c2]
  rw [if_neg c2]
  by_cases c3 : d.1.data.toList = [112, 117, 98, 108, 105, 99]
  · rw [if_pos c3, fin]
    simp +decide [nmD, c3]
  rw [if_neg c3]
  by_cases c4 : d.1.data.toList = [109, 117, 115, 116, 45, 114, 101, 118, 97, 108, 105, 100, 97, 116, 101]
  · rw [if_pos c4, fin]
    simp +decide [nmD, c4]
  rw [if_neg c4]
  by_cases c5 : d.1.data.toList = [112, 114, 111, 120, 121, 45, 114, 101, 118, 97, 108, 105, 100, 97, 116, 101]
  · rw [if_pos c5, fin]
    simp +decide [nmD, c5]
  rw [if_neg c5]
  by_cases c6 : d.1.data.toList = [105, 109, 109, 117, 116, 97, 98, 108, 101]
  · rw [if_pos c6, fin]
    simp +decide [nmD, c6]
  rw [if_neg c6]
  by_cases c7 : d.1.data.toList = [111, 110, 108, 121, 45, 105, 102, 45, 99, 97, 99, 104, 101, 100]
  · rw [if_pos c7, fin]
    simp +decide [nmD, c7]
  rw [if_neg c7]
  rw [fin]
  simp only [nmD, c0, c1, c2, c3, c4, c5, c6, c7, decide_false, Bool.or_false]
theorem of_is (l : List Dir) (hl : l.length ≤ 900000) (hd : ∀ d ∈ l, d.2.1.size ≤ 9223372036854775807) (k : Nat) (hk : 1000000 ≤ k) : legacy_Of.f k l = some (ofM l) := by
  unfold legacy_Of.f legacy_None.f legacy_Of.l1
  rw [bindO_some]
  refine iter_eq (f := legacy_Of.l1b k) (fun v => ∃ i : Nat, i ≤ l.length ∧ v = ofSt l i) (fun v => ((l.length : Int) + 1 - v.2.2.1).toNat) (fun _ => some (ofM l)) ?_ k _ ⟨0, Nat.zero_le _, rfl⟩ (by show ((l.length : Int) + 1 - 0).toNat < k; omega)
  rintro r v ⟨i, hi, rfl⟩ hr
  by_cases h : i < l.length
  · rw [of_round l i h (by omega) (hd _ (List.getElem_mem h))]
    exact hr _ ⟨i + 1, h, rfl⟩ (by show ((l.length : Int) + 1 - ((i + 1 : Nat) : Int)).toNat < ((l.length : Int) + 1 - (i : Int)).toNat; omega)
  · unfold legacy_Of.l1b ofSt
    simp only [ltI_nat, ifO_dec]
    rw [if_neg h, List.take_of_length_le (by omega)]
/-! ### the document's -/
def findL (nm : Bs) (l : List Dir) : Dir × Bool := match l with
  | [] => ((B [], B [], false), false)
  | d :: r => if nmD d = nm then (d, true) else findL nm r
theorem findL_cons (nm : Bs) (d : Dir) (r : List Dir) : findL nm (d :: r) = if nmD d = nm then (d, true) else findL nm r := rfl
theorem r10find (l : List Dir) (nm : Bs) (hl : l.length ≤ 900000) (k : Nat) (hk : 1000000 ≤ k) : ref10_find.f k (l, (⟨nm.toArray⟩ : ByteArray)) = some (findL nm l) := by
  unfold ref10_find.f ref10_find.l0
  refine iter_eq (f := ref10_find.l0b k) (fun v => v.1 = l ∧ v.2.1 = (⟨nm.toArray⟩ : ByteArray) ∧ ∃ i : Nat, v.2.2.1 = (i : Int) ∧ i ≤ l.length ∧ findL nm l = findL nm (l.drop i)) (fun v => (l.length + 1 - v.2.2.1).toNat) (fun _ => some (findL nm l)) ?_ k _ ⟨rfl, rfl, 0, rfl, Nat.zero_le _, rfl⟩ (by show ((l.length : Int) + 1 - 0).toNat < k; omega)
  rintro r ⟨s, m, i', z0, z1, z2⟩ ⟨h1, h2, i, h3, hi, h4⟩ hr
  simp only at h1 h2 h3
  subst h1; subst h2; subst h3
  unfold ref10_find.l0b
  simp only [lenL_nat, ltI_nat, inB_nat, ifO_dec]
  by_cases h : i < s.length
  · rw [if_pos h, if_pos h, elT_get (t := .agg (.pair .str (.pair .str .bool))) (xs := s) h, eqS_lit, ifO_dec, next64 (by omega)]
    rw [List.drop_eq_getElem_cons h, findL_cons] at h4
    by_cases hc : nmD s[i] = nm
    · rw [if_pos hc, if_pos h]
      rw [if_pos hc] at h4
      rw [h4]
    · rw [if_neg hc]
      rw [if_neg hc] at h4
      exact hr _ ⟨rfl, rfl, i + 1, rfl, h, h4⟩ (by show ((s.length : Int) + 1 - ((i + 1 : Nat) : Int)).toNat < ((s.length : Int) + 1 - (i : Int)).toNat; omega)
  · rw [if_neg h]
    rw [List.drop_eq_nil_of_le (by omega)] at h4
    rw [h4]; rfl
theorem findL_has (nm : Bs) : ∀ l : List Dir, (findL nm l).2 = hasL nm l
  | [] => rfl
  | d :: l => by
    unfold findL
    by_cases h : nmD d = nm
    · rw [if_pos h]; simp [hasL, h]
    · rw [if_neg h, findL_has nm l]; simp [hasL, h]
theorem findL_num (nm : Bs) : ∀ l : List Dir, numL nm l = if (findL nm l).2 = true then dval nm (findL nm l).1 else -1
  | [] => rfl
  | d :: l => by
    unfold findL numL
    by_cases h : nmD d = nm
    · rw [if_pos h, if_pos h]; simp
    · rw [if_neg h, if_neg h]; exact findL_num nm l
theorem findL_mem (nm : Bs) : ∀ l : List Dir, (findL nm l).2 = true → (findL nm l).1 ∈ l
  | [], h => by cases h
  | d :: l, h => by
    unfold findL at h ⊢
    by_cases hc : nmD d = nm
    · rw [if_pos hc] at h ⊢; exact List.mem_cons_self
    · rw [if_neg hc] at h ⊢; exact List.mem_cons_of_mem _ (findL_mem nm l h)
theorem r10has (l : List Dir) (nm : Bs) (hl : l.length ≤ 900000) (k : Nat) (hk : 1000000 ≤ k) : ref10_has.f k (l, (⟨nm.toArray⟩ : ByteArray)) = some (hasL nm l) := by
  unfold ref10_has.f
  rw [r10find l nm hl k hk, bindO_some, findL_has]
def numD (nm : Bs) (l : List Dir) : Int := if (findL nm l).2 = true then (digV (findL nm l).1.2.1.data.toList).1 else -1
theorem r10number (l : List Dir) (nm : Bs) (hl : l.length ≤ 900000) (hd : ∀ d ∈ l, d.2.1.size ≤ 900000) (k : Nat) (hk : 1000000 ≤ k) : ref10_number.f k (l, (⟨nm.toArray⟩ : ByteArray)) = some (numD nm l) := by
  unfold ref10_number.f numD
  rw [r10find l nm hl k hk, bindO_some]
  cases h : (findL nm l).2 with
  | false => rw [show notB false = true from rfl, ifO_true, if_neg (by decide)]
  | true =>
    have hs := hd _ (findL_mem nm l h)
    have : ref01_Digits.f k (findL nm l).1.2.1 = some (digV (findL nm l).1.2.1.data.toList) := (congrArg (fun q => ref01_Digits.f k q) (B_of _)).trans (r1digits _ (by rw [Array.length_toList]; exact Nat.le_trans hs (by decide)) k (by rw [Array.length_toList]; have : (findL nm l).1.2.1.data.size = (findL nm l).1.2.1.size := rfl; omega))
    rw [show notB true = false from rfl, ifO_false, this, bindO_some, if_pos rfl]
theorem numD_num (nm : Bs) (h : ¬ nm = [109, 97, 120, 45, 115, 116, 97, 108, 101]) (l : List Dir) : numD nm l = numL nm l := by
  rw [findL_num]
  unfold numD dval
  simp only [h, false_and, if_false]
theorem r10of (l : List Dir) (hl : l.length ≤ 900000) (hd : ∀ d ∈ l, d.2.1.size ≤ 900000) (k : Nat) (hk : 1000000 ≤ k) : ref10_Of.f k l = some (ofM l) := by
  have hh := fun nm => r10has l nm hl k hk
  have hn := fun nm => r10number l nm hl hd k hk
  unfold ref10_Of.f
  rw [hh [110, 111, 45, 115, 116, 111, 114, 101], bindO_some, hh [110, 111, 45, 99, 97, 99, 104, 101], bindO_some, hh [112, 114, 105, 118, 97, 116, 101], bindO_some, hh [112, 117, 98, 108, 105, 99], bindO_some, hh [109, 117, 115, 116, 45, 114, 101, 118, 97, 108, 105, 100, 97, 116, 101], bindO_some, hh [112, 114, 111, 120, 121, 45, 114, 101, 118, 97, 108, 105, 100, 97, 116, 101], bindO_some, hh [105, 109, 109, 117, 116, 97, 98, 108, 101], bindO_some, hh [111, 110, 108, 121, 45, 105, 102, 45, 99, 97, 99, 104, 101, 100], bindO_some]
  rw [hn [109, 97, 120, 45, 97, 103, 101], bindO_some, hn [115, 45, 109, 97, 120, 97, 103, 101], bindO_some, hn [109, 97, 120, 45, 115, 116, 97, 108, 101], bindO_some, hn [109, 105, 110, 45, 102, 114, 101, 115, 104], bindO_some, hn [115, 116, 97, 108, 101, 45, 105, 102, 45, 101, 114, 114, 111, 114], bindO_some, r10find l [109, 97, 120, 45, 115, 116, 97, 108, 101] hl k hk, bindO_some]
  unfold ofM ref10_Of.j14
  rw [numD_num [109, 97, 120, 45, 97, 103, 101] (by decide), numD_num [115, 45, 109, 97, 120, 97, 103, 101] (by decide), numD_num [109, 105, 110, 45, 102, 114, 101, 115, 104] (by decide), numD_num [115, 116, 97, 108, 101, 45, 105, 102, 45, 101, 114, 114, 111, 114] (by decide)]
  rw [findL_num [109, 97, 120, 45, 115, 116, 97, 108, 101]]
  unfold numD dval
  cases h : (findL [109, 97, 120, 45, 115, 116, 97, 108, 101] l).2 with
  | false => simp [ifO]
  | true =>
    cases h2 : (findL [109, 97, 120, 45, 115, 116, 97, 108, 101] l).1.2.2 with
    | true => simp [notB, ifO]
    | false => simp [notB, ifO]
end Go.Proofs.YtkjjegjafpefcaaDoor.R
