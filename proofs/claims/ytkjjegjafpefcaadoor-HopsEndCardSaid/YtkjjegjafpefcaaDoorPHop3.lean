/- What is appended, what goes from end to end, and what tells of one more: the program's and the document's are one. -/
import Derived.Test.YtkjjegjafpefcaaDoorPHop2
import Derived.Test.YtkjjegjafpefcaaDoorPWout
namespace Go.Proofs.YtkjjegjafpefcaaDoor.R
open Go Go.RowKit
set_option linter.unusedSimpArgs false
set_option linter.unusedVariables false
theorem vals_app (nm : ByteArray) (a b : List Fld) : XG.vals nm (a ++ b) = XG.vals nm a ++ XG.vals nm b := by unfold XG.vals; rw [List.filter_append, List.map_append]
theorem vals_own (nm v : ByteArray) : XG.vals nm [(nm, v)] = [v] := by
  unfold XG.vals
  simp
theorem left_len (ns : List ByteArray) (l : List Fld) : (XW.left ns l).length ≤ l.length := by rw [left_eq']; exact List.length_filter_le _ _
theorem without_is (l : List Fld) (ns : List ByteArray) (hl : l.length ≤ 100000) (hn : ns.length ≤ 100000) (k : Nat) : head_Without.f k (l, ns) = some (XW.left ns l) := by
  unfold head_Without.f
  rw [if_pos ⟨hl, hn⟩]
/-- What tells of the networks behind it. -/
def appT (id : ByteArray) (l : List Fld) : ByteArray := if getV cdn l = [] then id else B (getV cdn l ++ ([44, 32] ++ id.data.toList))
def appV (id : ByteArray) (l : List Fld) : List Fld := XW.left [cdn] l ++ [(cdn, appT id l)]
theorem append_is (l : List Fld) (h : sumF l ≤ 90000) (id : ByteArray) (hid : id.size ≤ 100000) (k : Nat) : hops_Append.f k (l, id) = some (appV id l) := by
  have h1 := sumF_len l
  have h2 := getV_len cdn l
  have h3 := left_len [cdn] l
  unfold hops_Append.f
  rw [get_is cdn l (by omega), bindO_some]
  simp only
  have j1 : ∀ x : ByteArray, hops_Append.j1 k (l, x) = some (XW.left [cdn] l ++ [(cdn, x)]) := by
    intro x
    unfold hops_Append.j1
    rw [without_is l [cdn] (by omega) (by simp) k, bindO_some, with_is _ _ _ (by omega) k, bindO_some]
  rw [show (⟨#[]⟩ : ByteArray) = B [] from rfl, B_eq]
  unfold appV appT
  by_cases h0 : getV cdn l = []
  · rw [decide_eq_true h0, show notB true = false from rfl, ifO_false, if_pos h0, j1]
  · have hB : id = B id.data.toList := B_of id
    have hs := len_data id
    rw [decide_eq_false h0, show notB false = true from rfl, ifO_true, if_neg h0, show (⟨#[44, 32]⟩ : ByteArray) = B [44, 32] from rfl, ifO_yes (by rw [B_fits]; exact decide_eq_true (by simp only [List.length_cons, List.length_nil]; omega)), B_cat]
    have e1 : fitsS (B (getV cdn l ++ [44, 32])) id = true := by
      rw [hB, B_fits]; exact decide_eq_true (by simp only [List.length_append, List.length_cons, List.length_nil]; omega)
    have e2 : catS (B (getV cdn l ++ [44, 32])) id = B (getV cdn l ++ ([44, 32] ++ id.data.toList)) := by
      conv => lhs; rw [hB]
      rw [B_cat, List.append_assoc]
    rw [e1, ifO_true, e2, j1]
theorem r18append (l : List Fld) (h : sumF l ≤ 90000) (id : ByteArray) (hid : id.size ≤ 100000) (k : Nat) (hk : 100010 ≤ k) : ref18_Append.f k (l, id) = some (appV id l) := by
  have h1 := sumF_len l
  have h2 := getV_len cdn l
  have h3 := left_len [cdn] l
  have hB : id = B id.data.toList := B_of id
  have hs := len_data id
  unfold ref18_Append.f
  rw [r6get cdn l (by omega) k hk, bindO_some]
  simp only
  have j1 : ∀ x : Bs, x.length ≤ 200000 → ref18_Append.j1 k (l, (id, B x)) = some (XW.left [cdn] l ++ [(cdn, B (x ++ id.data.toList))]) := by
    intro x hx
    unfold ref18_Append.j1
    have e1 : fitsS (B x) id = true := by
      rw [hB, B_fits]; exact decide_eq_true (by omega)
    have e2 : catS (B x) id = B (x ++ id.data.toList) := by
      conv => lhs; rw [hB]
      rw [B_cat]
    simp only
    rw [r6without l [cdn] (by omega) (by simp) k hk, bindO_some, e1, ifO_true, e2, r6with _ _ _ (by omega) k, bindO_some]
  rw [show (⟨#[]⟩ : ByteArray) = B [] from rfl, B_eq]
  unfold appV appT
  by_cases h0 : getV cdn l = []
  · rw [decide_eq_true h0, show notB true = false from rfl, ifO_false, if_pos h0, h0, j1 [] (by simp), List.nil_append, ← hB]
  · rw [decide_eq_false h0, show notB false = true from rfl, ifO_true, if_neg h0, show (⟨#[44, 32]⟩ : ByteArray) = B [44, 32] from rfl, ifO_yes (by rw [B_fits]; exact decide_eq_true (by simp only [List.length_cons, List.length_nil]; omega)), B_cat, j1 _ (by simp only [List.length_append, List.length_cons, List.length_nil]; omega), List.append_assoc]
/-! ### from end to end -/
abbrev conn : ByteArray := (⟨#[99, 111, 110, 110, 101, 99, 116, 105, 111, 110]⟩ : ByteArray)
def statN : List ByteArray := [conn, (⟨#[107, 101, 101, 112, 45, 97, 108, 105, 118, 101]⟩ : ByteArray), (⟨#[112, 114, 111, 120, 121, 45, 99, 111, 110, 110, 101, 99, 116, 105, 111, 110]⟩ : ByteArray), (⟨#[116, 101]⟩ : ByteArray), (⟨#[116, 114, 97, 105, 108, 101, 114]⟩ : ByteArray), (⟨#[116, 114, 97, 110, 115, 102, 101, 114, 45, 101, 110, 99, 111, 100, 105, 110, 103]⟩ : ByteArray), (⟨#[117, 112, 103, 114, 97, 100, 101]⟩ : ByteArray)]
def lowT (s : ByteArray) : ByteArray := B (lowL s.data.toList)
def namesV (l : List Fld) : List ByteArray := statN ++ (C (getV conn l) 0 0 []).map lowT
def endsV (l : List Fld) : List Fld := XW.left (namesV l) l
abbrev MpB := List (ByteArray × Bool)
def inN (ns : List ByteArray) (q : ByteArray) : Bool := ns.any fun s => eqS q s
theorem getM_all (q : ByteArray) : ∀ ns : List ByteArray, getM .str .bool false (ns.map fun s => (s, true)) q = inN ns q
  | [] => rfl
  | s :: r => by
    show (if eqS q s = true then true else getM .str .bool false (r.map fun s => (s, true)) q) = (eqS q s || inN r q)
    rw [getM_all q r]
    cases eqS q s <;> rfl
theorem getM_put (q y : ByteArray) : ∀ M : MpB, getM .str .bool false (putM .str .bool M y true) q = (eqS q y || getM .str .bool false M q)
  | [] => by
    show (if eqS q y = true then true else false) = (eqS q y || false)
    cases eqS q y <;> rfl
  | p :: r => by
    have ih := getM_put q y r
    show getM .str .bool false (if eqS y p.1 = true then (y, true) :: r else p :: putM .str .bool r y true) q = (eqS q y || (if eqS q p.1 = true then p.2 else getM .str .bool false r q))
    cases hy : eqS y p.1 with
    | true =>
      rw [if_pos rfl]
      have e : y = p.1 := by rw [eqS_ba] at hy; exact of_decide_eq_true hy
      show (if eqS q y = true then true else getM .str .bool false r q) = _
      rw [← e]
      cases eqS q y <;> rfl
    | false =>
      rw [if_neg (by decide)]
      show (if eqS q p.1 = true then p.2 else getM .str .bool false (putM .str .bool r y true) q) = _
      rw [ih]
      cases hq : eqS q p.1 with
      | false => rfl
      | true =>
        have e : q = p.1 := by rw [eqS_ba] at hq; exact of_decide_eq_true hq
        rw [if_pos rfl, if_pos rfl, e]
        have : eqS p.1 y = false := by
          rw [eqS_ba] at hy ⊢
          rw [decide_eq_false_iff_not] at hy ⊢
          exact fun h => hy h.symm
        rw [this, Bool.false_or]
theorem inN_app (a b : List ByteArray) (q : ByteArray) : inN (a ++ b) q = (inN a q || inN b q) := by unfold inN; rw [List.any_append]
theorem inN_has (ns : List ByteArray) (f : Fld) : inN ns f.1 = hasN ns f := rfl
theorem left_snoc (ns : List ByteArray) (l : List Fld) (f : Fld) : XW.left ns (l ++ [f]) = if hasN ns f = true then XW.left ns l else XW.left ns l ++ [f] := by
  rw [left_eq', left_eq', List.filter_append]
  cases h : hasN ns f with
  | true => rw [if_pos rfl]; simp [h]
  | false => rw [if_neg (by decide)]; simp [h]
theorem ends4 (l : List Fld) (hl : l.length ≤ 100000) (ns : List ByteArray) (M : MpB) (hM : ∀ q, getM .str .bool false M q = inN ns q) (k : Nat) (hk : 100010 ≤ k) : hops_Ends.l4 k (([] : List Fld), (l, ((l.length : Int), (0, M)))) = some (XW.left ns l) := by
  unfold hops_Ends.l4
  refine iter_eq (f := hops_Ends.l4b k) (fun v => v.2.1 = l ∧ v.2.2.1 = (l.length : Int) ∧ v.2.2.2.2 = M ∧ ∃ i : Nat, v.2.2.2.1 = (i : Int) ∧ i ≤ l.length ∧ v.1 = XW.left ns (l.take i)) (fun v => (l.length + 1 - v.2.2.2.1).toNat) (fun _ => some (XW.left ns l)) ?_ k _ ⟨rfl, rfl, rfl, 0, rfl, Nat.zero_le _, rfl⟩ (by show ((l.length : Int) + 1 - 0).toNat < k; omega)
  rintro r ⟨out, s, n, i', M'⟩ ⟨h1, h2, h3, i, h4, hi, h5⟩ hr
  simp only at h1 h2 h3 h4 h5
  subst h1; subst h2; subst h3; subst h4; subst h5
  unfold hops_Ends.l4b hops_Ends.j5
  simp only [lenL_nat, ltI_nat, inB_nat, ifO_dec]
  by_cases h : i < s.length
  · have hlt := left_len ns (s.take i)
    rw [List.length_take] at hlt
    rw [if_pos h, if_pos h, elT_get (t := .agg (.pair .str .str)) (xs := s) h, hM, inN_has, next64 (by omega)]
    cases hc : hasN ns s[i] with
    | true =>
      rw [show notB true = false from rfl, ifO_false]
      exact hr _ ⟨rfl, rfl, rfl, i + 1, rfl, h, by rw [take_snoc _ _ h, left_snoc, if_pos hc]⟩ (by show ((s.length : Int) + 1 - ((i + 1 : Nat) : Int)).toNat < ((s.length : Int) + 1 - (i : Int)).toNat; omega)
    | false =>
      rw [show notB false = true from rfl, ifO_true, show ∀ x : Fld, (([(x.1, x.2)] : List Fld).length : Int) = ((1 : Nat) : Int) from fun _ => rfl, fitsL_yes (by omega) (by omega), ifO_true]
      exact hr _ ⟨rfl, rfl, rfl, i + 1, rfl, h, by rw [take_snoc _ _ h, left_snoc, if_neg (by rw [hc]; decide)]; rfl⟩ (by show ((s.length : Int) + 1 - ((i + 1 : Nat) : Int)).toNat < ((s.length : Int) + 1 - (i : Int)).toNat; omega)
  · rw [if_neg h, List.take_of_length_le (by omega)]
theorem ends_is (l : List Fld) (h : sumF l ≤ 50000) (k : Nat) (hk : 100010 ≤ k) : hops_Ends.f k l = some (endsV l) := by
  have h1 := sumF_len l
  have hg := getV_len conn l
  have hc1 := C_all (getV conn l)
  have hc2 := sum1_len (C (getV conn l) 0 0 [])
  unfold hops_Ends.f
  rw [get_is conn l (by omega), bindO_some, split_is _ (by omega) k hk, bindO_some]
  unfold endsV namesV
  generalize hP : C (getV conn l) 0 0 [] = P at *
  unfold hops_Ends.l2
  refine iter_eq (f := hops_Ends.l2b k) (fun v => v.1 = l ∧ v.2.1 = P ∧ v.2.2.1 = (P.length : Int) ∧ ∃ i : Nat, v.2.2.2.1 = (i : Int) ∧ i ≤ P.length ∧ ∀ q, getM .str .bool false v.2.2.2.2 q = inN (statN ++ (P.take i).map lowT) q) (fun v => (P.length + 1 - v.2.2.2.1).toNat) (fun _ => some (XW.left (statN ++ P.map lowT) l)) ?_ k _ ⟨rfl, rfl, rfl, 0, rfl, Nat.zero_le _, fun q => ?_⟩ (by show ((P.length : Int) + 1 - 0).toNat < k; omega)
  rotate_left
  · rw [List.take_zero, List.map_nil, List.append_nil]
    exact getM_all q statN
  rintro r ⟨v0, v1, n, i', M⟩ ⟨g1, g2, g3, i, g4, hi, g5⟩ hr
  simp only at g1 g2 g3 g4 g5
  subst g1; subst g2; subst g3; subst g4
  unfold hops_Ends.l2b
  simp only [lenL_nat, ltI_nat, inB_nat, ifO_dec]
  by_cases hh : i < v1.length
  · have hsz := sum1_mem (List.getElem_mem hh)
    have lw : ascii_Lower.f k v1[i] = some (lowT v1[i]) := (congrArg (fun q => ascii_Lower.f k q) (B_of v1[i])).trans (lower_is _ (by rw [len_data]; omega) k)
    rw [if_pos hh, if_pos hh, elT_get (t := .str) (xs := v1) hh, lw, bindO_some, next64 (by omega)]
    refine hr _ ⟨rfl, rfl, rfl, i + 1, rfl, hh, fun q => ?_⟩ (by show ((v1.length : Int) + 1 - ((i + 1 : Nat) : Int)).toNat < ((v1.length : Int) + 1 - (i : Int)).toNat; omega)
    show getM .str .bool false (putM .str .bool M (lowT v1[i]) true) q = _
    rw [getM_put, g5, take_snoc _ _ hh, List.map_append, ← List.append_assoc, inN_app (statN ++ (v1.take i).map lowT) _ q, Bool.or_comm]
    show _ = (inN (statN ++ (v1.take i).map lowT) q || (eqS q (lowT v1[i]) || false))
    rw [Bool.or_false]
  · rw [if_neg hh]
    rw [List.take_of_length_le (by omega)] at g5
    exact ends4 v0 (by omega) _ M g5 k hk
theorem r18ends (l : List Fld) (h : sumF l ≤ 50000) (k : Nat) (hk : 100010 ≤ k) : ref18_Ends.f k l = some (endsV l) := by
  have h1 := sumF_len l
  have hg := getV_len conn l
  have hc1 := C_all (getV conn l)
  have hc2 := sum1_len (C (getV conn l) 0 0 [])
  unfold ref18_Ends.f
  rw [r6get conn l (by omega) k hk, bindO_some, r1split _ (by omega) k hk, bindO_some]
  unfold endsV namesV
  generalize hP : C (getV conn l) 0 0 [] = P at *
  unfold ref18_Ends.l2
  refine iter_eq (f := ref18_Ends.l2b k) (fun v => v.1 = l ∧ v.2.2.1 = P ∧ ∃ i : Nat, v.2.2.2 = (i : Int) ∧ i ≤ P.length ∧ v.2.1 = statN ++ (P.take i).map lowT) (fun v => (P.length + 1 - v.2.2.2).toNat) (fun _ => some (XW.left (statN ++ P.map lowT) l)) ?_ k _ ⟨rfl, rfl, 0, rfl, Nat.zero_le _, rfl⟩ (by show ((P.length : Int) + 1 - 0).toNat < k; omega)
  rintro r ⟨v0, ns, v1, i'⟩ ⟨g1, g2, i, g4, hi, g5⟩ hr
  simp only at g1 g2 g4 g5
  subst g1; subst g2; subst g4; subst g5
  unfold ref18_Ends.l2b
  simp only [lenL_nat, ltI_nat, inB_nat, ifO_dec]
  by_cases hh : i < v1.length
  · have hsz := sum1_mem (List.getElem_mem hh)
    have lw : ref01_Lower.f k v1[i] = some (lowT v1[i]) := (congrArg (fun q => ref01_Lower.f k q) (B_of v1[i])).trans (r1lower _ (by rw [len_data]; omega) k (by rw [len_data]; omega))
    have hn : (statN ++ (v1.take i).map lowT).length = 7 + i := by rw [List.length_append, List.length_map, List.length_take]; show 7 + _ = _; omega
    rw [if_pos hh, if_pos hh, elT_get (t := .str) (xs := v1) hh, lw, bindO_some, show ∀ x : ByteArray, (([x] : List ByteArray).length : Int) = ((1 : Nat) : Int) from fun _ => rfl, hn, fitsL_yes (by omega) (by omega), ifO_true, next64 (by omega)]
    refine hr _ ⟨rfl, rfl, i + 1, rfl, hh, ?_⟩ (by show ((v1.length : Int) + 1 - ((i + 1 : Nat) : Int)).toNat < ((v1.length : Int) + 1 - (i : Int)).toNat; omega)
    show (statN ++ (v1.take i).map lowT) ++ [lowT v1[i]] = _
    rw [take_snoc _ _ hh, List.map_append, ← List.append_assoc]
    rfl
  · rw [if_neg hh, List.take_of_length_le (by omega), r6without v0 _ (by omega) (by rw [List.length_append, List.length_map]; show 7 + _ ≤ _; omega) k hk, bindO_some]
/-! ### one more on the way -/
abbrev viaN : ByteArray := (⟨#[118, 105, 97]⟩ : ByteArray)
def viaV (l : List Fld) (id : ByteArray) : List Fld := l ++ [(viaN, catS (⟨#[49, 46, 49, 32]⟩ : ByteArray) id)]
theorem fits_small (x y : ByteArray) (h : x.size + y.size ≤ 1000000000) : fitsS x y = true := by unfold fitsS; exact decide_eq_true (by omega)
theorem via_is (l : List Fld) (h : l.length ≤ 100000) (id : ByteArray) (hid : id.size ≤ 100000) (k : Nat) : hops_Via.f k (l, id) = some (viaV l id) := by
  unfold hops_Via.f
  rw [fits_small (⟨#[49, 46, 49, 32]⟩ : ByteArray) id (by show 4 + id.size ≤ _; omega), ifO_true, with_is _ _ _ h k, bindO_some]
  rfl
theorem r18via (l : List Fld) (h : l.length ≤ 100000) (id : ByteArray) (hid : id.size ≤ 100000) (k : Nat) : ref18_Via.f k (l, id) = some (viaV l id) := by
  unfold ref18_Via.f
  rw [fits_small (⟨#[49, 46, 49, 32]⟩ : ByteArray) id (by show 4 + id.size ≤ _; omega), ifO_true, r6with _ _ _ h k, bindO_some]
  rfl
theorem awake18 : law18_awake.f 1000010 () = some true := by decide +kernel
end Go.Proofs.YtkjjegjafpefcaaDoor.R
