/- Whether a network was met: the program's and the document's are one. -/
import Derived.Test.YtkjjegjafpefcaaDoorPHop
import Derived.Test.YtkjjegjafpefcaaDoorF1
namespace Go.Proofs.YtkjjegjafpefcaaDoor.R
open Go Go.RowKit
set_option linter.unusedSimpArgs false
set_option linter.unusedVariables false
/-- Is a text a parameter? -/
def parM (x : ByteArray) : Bool := decide (C x.data.toList 0 0 [] = [x]) && decide ((parseD x.data.toList).length = 1)
theorem B_self (x : ByteArray) : B x.data.toList = x := (B_of x).symm
theorem len_data (x : ByteArray) : x.data.toList.length = x.size := by rw [Array.length_toList]; rfl
theorem eqS_ba (x y : ByteArray) : eqS x y = decide (x = y) := by
  have := B_eq x.data.toList y.data.toList
  rw [B_self, B_self] at this
  rw [this, decide_eq_decide]
  exact ⟨fun h => B_ext h, fun h => by rw [h]⟩
theorem one_list {l : List ByteArray} (h : l.length = 1) : ∃ x, l = [x] := by
  match l, h with
  | [x], _ => exact ⟨x, rfl⟩
theorem param_is (x : ByteArray) (hx : x.size ≤ 100000) (k : Nat) (hk : 1000010 ≤ k) : hops_param.f k x = some (parM x) := by
  have hl := len_data x
  have h1 : ascii_Split.f k x = some (C x.data.toList 0 0 []) := (congrArg (fun q => ascii_Split.f k q) (B_of x)).trans (split_is _ (by omega) k (by omega))
  have h2 : legacy_Parse.f k x = some (parseD x.data.toList) := (congrArg (fun q => legacy_Parse.f k q) (B_of x)).trans (legparse_is _ (by omega) k hk)
  unfold hops_param.f parM
  rw [h1, bindO_some, lenL_nat, show eqI ((C x.data.toList 0 0 []).length : Int) 1 = decide ((C x.data.toList 0 0 []).length = 1) by rw [eqI_dec, decide_eq_decide]; omega, ifO_dec]
  by_cases h : (C x.data.toList 0 0 []).length = 1
  · obtain ⟨y, hy⟩ := one_list h
    rw [if_pos h, hy, show inB 0 ((([y] : List ByteArray).length : Nat) : Int) = true from rfl, ifO_true, show elT .str [y] 0 = y from rfl, eqS_ba, ifO_dec]
    by_cases he : y = x
    · rw [if_pos he, h2, bindO_some, he, decide_eq_true rfl, Bool.true_and, lenL_nat, eqI_dec]
      congr 1
      rw [decide_eq_decide]
      omega
    · rw [if_neg he, decide_eq_false (fun hh => he (by simpa using hh)), Bool.false_and]
  · rw [if_neg h, decide_eq_false (fun hh => h (by rw [hh]; rfl)), Bool.false_and]
/-- What one part tells: whether it is the network; none: it is of no form. -/
def oneM (id : Bs) (o : ByteArray) : Option Bool := match PP o.data.toList 0 0 [] with
  | [] => none
  | p :: r => if idM p.data.toList && r.all parM then some (decide (lowL p.data.toList = lowL id)) else none
def loopL (id : Bs) : List ByteArray → Bool → Bool × Int
  | [], met => (met, 0)
  | o :: r, met => match oneM id o with
    | none => (false, 2)
    | some b => loopL id r (met || b)
theorem oneM_of {id : Bs} {o p : ByteArray} {rest : List ByteArray} (hp : PP o.data.toList 0 0 [] = p :: rest) : oneM id o = if (idM p.data.toList && rest.all parM) = true then some (decide (lowL p.data.toList = lowL id)) else none := by
  unfold oneM; rw [hp]
theorem loopL_cons (id : Bs) (o : ByteArray) (r : List ByteArray) (met : Bool) : loopL id (o :: r) met = match oneM id o with
    | none => (false, 2)
    | some b => loopL id r (met || b) := rfl
theorem parts_ne (l : Bs) : ∃ p r, PP l 0 0 [] = p :: r ∧ (p :: r).length ≤ l.length + 1 ∧ ∀ x ∈ p :: r, x.size ≤ l.length := by
  obtain ⟨h1, h2, h3⟩ := PP_facts l l.length l.length 0 0 [] (by omega) (Nat.le_refl _) (fun x hx => by cases hx)
  cases hp : PP l 0 0 [] with
  | nil => exact absurd hp h1
  | cons p r =>
    rw [hp] at h2 h3
    exact ⟨p, r, rfl, by simpa using h2, h3⟩
theorem loop5 (idt : ByteArray) (hid : idt.size ≤ 100000) (met : Bool) (p : ByteArray) (rest : List ByteArray) (all : List ByteArray) (n i : Nat) (hi : i < 9000000) (hp : p.size ≤ 100000) (hr : rest.length ≤ 100000) (hs : ∀ x ∈ rest, x.size ≤ 100000) (K : Nat) (hK : 1000010 ≤ K) (r2 : _) :
    hops_Loop.l5 K r2 (idt, (met, (p :: rest, (all, ((n : Int), ((i : Int), (rest, ((rest.length : Int), 0)))))))) = if rest.all parM = true then r2 (idt, (met || decide (lowL p.data.toList = lowL idt.data.toList), (all, ((n : Int), ((i + 1 : Nat) : Int))))) else some (false, 2) := by
  unfold hops_Loop.l5
  refine iter_eq (f := hops_Loop.l5b K r2) (fun v => v.1 = idt ∧ v.2.1 = met ∧ v.2.2.1 = p :: rest ∧ v.2.2.2.1 = all ∧ v.2.2.2.2.1 = (n : Int) ∧ v.2.2.2.2.2.1 = (i : Int) ∧ v.2.2.2.2.2.2.1 = rest ∧ v.2.2.2.2.2.2.2.1 = (rest.length : Int) ∧ ∃ j : Nat, v.2.2.2.2.2.2.2.2 = (j : Int) ∧ j ≤ rest.length ∧ (rest.take j).all parM = true) (fun v => (rest.length + 1 - v.2.2.2.2.2.2.2.2).toNat) (fun _ => if rest.all parM = true then r2 (idt, (met || decide (lowL p.data.toList = lowL idt.data.toList), (all, ((n : Int), ((i + 1 : Nat) : Int))))) else some (false, 2)) ?_ K _ ⟨rfl, rfl, rfl, rfl, rfl, rfl, rfl, rfl, 0, rfl, Nat.zero_le _, rfl⟩ (by show ((rest.length : Int) + 1 - 0).toNat < K; omega)
  rintro r ⟨v0, v1, v2, v3, v4, v5, v6, v7, v8⟩ ⟨h0, h1, h2, h3, h4, h5, h6, h7, j, h8, hj, h9⟩ hrr
  simp only at h0 h1 h2 h3 h4 h5 h6 h7 h8
  subst h0; subst h1; subst h2; subst h3; subst h4; subst h5; subst h6; subst h7; subst h8
  unfold hops_Loop.l5b hops_Loop.j7
  simp only [lenL_nat, ltI_nat, inB_nat, ifO_dec]
  by_cases h : j < v6.length
  · rw [if_pos h, if_pos h, elT_get (t := .str) (xs := v6) h, param_is _ (hs _ (List.getElem_mem h)) K hK, bindO_some, next64 (by omega)]
    cases hc : parM v6[j] with
    | true =>
      rw [show notB true = false from rfl, ifO_false]
      exact hrr _ ⟨rfl, rfl, rfl, rfl, rfl, rfl, rfl, rfl, j + 1, rfl, h, by rw [take_snoc _ _ h, List.all_append, h9]; simp [hc]⟩ (by show ((v6.length : Int) + 1 - ((j + 1 : Nat) : Int)).toNat < ((v6.length : Int) + 1 - (j : Int)).toNat; omega)
    | false =>
      rw [show notB false = true from rfl, ifO_true, if_neg]
      intro ha
      rw [List.all_eq_true.1 ha _ (List.getElem_mem h)] at hc
      cases hc
  · rw [List.take_of_length_le (by omega)] at h9
    have l1 : ascii_Lower.f K p = some (B (lowL p.data.toList)) := (congrArg (fun q => ascii_Lower.f K q) (B_of p)).trans (lower_is _ (by rw [len_data]; omega) K)
    have l2 : ascii_Lower.f K v0 = some (B (lowL v0.data.toList)) := (congrArg (fun q => ascii_Lower.f K q) (B_of v0)).trans (lower_is _ (by rw [len_data]; omega) K)
    rw [if_neg h, h9, if_pos rfl, next64 (by omega)]
    cases v1 with
    | true => rw [ifO_true, Bool.true_or]
    | false =>
      rw [ifO_false, show inB 0 (((p :: v6).length : Nat) : Int) = true from inB_yes (i := 0) (by simp), ifO_true, show elT .str (p :: v6) 0 = p from rfl, l1, bindO_some, l2, bindO_some, B_eq, Bool.false_or]
theorem loop2 (idt : ByteArray) (hid : idt.size ≤ 100000) (all : List ByteArray) (ha : all.length ≤ 100000) (hs : ∀ x ∈ all, x.size ≤ 90000) (k : Nat) (hk : 1000010 ≤ k) : hops_Loop.l2 k (idt, (false, (all, ((all.length : Int), 0)))) = some (loopL idt.data.toList all false) := by
  unfold hops_Loop.l2
  refine iter_eq (f := hops_Loop.l2b k) (fun v => v.1 = idt ∧ v.2.2.1 = all ∧ v.2.2.2.1 = (all.length : Int) ∧ ∃ i : Nat, v.2.2.2.2 = (i : Int) ∧ i ≤ all.length ∧ loopL idt.data.toList all false = loopL idt.data.toList (all.drop i) v.2.1) (fun v => (all.length + 1 - v.2.2.2.2).toNat) (fun _ => some (loopL idt.data.toList all false)) ?_ k _ ⟨rfl, rfl, rfl, 0, rfl, Nat.zero_le _, rfl⟩ (by show ((all.length : Int) + 1 - 0).toNat < k; omega)
  rintro r ⟨v0, v1, v2, v3, v4⟩ ⟨h0, h2, h3, i, h4, hi, h5⟩ hr
  simp only at h0 h2 h3 h4 h5
  subst h0; subst h2; subst h3; subst h4
  unfold hops_Loop.l2b
  simp only [lenL_nat, ltI_nat, inB_nat, ifO_dec]
  by_cases h : i < v2.length
  · have hsz := hs _ (List.getElem_mem h)
    have hl := len_data v2[i]
    obtain ⟨p, rest, hp, hpl, hps⟩ := parts_ne v2[i].data.toList
    have hparts : hops_parts.f k v2[i] = some (p :: rest) := ((congrArg (fun q => hops_parts.f k q) (B_of v2[i])).trans (parts_is _ (by omega) k (by omega))).trans (congrArg some hp)
    have hpz := hps p (by simp)
    have hid2 : hops_Id.f k p = some (idM p.data.toList) := (congrArg (fun q => hops_Id.f k q) (B_of p)).trans (id_is _ (by rw [len_data]; omega) k (by rw [len_data]; omega))
    rw [List.drop_eq_getElem_cons h, loopL_cons, oneM_of hp] at h5
    simp only [List.length_cons] at hpl
    rw [if_pos h, if_pos h, elT_get (t := .str) (xs := v2) h, hparts, bindO_some, show inB 0 (((p :: rest).length : Nat) : Int) = true from inB_yes (i := 0) (n := (p :: rest).length) (by simp), ifO_true, show elT .str (p :: rest) 0 = p from rfl, hid2, bindO_some]
    cases hc : idM p.data.toList with
    | false =>
      rw [hc] at h5
      simp only [Bool.false_and, Bool.false_eq_true, if_false] at h5
      rw [show notB false = true from rfl, ifO_true, h5]
    | true =>
      rw [hc] at h5
      simp only [Bool.true_and] at h5
      have ec : cutL (p :: rest) 1 (lenL (p :: rest)) = rest := by
        unfold cutL
        rw [lenL_nat, Int.toNat_natCast, List.take_of_length_le (Nat.le_refl _)]
        rfl
      rw [show notB true = false from rfl, ifO_false, boundB_yes (Nat.le_refl _), show boundB 1 (((p :: rest).length : Nat) : Int) = true from boundB_yes (i := 1) (by simp), show andB true true = true from rfl, ifO_true]
      rw [show cutL (p :: rest) 1 (((p :: rest).length : Nat) : Int) = rest from ec, loop5 v0 hid v1 p rest v2 v2.length i (by omega) (by omega) (by omega) (fun x hx => by have := hps x (by simp [hx]); omega) k hk r]
      cases hq : rest.all parM with
      | true =>
        rw [hq] at h5
        simp only [if_true] at h5
        rw [if_pos rfl]
        exact hr _ ⟨rfl, rfl, rfl, i + 1, rfl, h, h5⟩ (by show ((v2.length : Int) + 1 - ((i + 1 : Nat) : Int)).toNat < ((v2.length : Int) + 1 - (i : Int)).toNat; omega)
      | false =>
        rw [hq] at h5
        simp only [Bool.false_eq_true, if_false] at h5
        rw [if_neg (by decide), h5]
  · rw [List.drop_eq_nil_of_le (by omega)] at h5
    rw [if_neg h, h5]
    rfl
/-! ### the document's -/
theorem r18loop5 (idt : ByteArray) (hid : idt.size ≤ 100000) (met : Bool) (p : ByteArray) (rest : List ByteArray) (all : List ByteArray) (i : Nat) (hi : i < 9000000) (hp : p.size ≤ 100000) (hr : rest.length ≤ 100000) (hs : ∀ x ∈ rest, x.size ≤ 100000) (K : Nat) (hK : 1000010 ≤ K) (r2 : _) :
    ref18_Loop.l5 K r2 (idt, (all, (met, ((i : Int), (p :: rest, 1))))) = if rest.all parM = true then r2 (idt, (all, (met || decide (lowL p.data.toList = lowL idt.data.toList), ((i + 1 : Nat) : Int)))) else some (false, 2) := by
  unfold ref18_Loop.l5
  refine iter_eq (f := ref18_Loop.l5b K r2) (fun v => v.1 = idt ∧ v.2.1 = all ∧ v.2.2.1 = met ∧ v.2.2.2.1 = (i : Int) ∧ v.2.2.2.2.1 = p :: rest ∧ ∃ j : Nat, v.2.2.2.2.2 = ((j + 1 : Nat) : Int) ∧ j ≤ rest.length ∧ (rest.take j).all parM = true) (fun v => (rest.length + 3 - v.2.2.2.2.2).toNat) (fun _ => if rest.all parM = true then r2 (idt, (all, (met || decide (lowL p.data.toList = lowL idt.data.toList), ((i + 1 : Nat) : Int)))) else some (false, 2)) ?_ K _ ⟨rfl, rfl, rfl, rfl, rfl, 0, rfl, Nat.zero_le _, rfl⟩ (by show ((rest.length : Int) + 3 - 1).toNat < K; omega)
  rintro r ⟨v0, v1, v2, v3, v4, v5⟩ ⟨h0, h1, h2, h3, h4, j, h5, hj, h9⟩ hrr
  simp only at h0 h1 h2 h3 h4 h5
  subst h0; subst h1; subst h2; subst h3; subst h4; subst h5
  unfold ref18_Loop.l5b
  simp only [lenL_nat, ltI_nat, inB_nat, ifO_dec, List.length_cons]
  by_cases h : j < rest.length
  · have hx := hs _ (List.getElem_mem h)
    have hg : elT .str (p :: rest) ((j + 1 : Nat) : Int) = rest[j] := by rw [elT_get (t := .str) (xs := p :: rest) (by simp; omega)]; rfl
    have hl := len_data rest[j]
    have p1 : ref10_Parse.f K rest[j] = some (parseD rest[j].data.toList) := (congrArg (fun q => ref10_Parse.f K q) (B_of rest[j])).trans (r10parse_is _ (by omega) K hK)
    have p2 : ref01_Split.f K rest[j] = some (C rest[j].data.toList 0 0 []) := (congrArg (fun q => ref01_Split.f K q) (B_of rest[j])).trans (r1split _ (by omega) K (by omega))
    have j8 : ∀ b : Bool, ref18_Loop.j8 K r2 r (v0, (v1, (v2, ((i : Int), (p :: rest, (((j + 1 : Nat) : Int), b)))))) = if b = true then some (false, 2) else r (v0, (v1, (v2, ((i : Int), (p :: rest, ((j + 1 + 1 : Nat) : Int)))))) := by
      intro b
      unfold ref18_Loop.j8
      simp only
      rw [next64 (by omega)]
      cases b <;> rfl
    have bad : parM rest[j] = false → rest.all parM = false := by
      intro hc
      cases ha : rest.all parM with
      | false => rfl
      | true => rw [List.all_eq_true.1 ha _ (List.getElem_mem h)] at hc; cases hc
    have good : parM rest[j] = true → r (v0, (v1, (v2, ((i : Int), (p :: rest, ((j + 1 + 1 : Nat) : Int)))))) = if rest.all parM = true then r2 (v0, (v1, (v2 || decide (lowL p.data.toList = lowL v0.data.toList), ((i + 1 : Nat) : Int)))) else some (false, 2) := by
      intro hc
      exact hrr _ ⟨rfl, rfl, rfl, rfl, rfl, j + 1, rfl, h, by rw [take_snoc _ _ h, List.all_append, h9]; simp [hc]⟩ (by show ((rest.length : Int) + 3 - ((j + 1 + 1 : Nat) : Int)).toNat < ((rest.length : Int) + 3 - ((j + 1 : Nat) : Int)).toNat; omega)
    rw [if_pos (by omega), if_pos (by omega), hg, p1, bindO_some, if_pos (by omega), p2, bindO_some]
    simp only [neI_dec, ifO_dec, j8]
    by_cases e1 : (parseD rest[j].data.toList).length = 1
    · rw [if_neg (by omega)]
      by_cases e2 : (C rest[j].data.toList 0 0 []).length = 1
      · obtain ⟨y, hy⟩ := one_list e2
        rw [if_neg (by omega), hy, show inB 0 ((([y] : List ByteArray).length : Nat) : Int) = true from rfl, ifO_true, if_pos (by omega), show elT .str [y] 0 = y from rfl, eqS_ba]
        by_cases e3 : y = rest[j]
        · rw [decide_eq_true e3, show notB true = false from rfl, if_neg (by decide)]
          exact good (by unfold parM; rw [hy, e3, e1]; simp)
        · rw [decide_eq_false e3, show notB false = true from rfl, if_pos rfl, bad (by unfold parM; rw [hy, decide_eq_false (fun hh => e3 (by simpa using hh)), Bool.false_and])]
          rfl
      · rw [if_pos (by omega), if_pos trivial, bad (by unfold parM; rw [decide_eq_false (fun hh => e2 (by rw [hh]; rfl)), Bool.false_and])]
        rfl
    · rw [if_pos (by omega), if_pos trivial, bad (by unfold parM; rw [decide_eq_false e1, Bool.and_false])]
      rfl
  · rw [List.take_of_length_le (by omega)] at h9
    have l1 : ref01_Lower.f K p = some (B (lowL p.data.toList)) := (congrArg (fun q => ref01_Lower.f K q) (B_of p)).trans (r1lower _ (by rw [len_data]; omega) K (by rw [len_data]; omega))
    have l2 : ref01_Lower.f K v0 = some (B (lowL v0.data.toList)) := (congrArg (fun q => ref01_Lower.f K q) (B_of v0)).trans (r1lower _ (by rw [len_data]; omega) K (by rw [len_data]; omega))
    rw [if_neg (by omega), h9, if_pos rfl]
    unfold ref18_Loop.j9
    simp only
    rw [next64 (by omega)]
    cases v2 with
    | true => rw [ifO_true, Bool.true_or]
    | false =>
      rw [ifO_false, show inB 0 (((rest.length + 1 : Nat)) : Int) = true from inB_yes (i := 0) (by omega), ifO_true, show elT .str (p :: rest) 0 = p from rfl, l1, bindO_some, l2, bindO_some, B_eq, Bool.false_or]
theorem r18loop2 (idt : ByteArray) (hid : idt.size ≤ 100000) (all : List ByteArray) (ha : all.length ≤ 100000) (hs : ∀ x ∈ all, x.size ≤ 90000) (k : Nat) (hk : 1000010 ≤ k) : ref18_Loop.l2 k (idt, (all, (false, 0))) = some (loopL idt.data.toList all false) := by
  unfold ref18_Loop.l2
  refine iter_eq (f := ref18_Loop.l2b k) (fun v => v.1 = idt ∧ v.2.1 = all ∧ ∃ i : Nat, v.2.2.2 = (i : Int) ∧ i ≤ all.length ∧ loopL idt.data.toList all false = loopL idt.data.toList (all.drop i) v.2.2.1) (fun v => (all.length + 1 - v.2.2.2).toNat) (fun _ => some (loopL idt.data.toList all false)) ?_ k _ ⟨rfl, rfl, 0, rfl, Nat.zero_le _, rfl⟩ (by show ((all.length : Int) + 1 - 0).toNat < k; omega)
  rintro r ⟨v0, v2, v1, v4⟩ ⟨h0, h2, i, h4, hi, h5⟩ hr
  simp only at h0 h2 h4 h5
  subst h0; subst h2; subst h4
  unfold ref18_Loop.l2b
  simp only [lenL_nat, ltI_nat, inB_nat, ifO_dec]
  by_cases h : i < v2.length
  · have hsz := hs _ (List.getElem_mem h)
    have hl := len_data v2[i]
    obtain ⟨p, rest, hp, hpl, hps⟩ := parts_ne v2[i].data.toList
    have hparts : ref18_parts.f k v2[i] = some (p :: rest) := ((congrArg (fun q => ref18_parts.f k q) (B_of v2[i])).trans (r18parts _ (by omega) k (by omega))).trans (congrArg some hp)
    have hpz := hps p (by simp)
    have hid2 : ref18_Id.f k p = some (idM p.data.toList) := (congrArg (fun q => ref18_Id.f k q) (B_of p)).trans (r18id _ (by rw [len_data]; omega) k (by rw [len_data]; omega) (by omega))
    rw [List.drop_eq_getElem_cons h, loopL_cons, oneM_of hp] at h5
    simp only [List.length_cons] at hpl
    rw [if_pos h, if_pos h, elT_get (t := .str) (xs := v2) h, hparts, bindO_some, show inB 0 (((p :: rest).length : Nat) : Int) = true from inB_yes (i := 0) (n := (p :: rest).length) (by simp), ifO_true, show elT .str (p :: rest) 0 = p from rfl, hid2, bindO_some]
    cases hc : idM p.data.toList with
    | false =>
      rw [hc] at h5
      simp only [Bool.false_and, Bool.false_eq_true, if_false] at h5
      rw [show notB false = true from rfl, ifO_true, h5]
    | true =>
      rw [hc] at h5
      simp only [Bool.true_and] at h5
      rw [show notB true = false from rfl, ifO_false, r18loop5 v0 hid v1 p rest v2 i (by omega) (by omega) (by omega) (fun x hx => by have := hps x (by simp [hx]); omega) k hk r]
      cases hq : rest.all parM with
      | true =>
        rw [hq] at h5
        simp only [if_true] at h5
        rw [if_pos rfl]
        exact hr _ ⟨rfl, rfl, i + 1, rfl, h, h5⟩ (by show ((v2.length : Int) + 1 - ((i + 1 : Nat) : Int)).toNat < ((v2.length : Int) + 1 - (i : Int)).toNat; omega)
      | false =>
        rw [hq] at h5
        simp only [Bool.false_eq_true, if_false] at h5
        rw [if_neg (by decide), h5]
  · rw [List.drop_eq_nil_of_le (by omega)] at h5
    rw [if_neg h, h5]
    rfl
abbrev cdn : ByteArray := (⟨#[99, 100, 110, 45, 108, 111, 111, 112]⟩ : ByteArray)
def loopV (id : Bs) (l : List Fld) : Bool × Int := if 0 < (XG.vals cdn l).length then (if C (getV cdn l) 0 0 [] = [] then (false, 2) else loopL id (C (getV cdn l) 0 0 []) false) else (false, 0)
theorem loop_is (l : List Fld) (h : sumF l ≤ 50000) (idt : ByteArray) (hid : idt.size ≤ 100000) (k : Nat) (hk : 1000010 ≤ k) : hops_Loop.f k (l, idt) = some (loopV idt.data.toList l) := by
  have hg := getV_len cdn l
  have h1 := C_all (getV cdn l)
  have h2 := sum1_len (C (getV cdn l) 0 0 [])
  unfold hops_Loop.f loopV
  rw [get_is cdn l (by omega), bindO_some]
  simp only
  by_cases hv : 0 < (XG.vals cdn l).length
  · rw [decide_eq_true hv, if_pos hv, show notB true = false from rfl, ifO_false, split_is _ (by omega) k (by omega), bindO_some, lenL_nat, show eqI ((C (getV cdn l) 0 0 []).length : Int) 0 = decide (C (getV cdn l) 0 0 [] = []) by rw [eqI_dec, decide_eq_decide, ← List.length_eq_zero_iff]; omega, ifO_dec]
    by_cases h0 : C (getV cdn l) 0 0 [] = []
    · rw [if_pos h0, if_pos h0]
    · rw [if_neg h0, if_neg h0]
      exact loop2 idt hid _ (by omega) (fun x hx => by have := sum1_mem hx; omega) k hk
  · rw [decide_eq_false hv, if_neg hv]; rfl
theorem r18loop (l : List Fld) (h : sumF l ≤ 50000) (idt : ByteArray) (hid : idt.size ≤ 100000) (k : Nat) (hk : 1000010 ≤ k) : ref18_Loop.f k (l, idt) = some (loopV idt.data.toList l) := by
  have hg := getV_len cdn l
  have h1 := C_all (getV cdn l)
  have h2 := sum1_len (C (getV cdn l) 0 0 [])
  unfold ref18_Loop.f loopV
  rw [r6get cdn l (by omega) k (by omega), bindO_some]
  simp only
  by_cases hv : 0 < (XG.vals cdn l).length
  · rw [decide_eq_true hv, if_pos hv, show notB true = false from rfl, ifO_false, r1split _ (by omega) k (by omega), bindO_some, lenL_nat, show eqI ((C (getV cdn l) 0 0 []).length : Int) 0 = decide (C (getV cdn l) 0 0 [] = []) by rw [eqI_dec, decide_eq_decide, ← List.length_eq_zero_iff]; omega, ifO_dec]
    by_cases h0 : C (getV cdn l) 0 0 [] = []
    · rw [if_pos h0, if_pos h0]
    · rw [if_neg h0, if_neg h0]
      exact r18loop2 idt hid _ (by omega) (fun x hx => by have := sum1_mem hx; omega) k hk
  · rw [decide_eq_false hv, if_neg hv]; rfl
end Go.Proofs.YtkjjegjafpefcaaDoor.R
