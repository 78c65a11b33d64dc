/- Directives out of a text: the program's and the document's are one. -/
import Derived.Test.YtkjjegjafpefcaaDoorPDig
import Derived.Test.YtkjjegjafpefcaaDoorPSplit
import Derived.Test.YtkjjegjafpefcaaDoorPHead
namespace Go.Proofs.YtkjjegjafpefcaaDoor.R
open Go Go.RowKit
set_option linter.unusedSimpArgs false
set_option linter.unusedVariables false
abbrev Dir := ByteArray × ByteArray × Bool
abbrev nums (l : Bs) : List Int := l.map fun c => (c.toNat : Int)
def unI (xs : List Int) : Bs := xs.map fun n => UInt8.ofNat n.toNat
theorem unI_nums (l : Bs) : unI (nums l) = l := by
  unfold unI nums
  rw [List.map_map]
  conv => rhs; rw [← List.map_id l]
  apply List.map_congr_left
  intro c _
  simp
/-- What stands in a quoted text, behind its first sign. -/
def unqM : Bs → Bs → Bs × Bool
  | [], _ => ([], false)
  | c :: r, acc => if c = 34 then (acc, decide (r = [])) else if c = 92 then (match r with
      | [] => ([], false)
      | d :: r' => unqM r' (acc ++ [d])) else unqM r (acc ++ [c])
theorem drop_one {l : Bs} {i : Nat} (h : i < l.length) : l.drop i = l[i] :: l.drop (i + 1) := List.drop_eq_getElem_cons h
theorem drop_nil {l : Bs} {i : Nat} : l.drop i = [] ↔ l.length ≤ i := List.drop_eq_nil_iff
theorem B_nil : (⟨#[]⟩ : ByteArray) = B [] := rfl
theorem legunq (l : Bs) (hl : l.length ≤ 1000000) (k : Nat) (hk : l.length + 1 < k) : legacy_unquoted.l1 k (B l, ((0 : Int), ([] : List Int))) = some (B (unqM l []).1, (unqM l []).2) := by
  unfold legacy_unquoted.l1
  have H := iter_eq (f := legacy_unquoted.l1b k) (fun v => v.1 = B l ∧ ∃ (i : Nat) (acc : Bs), v.2.1 = (i : Int) ∧ v.2.2 = nums acc ∧ acc.length ≤ i ∧ i ≤ l.length) (fun v => (l.length + 1 - v.2.1).toNat) (fun v => some (B (unqM (l.drop v.2.1.toNat) (unI v.2.2)).1, (unqM (l.drop v.2.1.toNat) (unI v.2.2)).2)) ?_ k (B l, ((0 : Int), ([] : List Int))) ⟨rfl, 0, [], rfl, rfl, Nat.le_refl _, Nat.zero_le _⟩ (by show ((l.length : Int) + 1 - 0).toNat < k; omega)
  · exact H
  rintro r ⟨s, i', xs⟩ ⟨h1, i, acc, h2, h3, ha, hi⟩ hr
  simp only at h1 h2 h3
  subst h1; subst h2; subst h3
  simp only [Int.toNat_natCast, unI_nums]
  have go : ∀ j : Nat, i ≤ j → (hj : j < l.length) → legacy_unquoted.j2 k r (B l, ((j : Int), nums acc)) = some (B (unqM (l.drop (j + 1)) (acc ++ [l[j]])).1, (unqM (l.drop (j + 1)) (acc ++ [l[j]])).2) := by
    intro j hij hj
    unfold legacy_unquoted.j2
    simp only
    rw [B_len, inB_yes hj, ifO_true, B_at hj, lenL_nat, List.length_map, show lenL ((l[j].toNat : Int) :: ([] : List Int)) = ((1 : Nat) : Int) from rfl, fitsL_yes (by omega) (by omega), ifO_true, next64 (by omega), hr _ ⟨rfl, j + 1, acc ++ [l[j]], rfl, by simp [catL, nums], by simp; omega, hj⟩ (by show ((l.length : Int) + 1 - ((j + 1 : Nat) : Int)).toNat < ((l.length : Int) + 1 - (i : Int)).toNat; omega)]
    simp only [Int.toNat_natCast]
    rw [show catL (nums acc) ((l[j].toNat : Int) :: ([] : List Int)) = nums (acc ++ [l[j]]) by simp [catL, nums], unI_nums]
  unfold legacy_unquoted.l1b
  simp only [B_len, ltI_nat, inB_nat, ifO_dec]
  by_cases h : i < l.length
  · rw [if_pos h, if_pos h, B_at h, show eqI (l[i].toNat : Int) 34 = decide (l[i] = 34) from eq_byte _ 34, show eqI (l[i].toNat : Int) 92 = decide (l[i] = 92) from eq_byte _ 92, ifO_dec, ifO_dec, next64 (by omega), drop_one h]
    simp only [eqI_dec, ifO_dec]
    unfold unqM
    by_cases c34 : l[i] = 34
    · rw [if_pos c34, if_pos c34, B_ofBytes, sub64 (by omega) (by omega)]
      congr 3
      apply propext
      rw [drop_nil]
      omega
    rw [if_neg c34, if_neg c34]
    by_cases c92 : l[i] = 92
    · rw [if_pos c92, if_pos c92]
      by_cases he : i + 1 = l.length
      · rw [if_pos (by omega), show l.drop (i + 1) = [] from drop_nil.2 (by omega)]; rfl
      · rw [if_neg (by omega), go (i + 1) (by omega) (by omega), drop_one (show i + 1 < l.length by omega)]
    · rw [if_neg c92, if_neg c92, go i (Nat.le_refl _) h]
  · rw [if_neg h, drop_nil.2 (by omega)]; rfl
theorem r10unq (l : Bs) (hl : l.length ≤ 1000000) (k : Nat) (hk : l.length + 1 < k) (m : Nat) (hm : m ≤ l.length) : ref10_unquoted.l0 k (B l, (([] : List Int), (m : Int))) = some (B (unqM (l.drop m) []).1, (unqM (l.drop m) []).2) := by
  unfold ref10_unquoted.l0
  have H := iter_eq (f := ref10_unquoted.l0b k) (fun v => v.1 = B l ∧ ∃ (i : Nat) (acc : Bs), v.2.2 = (i : Int) ∧ v.2.1 = nums acc ∧ acc.length ≤ i ∧ i ≤ l.length) (fun v => (l.length + 1 - v.2.2).toNat) (fun v => some (B (unqM (l.drop v.2.2.toNat) (unI v.2.1)).1, (unqM (l.drop v.2.2.toNat) (unI v.2.1)).2)) ?_ k (B l, (([] : List Int), (m : Int))) ⟨rfl, m, [], rfl, rfl, Nat.zero_le _, hm⟩ (by show ((l.length : Int) + 1 - (m : Int)).toNat < k; omega)
  · rw [H]; simp only [Int.toNat_natCast]; rfl
  rintro r ⟨s, xs, i'⟩ ⟨h1, i, acc, h2, h3, ha, hi⟩ hr
  simp only at h1 h2 h3
  subst h1; subst h2; subst h3
  simp only [Int.toNat_natCast, unI_nums]
  have go : ∀ j : Nat, i ≤ j → (hj : j < l.length) → ref10_unquoted.j1 k r (B l, (nums acc, (j : Int))) = some (B (unqM (l.drop (j + 1)) (acc ++ [l[j]])).1, (unqM (l.drop (j + 1)) (acc ++ [l[j]])).2) := by
    intro j hij hj
    unfold ref10_unquoted.j1
    simp only
    rw [B_len, inB_yes hj, ifO_true, B_at hj, lenL_nat, List.length_map, show lenL ((l[j].toNat : Int) :: ([] : List Int)) = ((1 : Nat) : Int) from rfl, fitsL_yes (by omega) (by omega), ifO_true, next64 (by omega), hr _ ⟨rfl, j + 1, acc ++ [l[j]], rfl, by simp [catL, nums], by simp; omega, hj⟩ (by show ((l.length : Int) + 1 - ((j + 1 : Nat) : Int)).toNat < ((l.length : Int) + 1 - (i : Int)).toNat; omega)]
    simp only [Int.toNat_natCast]
    rw [show catL (nums acc) ((l[j].toNat : Int) :: ([] : List Int)) = nums (acc ++ [l[j]]) by simp [catL, nums], unI_nums]
  unfold ref10_unquoted.l0b
  simp only [B_len, ltI_nat, inB_nat, ifO_dec]
  by_cases h : i < l.length
  · rw [if_pos h, if_pos h, B_at h, show eqI (l[i].toNat : Int) 34 = decide (l[i] = 34) from eq_byte _ 34, show eqI (l[i].toNat : Int) 92 = decide (l[i] = 92) from eq_byte _ 92, ifO_dec, ifO_dec, next64 (by omega), drop_one h]
    simp only [eqI_dec, ifO_dec]
    unfold unqM
    by_cases c34 : l[i] = 34
    · rw [if_pos c34, if_pos c34, B_ofBytes, sub64 (by omega) (by omega)]
      congr 3
      apply propext
      rw [drop_nil]
      omega
    rw [if_neg c34, if_neg c34, if_pos h]
    by_cases c92 : l[i] = 92
    · rw [if_pos c92, if_pos c92]
      by_cases he : i + 1 = l.length
      · rw [if_pos (by omega), show l.drop (i + 1) = [] from drop_nil.2 (by omega)]; rfl
      · rw [if_neg (by omega), go (i + 1) (by omega) (by omega), drop_one (show i + 1 < l.length by omega)]
    · rw [if_neg c92, if_neg c92, go i (Nat.le_refl _) h]
  · rw [if_neg h, drop_nil.2 (by omega)]; rfl
theorem prefix_is (l p : Bs) (hl : l.length ≤ 1000000) (k : Nat) : strings_CutPrefix.f k (B l, B p) = some (if p = l.take p.length then (B (l.drop p.length), true) else (B l, false)) := by
  unfold strings_CutPrefix.f internal_stringslite_CutPrefix.f internal_stringslite_HasPrefix.f
  simp only [B_len, leI_nat, ifO_dec]
  by_cases h : p.length ≤ l.length
  · rw [if_pos h, boundB_yes h, show boundB 0 (p.length : Int) = true from boundB_yes (i := 0) (by omega), show andB true true = true from rfl, ifO_true, show cutS (B l) 0 (p.length : Int) = B ((l.take p.length).drop 0) from B_cut l 0 p.length, B_eq, List.drop_zero, bindO_some]
    by_cases he : p = l.take p.length
    · rw [if_pos he, show decide (l.take p.length = p) = true from decide_eq_true he.symm, show notB true = false from rfl, ifO_false, boundB_yes (Nat.le_refl _), show andB true true = true from rfl, ifO_true, bindO_some, B_cut, List.take_of_length_le (Nat.le_refl _)]
    · rw [if_neg he, show decide (l.take p.length = p) = false from decide_eq_false (fun e => he e.symm), show notB false = true from rfl, ifO_true, bindO_some]
  · rw [if_neg h, bindO_some, show notB false = true from rfl, ifO_true, bindO_some, if_neg (fun e => h (by have := congrArg List.length e; rw [List.length_take] at this; omega))]
theorem prefix1_is (c d : UInt8) (r : Bs) (hl : (d :: r).length ≤ 1000000) (k : Nat) : strings_CutPrefix.f k (B (d :: r), B [c]) = some (if d = c then (B r, true) else (B (d :: r), false)) := by
  rw [prefix_is _ _ hl]
  by_cases h : d = c
  · subst h; simp
  · simp [h, Ne.symm h]
/-- A quoted text. -/
def unqV (l : Bs) : Bs × Bool := match l with
  | [] => ([], false)
  | c :: r => if c = 34 then unqM r [] else ([], false)
theorem unqV_cons (c : UInt8) (r : Bs) : unqV (c :: r) = if c = 34 then unqM r [] else ([], false) := rfl
theorem unquoted_is (l : Bs) (hl : l.length ≤ 1000000) (k : Nat) (hk : l.length + 1 < k) : legacy_unquoted.f k (B l) = some (B (unqV l).1, (unqV l).2) := by
  unfold legacy_unquoted.f
  rw [show (⟨#[34]⟩ : ByteArray) = B [34] from rfl]
  cases l with
  | nil => rw [prefix_is _ _ hl]; rfl
  | cons c r =>
    rw [unqV_cons, prefix1_is 34 c r hl k, bindO_some]
    by_cases hc : c = 34
    · rw [if_pos hc, if_pos hc]
      exact legunq r (by simp at hl; omega) k (by simp at hk; omega)
    · rw [if_neg hc, if_neg hc]
      rfl
theorem r10unquoted (l : Bs) (hl : l.length ≤ 1000000) (k : Nat) (hk : l.length + 1 < k) : ref10_unquoted.f k (B l) = some (B (unqV l).1, (unqV l).2) := by
  unfold ref10_unquoted.f
  rw [B_len, show ltI (l.length : Int) 2 = decide (l.length < 2) from ltI_nat _ 2, ifO_dec]
  cases l with
  | nil => rfl
  | cons c r =>
    by_cases h2 : (c :: r).length < 2
    · rw [if_pos h2]
      have hr : r = [] := by cases r with
        | nil => rfl
        | cons _ _ => exact absurd h2 (by simp)
      subst hr
      rw [unqV_cons]
      split <;> rfl
    · rw [if_neg h2, show inB 0 (((c :: r).length : Nat) : Int) = true from inB_yes (i := 0) (by simp), ifO_true, show btI (B (c :: r)) 0 = (c.toNat : Int) from B_at (l := c :: r) (i := 0) (by simp), show neI (c.toNat : Int) 34 = decide (¬ c = 34) from ne_byte _ 34, ifO_dec, unqV_cons]
      by_cases hc : c = 34
      · rw [if_neg (fun hh => hh hc), if_pos hc, show (1 : Int) = ((1 : Nat) : Int) from rfl, r10unq _ hl k hk 1 (by simp)]
        rfl
      · rw [if_pos hc, if_neg hc]; rfl
/-! ### one directive -/
def dirM (l : Bs) : Dir × Bool := match cutAt 61 l with
  | none => ((B (lowL l), B [], false), tokB l)
  | some (a, b) => if tokB b = true then ((B (lowL a), B b, true), tokB a) else ((B (lowL a), B (unqV b).1, true), (unqV b).2 && tokB a)
theorem directive_is (l : Bs) (hl : l.length ≤ 1000000) (k : Nat) (hk : l.length + 1 < k) : legacy_directive.f k (B l) = some (dirM l) := by
  unfold legacy_directive.f dirM
  rw [show (⟨#[61]⟩ : ByteArray) = B [61] from rfl, cut_is _ hl, bindO_some]
  cases hc : cutAt 61 l with
  | none =>
    simp only
    rw [lower_is l (by omega), bindO_some, show notB false = true from rfl, ifO_true]
    unfold legacy_directive.j2 legacy_directive.j4
    simp only
    rw [show notB true = false from rfl, ifO_false, ifO_true, token_is l (by omega), bindO_some]
  | some p =>
    obtain ⟨a, b⟩ := p
    obtain ⟨h1, _⟩ := cutAt_some hc
    have hlen : l.length = a.length + (b.length + 1) := by rw [h1]; simp
    simp only
    rw [lower_is a (by omega), bindO_some, show notB true = false from rfl, ifO_false, token_is b (by omega), bindO_some]
    unfold legacy_directive.j2 legacy_directive.j4
    simp only
    cases htb : tokB b with
    | true => rw [show notB true = false from rfl, ifO_false, ifO_true, token_is a (by omega), bindO_some, if_pos rfl]
    | false =>
      rw [show notB false = true from rfl, ifO_true, unquoted_is b (by omega) k (by omega), bindO_some, if_neg (by decide)]
      simp only
      cases (unqV b).2 with
      | true => rw [ifO_true, token_is a (by omega), bindO_some, Bool.true_and]
      | false => rw [ifO_false, Bool.false_and]
theorem cutAt_step (one : Bs) (i : Nat) (h : i < one.length) (c : UInt8) : cutAt c (one.drop i) = if one[i] = c then some ([], one.drop (i + 1)) else (cutAt c (one.drop (i + 1))).map fun p => (one[i] :: p.1, p.2) := by
  rw [drop_one h]; rfl
theorem r10one (l : Bs) (hl : l.length ≤ 1000000) (k : Nat) (hk : l.length + 1 < k) (hk' : 20 ≤ k) : ref10_one.f k (B l) = some (dirM l) := by
  unfold ref10_one.f ref10_one.l0
  refine iter_eq (f := ref10_one.l0b k) (fun v => v.1 = B l ∧ ∃ i : Nat, v.2.1 = (i : Int) ∧ i ≤ l.length ∧ cutAt 61 l = (cutAt 61 (l.drop i)).map fun p => (l.take i ++ p.1, p.2)) (fun v => (l.length + 1 - v.2.1).toNat) (fun _ => some (dirM l)) ?_ k _ ⟨rfl, 0, rfl, Nat.zero_le _, ?_⟩ (by show ((l.length : Int) + 1 - 0).toNat < k; omega)
  rotate_left
  · rw [List.drop_zero]; simp
  rintro r ⟨s, i', z0, z1, z2⟩ ⟨h1, i, h2, hi, hcut⟩ hr
  simp only at h1 h2
  subst h1; subst h2
  unfold ref10_one.l0b
  simp only [B_len, ltI_nat, inB_nat, ifO_dec]
  by_cases h : i < l.length
  · rw [if_pos h, if_pos h, B_at h, show neI (l[i].toNat : Int) 61 = decide (¬ l[i] = 61) from ne_byte _ 61, ifO_dec, next64 (by omega)]
    rw [cutAt_step l i h] at hcut
    by_cases hc : l[i] = 61
    · rw [if_neg (fun hh => hh hc)]
      rw [if_pos hc, Option.map_some, List.append_nil] at hcut
      unfold dirM
      rw [hcut]
      simp only
      have e0 : cutS (B l) 0 (i : Int) = B (l.take i) := (B_cut l 0 i).trans (by rw [List.drop_zero])
      have e1 : cutS (B l) ((i + 1 : Nat) : Int) (l.length : Int) = B (l.drop (i + 1)) := by rw [B_cut, List.take_of_length_le (Nat.le_refl _)]
      have n0 : (l.take i).length ≤ i := by rw [List.length_take]; omega
      have n1 : (l.drop (i + 1)).length + 1 ≤ l.length := by rw [List.length_drop]; omega
      rw [boundB_yes (by omega), show boundB 0 (i : Int) = true from boundB_yes (i := 0) (by omega), boundB_yes (Nat.le_refl _), boundB_yes (by omega), show andB true true = true from rfl, ifO_true, ifO_true, e0, e1, r1lower _ (by omega) k (by omega), bindO_some, r1token _ (by omega) k (by omega) hk', bindO_some]
      cases htb : tokB (l.drop (i + 1)) with
      | true => rw [ifO_true, r1token _ (by omega) k (by omega) hk', bindO_some, if_pos rfl]
      | false =>
        rw [ifO_false, r10unquoted _ (by omega) k (by omega), bindO_some, if_neg (by decide)]
        simp only
        cases (unqV (l.drop (i + 1))).2 with
        | true => rw [ifO_true, r1token _ (by omega) k (by omega) hk', bindO_some, Bool.true_and]
        | false => rw [ifO_false, Bool.false_and]
    · rw [if_pos hc]
      rw [if_neg hc] at hcut
      refine hr _ ⟨rfl, i + 1, rfl, h, ?_⟩ (by show ((l.length : Int) + 1 - ((i + 1 : Nat) : Int)).toNat < ((l.length : Int) + 1 - (i : Int)).toNat; omega)
      rw [hcut, Option.map_map]
      congr 1
      funext p
      have htk : l.take (i + 1) = l.take i ++ [l[i]] := by rw [List.take_add_one, List.getElem?_eq_getElem h]; rfl
      show (l.take i ++ (l[i] :: p.1), p.2) = (l.take (i + 1) ++ p.1, p.2)
      rw [htk, List.append_assoc]
      rfl
  · rw [if_neg h]
    rw [drop_nil.2 (by omega)] at hcut
    have hcut' : cutAt 61 l = none := hcut
    unfold dirM
    rw [hcut', r1lower _ (by omega) k (by omega), bindO_some, r1token _ (by omega) k (by omega) hk', bindO_some]
    rfl
/-! ### all of a text -/
def pickD (l : List ByteArray) : List Dir := l.filterMap fun s => if (dirM s.data.toList).2 = true then some (dirM s.data.toList).1 else none
theorem pickD_snoc (l : List ByteArray) (s : ByteArray) : pickD (l ++ [s]) = if (dirM s.data.toList).2 = true then pickD l ++ [(dirM s.data.toList).1] else pickD l := by
  unfold pickD
  rw [List.filterMap_append]
  by_cases h : (dirM s.data.toList).2 = true
  · simp only [List.filterMap_cons, List.filterMap_nil, h, if_true]
  · simp only [List.filterMap_cons, List.filterMap_nil, h, if_false, List.append_nil, Bool.false_eq_true]
theorem pickD_len (l : List ByteArray) : (pickD l).length ≤ l.length := List.length_filterMap_le _ _
theorem take_snoc {α : Type} (l : List α) (i : Nat) (h : i < l.length) : l.take (i + 1) = l.take i ++ [l[i]] := by rw [List.take_add_one, List.getElem?_eq_getElem h]; rfl
theorem legparse_loop (ps : List ByteArray) (hp : ps.length ≤ 1000000) (hs : ∀ s ∈ ps, s.size ≤ 1000000) (k : Nat) (hk : 1000010 ≤ k) : legacy_Parse.l1 k (([] : List Dir), (ps, ((ps.length : Int), 0))) = some (pickD ps) := by
  unfold legacy_Parse.l1
  refine iter_eq (f := legacy_Parse.l1b k) (fun v => v.2.1 = ps ∧ v.2.2.1 = (ps.length : Int) ∧ ∃ i : Nat, v.2.2.2 = (i : Int) ∧ i ≤ ps.length ∧ v.1 = pickD (ps.take i)) (fun v => (ps.length + 1 - v.2.2.2).toNat) (fun _ => some (pickD ps)) ?_ k _ ⟨rfl, rfl, 0, rfl, Nat.zero_le _, rfl⟩ (by show ((ps.length : Int) + 1 - 0).toNat < k; omega)
  rintro r ⟨out, s, n, i'⟩ ⟨h1, h2, i, h3, hi, h4⟩ hr
  simp only at h1 h2 h3 h4
  subst h1; subst h2; subst h3; subst h4
  unfold legacy_Parse.l1b legacy_Parse.j3
  simp only [lenL_nat, ltI_nat, inB_nat, ifO_dec]
  by_cases h : i < s.length
  · have hsz := hs _ (List.getElem_mem h)
    have hl : s[i].data.toList.length = s[i].size := by rw [Array.length_toList]; rfl
    have hpl := pickD_len (s.take i)
    rw [List.length_take] at hpl
    have hd : legacy_directive.f k s[i] = some (dirM s[i].data.toList) := (congrArg (fun q => legacy_directive.f k q) (B_of s[i])).trans (directive_is _ (by omega) k (by omega))
    have hlt : ((s.length : Int) + 1 - ((i + 1 : Nat) : Int)).toNat < ((s.length : Int) + 1 - (i : Int)).toNat := by omega
    rw [if_pos h, if_pos h, elT_get (t := .str) (xs := s) h, hd, bindO_some, next64 (by omega)]
    cases hc : (dirM s[i].data.toList).2 with
    | true =>
      rw [ifO_true, show ∀ x : Dir, (([(x.1, (x.2.1, x.2.2))] : List Dir).length : Int) = ((1 : Nat) : Int) from fun _ => rfl, fitsL_yes (by omega) (by omega), ifO_true]
      exact hr _ ⟨rfl, rfl, i + 1, rfl, h, by rw [take_snoc _ _ h, pickD_snoc, if_pos hc]; rfl⟩ hlt
    | false =>
      rw [ifO_false]
      exact hr _ ⟨rfl, rfl, i + 1, rfl, h, by rw [take_snoc _ _ h, pickD_snoc, if_neg (by rw [hc]; decide)]⟩ hlt
  · rw [if_neg h, List.take_of_length_le (by omega)]
theorem r10parse_loop (ps : List ByteArray) (hp : ps.length ≤ 1000000) (hs : ∀ s ∈ ps, s.size ≤ 1000000) (k : Nat) (hk : 1000010 ≤ k) : ref10_Parse.l1 k (([] : List Dir), (ps, 0)) = some (pickD ps) := by
  unfold ref10_Parse.l1
  refine iter_eq (f := ref10_Parse.l1b k) (fun v => v.2.1 = ps ∧ ∃ i : Nat, v.2.2 = (i : Int) ∧ i ≤ ps.length ∧ v.1 = pickD (ps.take i)) (fun v => (ps.length + 1 - v.2.2).toNat) (fun _ => some (pickD ps)) ?_ k _ ⟨rfl, 0, rfl, Nat.zero_le _, rfl⟩ (by show ((ps.length : Int) + 1 - 0).toNat < k; omega)
  rintro r ⟨out, s, i'⟩ ⟨h1, i, h3, hi, h4⟩ hr
  simp only at h1 h3 h4
  subst h1; subst h3; subst h4
  unfold ref10_Parse.l1b ref10_Parse.j3
  simp only [lenL_nat, ltI_nat, inB_nat, ifO_dec]
  by_cases h : i < s.length
  · have hsz := hs _ (List.getElem_mem h)
    have hl : s[i].data.toList.length = s[i].size := by rw [Array.length_toList]; rfl
    have hpl := pickD_len (s.take i)
    rw [List.length_take] at hpl
    have hd : ref10_one.f k s[i] = some (dirM s[i].data.toList) := (congrArg (fun q => ref10_one.f k q) (B_of s[i])).trans (r10one _ (by omega) k (by omega) (by omega))
    have hlt : ((s.length : Int) + 1 - ((i + 1 : Nat) : Int)).toNat < ((s.length : Int) + 1 - (i : Int)).toNat := by omega
    rw [if_pos h, if_pos h, elT_get (t := .str) (xs := s) h, hd, bindO_some, next64 (by omega)]
    cases hc : (dirM s[i].data.toList).2 with
    | true =>
      rw [ifO_true, show ∀ x : Dir, (([(x.1, (x.2.1, x.2.2))] : List Dir).length : Int) = ((1 : Nat) : Int) from fun _ => rfl, fitsL_yes (by omega) (by omega), ifO_true]
      exact hr _ ⟨rfl, i + 1, rfl, h, by rw [take_snoc _ _ h, pickD_snoc, if_pos hc]; rfl⟩ hlt
    | false =>
      rw [ifO_false]
      exact hr _ ⟨rfl, i + 1, rfl, h, by rw [take_snoc _ _ h, pickD_snoc, if_neg (by rw [hc]; decide)]⟩ hlt
  · rw [if_neg h, List.take_of_length_le (by omega)]
/-- How long the parts of a text are, together. -/
def sum1 : List ByteArray → Nat
  | [] => 0
  | s :: r => s.size + 1 + sum1 r
theorem sum1_snoc (l : List ByteArray) (s : ByteArray) : sum1 (l ++ [s]) = sum1 l + (s.size + 1) := by
  induction l with
  | nil => simp [sum1]
  | cons x l ih => simp only [List.cons_append, sum1, ih]; omega
theorem sum1_mem {l : List ByteArray} {s : ByteArray} (h : s ∈ l) : s.size + 1 ≤ sum1 l := by
  induction l with
  | nil => cases h
  | cons x l ih =>
    rcases List.mem_cons.1 h with rfl | h
    · simp only [sum1]; omega
    · have := ih h; simp only [sum1]; omega
theorem sum1_len (l : List ByteArray) : l.length ≤ sum1 l := by
  induction l with
  | nil => exact Nat.le_refl _
  | cons x l ih => simp only [sum1, List.length_cons]; omega
theorem takeP_sum (acc : List ByteArray) (q : Bs) : sum1 (takeP acc (B q)) ≤ sum1 acc + (q.length + 1) := by
  rw [takeP_B]
  have := strip_le q
  split
  · omega
  · rw [sum1_snoc, B_size]; omega
theorem C_sum (l : Bs) : ∀ (n fr i : Nat) (acc : List ByteArray), l.length + 1 - i ≤ n → fr ≤ i → fr ≤ l.length → sum1 (C l fr i acc) ≤ sum1 acc + (l.length - fr + 1) := by
  intro n
  induction n with
  | zero =>
    intro fr i acc h1 h2 h3
    rw [C_end _ _ _ _ (by omega), B_extract]
    refine Nat.le_trans (takeP_sum _ _) ?_
    rw [List.length_drop, List.length_take]; omega
  | succ n ih =>
    intro fr i acc h1 h2 h3
    by_cases h : i < l.length
    · rw [C_step _ _ _ _ h]
      by_cases h34 : (l[i]).toNat = 34
      · rw [if_pos h34]
        have := endAt_bd l (i + 1) h
        exact ih _ _ _ (by omega) (by omega) h3
      · rw [if_neg h34]
        by_cases h44 : (l[i]).toNat = 44
        · rw [if_pos h44, B_extract]
          have h5 := ih (i + 1) (i + 1) (takeP acc (B ((l.take i).drop fr))) (by omega) (Nat.le_refl _) (by omega)
          have h6 := takeP_sum acc ((l.take i).drop fr)
          rw [List.length_drop, List.length_take] at h6
          omega
        · rw [if_neg h44]
          exact ih _ _ _ (by omega) (by omega) h3
    · rw [C_end _ _ _ _ (by omega), B_extract]
      refine Nat.le_trans (takeP_sum _ _) ?_
      rw [List.length_drop, List.length_take]; omega
def parseD (l : Bs) : List Dir := pickD (C l 0 0 [])
theorem C_all (l : Bs) : sum1 (C l 0 0 []) ≤ l.length + 1 := by
  have := C_sum l (l.length + 1) 0 0 [] (by omega) (Nat.le_refl _) (Nat.zero_le _)
  simpa [sum1] using this
theorem legparse_is (l : Bs) (hl : l.length ≤ 100000) (k : Nat) (hk : 1000010 ≤ k) : legacy_Parse.f k (B l) = some (parseD l) := by
  have h1 := C_all l
  have h2 := sum1_len (C l 0 0 [])
  unfold legacy_Parse.f
  rw [split_is l hl k (by omega), bindO_some]
  exact legparse_loop _ (by omega) (fun s hs => by have := sum1_mem hs; omega) k hk
theorem r10parse_is (l : Bs) (hl : l.length ≤ 100000) (k : Nat) (hk : 1000010 ≤ k) : ref10_Parse.f k (B l) = some (parseD l) := by
  have h1 := C_all l
  have h2 := sum1_len (C l 0 0 [])
  unfold ref10_Parse.f
  rw [r1split l hl k (by omega), bindO_some]
  exact r10parse_loop _ (by omega) (fun s hs => by have := sum1_mem hs; omega) k hk
/-- How long directives are. -/
def sumD : List Dir → Nat
  | [] => 0
  | d :: r => d.1.size + d.2.1.size + 1 + sumD r
theorem unqM_le : ∀ (n : Nat) (l acc : Bs), l.length ≤ n → (unqM l acc).1.length ≤ acc.length + l.length := by
  intro n
  induction n with
  | zero => intro l acc h; match l, h with
                           | [], _ => simp [unqM]
  | succ n ih =>
    intro l acc h
    match l, h with
    | [], _ => simp [unqM]
    | [c], _ =>
      unfold unqM
      split
      · simp
      · split
        · simp
        · simp [unqM]
    | c :: d :: r, h =>
      have h1 := ih (d :: r) (acc ++ [c]) (by simpa using h)
      have h2 := ih r (acc ++ [d]) (by simp at h; omega)
      unfold unqM
      simp only [List.length_cons, List.length_append, List.length_nil] at *
      split
      · show acc.length ≤ _; omega
      · split <;> omega
theorem lowL_len (l : Bs) : (lowL l).length = l.length := by unfold lowL; rw [List.length_map]
theorem dirM_le (l : Bs) : (dirM l).1.1.size + (dirM l).1.2.1.size ≤ l.length := by
  unfold dirM
  cases hc : cutAt 61 l with
  | none => simp only [B_size, lowL_len]; simp
  | some p =>
    obtain ⟨a, b⟩ := p
    obtain ⟨h1, _⟩ := cutAt_some hc
    have hlen : l.length = a.length + (b.length + 1) := by rw [h1]; simp
    have hu : (unqV b).1.length ≤ b.length := by
      unfold unqV
      split
      · simp
      · rename_i c r
        split
        · have := unqM_le _ r [] (Nat.le_refl _); simp at this ⊢; omega
        · simp
    simp only
    split
    · simp only [B_size, lowL_len]; omega
    · simp only [B_size, lowL_len]; omega
theorem pickD_sum : ∀ l : List ByteArray, sumD (pickD l) ≤ sum1 l
  | [] => Nat.le_refl _
  | s :: r => by
    have ih := pickD_sum r
    have h := dirM_le s.data.toList
    rw [Array.length_toList] at h
    unfold pickD at ih ⊢
    rw [List.filterMap_cons]
    by_cases hc : (dirM s.data.toList).2 = true
    · simp only [hc, if_true, sumD, sum1]
      have : s.data.size = s.size := rfl
      omega
    · simp only [hc, sum1]
      simp only [Bool.false_eq_true, if_false]
      omega
theorem parseD_sum (l : Bs) : sumD (parseD l) ≤ l.length + 1 := Nat.le_trans (pickD_sum _) (C_all l)
end Go.Proofs.YtkjjegjafpefcaaDoor.R
