/- Fields: how great they are, a name's values, and these as one. -/
import Derived.Test.YtmmbedlegmbppaaDoorPAsc
namespace Go.Proofs.YtmmbedlegmbppaaDoor.R
open Go Go.RowKit
set_option linter.unusedSimpArgs false
set_option linter.unusedVariables false
/-- How great fields are. -/
def sumF : List Fld → Nat
  | [] => 0
  | f :: r => f.1.size + f.2.size + 4 + sumF r
/-- The same, told while it is not great. -/
def szs : Nat → List Fld → Nat
  | n, [] => n
  | n, f :: r => if n < 100000 then szs (n + f.1.size + f.2.size + 4) r else n
theorem szs_small (m : Nat) (hm : m < 100000) : ∀ (l : List Fld) (n : Nat), szs n l ≤ m → n + sumF l ≤ m
  | [], n, h => h
  | f :: r, n, h => by
    unfold szs at h
    split at h
    · have := szs_small m hm r _ h; unfold sumF; omega
    · omega
def Fits (l : List Fld) : Prop := ∀ f ∈ l, f.1.size ≤ 140737488351232 ∧ f.2.size ≤ 140737488351232
theorem size_is (l : List Fld) (hl : l.length ≤ 140737488351232) (hf : Fits l) (k : Nat) (hk : l.length + 1 < k) : ref06_Size.f k l = some ((szs 0 l : Nat) : Int) := by
  unfold ref06_Size.f ref06_Size.l0
  have H := iter_eq (f := ref06_Size.l0b k) (fun v => v.1 = l ∧ ∃ n i : Nat, v.2.1 = (n : Int) ∧ v.2.2 = (i : Int) ∧ i ≤ l.length ∧ n ≤ 300000000000000) (fun v => (l.length + 1 - v.2.2).toNat) (fun v => some ((szs v.2.1.toNat (l.drop v.2.2.toNat) : Nat) : Int)) ?_ k (l, ((0 : Int), (0 : Int))) ⟨rfl, 0, 0, rfl, rfl, Nat.zero_le _, by omega⟩ (by show ((l.length : Int) + 1 - 0).toNat < k; omega)
  · exact H
  · rintro r ⟨s, n', i'⟩ ⟨h1, n, i, h2, h3, hi, hn⟩ hr
    simp only at h1 h2 h3
    subst h1; subst h2; subst h3
    unfold ref06_Size.l0b ref06_Size.j1
    simp only [lenL_nat, ltI_nat, inB_nat, ifO_dec, Int.toNat_natCast]
    by_cases h : i < s.length
    · rw [if_pos h, List.drop_eq_getElem_cons h]
      unfold szs
      rw [show ltI (n : Int) 100000 = decide (n < 100000) from ltI_nat n 100000, ifO_dec]
      by_cases hb : n < 100000
      · obtain ⟨b1, b2⟩ := hf s[i] (List.getElem_mem h)
        rw [if_pos hb, if_pos hb, if_pos h, if_pos h, elT_get (t := .agg (.pair .str .str)) (xs := s) h]
        unfold lenS
        rw [add64 (x := (n : Int)) (y := (s[i].1.size : Int)) (by omega) (by omega), add64 (x := (n : Int) + (s[i].1.size : Int)) (y := (s[i].2.size : Int)) (by omega) (by omega), add64 (x := (n : Int) + (s[i].1.size : Int) + (s[i].2.size : Int)) (y := 4) (by omega) (by omega), next64 (by omega)]
        rw [hr _ ⟨rfl, n + s[i].1.size + s[i].2.size + 4, i + 1, by push_cast; rfl, rfl, h, by omega⟩ (by show ((s.length : Int) + 1 - ((i + 1 : Nat) : Int)).toNat < ((s.length : Int) + 1 - (i : Int)).toNat; omega)]
        simp only [Int.toNat_natCast]
        congr 3
      · rw [if_neg hb, if_neg hb]
    · rw [if_neg h, List.drop_eq_nil_of_le (by omega)]
      rfl
theorem sumF_len : ∀ l : List Fld, 4 * l.length ≤ sumF l
  | [] => Nat.le_refl _
  | f :: r => by have := sumF_len r; unfold sumF; rw [List.length_cons]; omega
/-! ### a name's values -/
def sumS : List ByteArray → Nat
  | [] => 0
  | s :: r => s.size + sumS r
theorem vals_sum (nm : ByteArray) : ∀ l : List Fld, sumS (XG.vals nm l) + 4 * (XG.vals nm l).length ≤ sumF l
  | [] => Nat.le_refl _
  | f :: r => by
    have ih := vals_sum nm r
    unfold XG.vals at ih ⊢
    rw [List.filter_cons]
    split
    · simp only [List.map_cons, List.length_cons]
      unfold sumS sumF
      omega
    · unfold sumF; omega
theorem join_len (sep : Bs) : ∀ xs : List ByteArray, (Lib.join (xs.map (·.data.toList)) sep).length ≤ sumS xs + sep.length * xs.length
  | [] => by simp [Lib.join, sumS]
  | [x] => by
    have e : Lib.join (List.map (fun s : ByteArray => s.data.toList) [x]) sep = x.data.toList ++ [] := rfl
    rw [e, List.append_nil, Array.length_toList]
    show x.data.size ≤ x.data.size + 0 + sep.length * 1
    omega
  | x :: y :: r => by
    have ih := join_len sep (y :: r)
    unfold Lib.join at ih ⊢
    simp only [List.map_cons, List.intercalate, List.intersperse, List.flatten_cons, List.length_append, List.length_cons, Array.length_toList] at ih ⊢
    have h1 : sumS (x :: y :: r) = x.data.size + sumS (y :: r) := rfl
    have h2 : sep.length * (r.length + 1 + 1) = sep.length * (r.length + 1) + sep.length := by rw [Nat.mul_succ]
    omega
/-- The value of a name. -/
def getV (nm : ByteArray) (l : List Fld) : Bs := Lib.join ((XG.vals nm l).map (·.data.toList)) [44, 32]
theorem getV_len (nm : ByteArray) (l : List Fld) : (getV nm l).length ≤ sumF l := by
  have h1 := join_len [44, 32] (XG.vals nm l)
  have h2 := vals_sum nm l
  unfold getV
  simp only [List.length_cons, List.length_nil] at h1
  omega
theorem get_is (nm : ByteArray) (l : List Fld) (h : sumF l ≤ 100000) (k : Nat) : head_Get.f k (l, nm) = some (B (getV nm l), decide (0 < (XG.vals nm l).length)) := by
  have h1 := sumF_len l
  have h2 := getV_len nm l
  have h3 := XG.vals_len nm l
  unfold head_Get.f head_All.f
  rw [if_pos (show l.length ≤ 100000 by omega), bindO_some]
  unfold x_Join.f
  rw [if_pos ⟨by show (XG.vals nm l).length ≤ _; omega, by show (getV nm l).length ≤ _; omega⟩, bindO_some]
  simp only [lenL_nat, show (0 : Int) = ((0 : Nat) : Int) from rfl, ltI_nat]
  rfl
theorem r6all (l : List Fld) (nm : ByteArray) (hl : l.length ≤ 1000000) (k : Nat) (hk : l.length + 1 < k) : ref06_All.f k (l, nm) = some (XG.vals nm l) := by
  unfold ref06_All.f ref06_All.l0
  refine iter_eq (f := ref06_All.l0b k) (fun v => v.1 = l ∧ v.2.1 = nm ∧ ∃ i : Nat, v.2.2.2 = (i : Int) ∧ i ≤ l.length ∧ v.2.2.1 = XG.vals nm (l.take i)) (fun v => (l.length + 1 - v.2.2.2).toNat) (fun _ => some (XG.vals nm l)) ?_ k _ ⟨rfl, rfl, 0, rfl, Nat.zero_le _, rfl⟩ (by show ((l.length : Int) + 1 - 0).toNat < k; omega)
  rintro r ⟨s, m, xs, i'⟩ ⟨h1, h2, i, h3, hi, h4⟩ hr
  simp only at h1 h2 h3 h4
  subst h1; subst h2; subst h3; subst h4
  unfold ref06_All.l0b ref06_All.j1
  simp only [lenL_nat, ltI_nat, inB_nat, ifO_dec]
  by_cases h : i < s.length
  · have htk : s.take (i + 1) = s.take i ++ [s[i]] := by rw [List.take_add_one, List.getElem?_eq_getElem h]; rfl
    have hv := XG.vals_len m (s.take i)
    rw [List.length_take, Nat.min_eq_left (by omega)] at hv
    rw [if_pos h, if_pos h, elT_get (t := .agg (.pair .str .str)) (xs := s) h, if_pos h, next64 (by omega)]
    have hlt : ((s.length : Int) + 1 - ((i + 1 : Nat) : Int)).toNat < ((s.length : Int) + 1 - (i : Int)).toNat := by omega
    cases hc : eqS s[i].1 m with
    | true =>
      rw [ifO_true, ifO_yes (show fitsL ((XG.vals m (s.take i)).length : Int) (([s[i].2] : List ByteArray).length : Int) 16 = true from fitsL_yes (n := (XG.vals m (s.take i)).length) (m := 1) (bytes := 16) (by omega) (by omega))]
      exact hr _ ⟨rfl, rfl, i + 1, rfl, h, by show _ ++ [s[i].2] = _; rw [htk, XG.vals_hit m _ _ hc]⟩ hlt
    | false =>
      rw [ifO_false]
      exact hr _ ⟨rfl, rfl, i + 1, rfl, h, by show XG.vals m (s.take i) = _; rw [htk, XG.vals_miss m _ _ hc]⟩ hlt
  · rw [if_neg h, List.take_of_length_le (by omega)]
theorem joinTail_snoc (sep : Bs) (r : List Bs) (y : Bs) : Lib.joinTail sep (r ++ [y]) = Lib.joinTail sep r ++ (sep ++ y) := by simp [Lib.joinTail]
theorem join_snoc (sep : Bs) (xs : List Bs) (y : Bs) : Lib.join (xs ++ [y]) sep = if xs = [] then y else Lib.join xs sep ++ sep ++ y := by
  cases xs with
  | nil => rw [List.nil_append, Lib.join_one]; rfl
  | cons x r => rw [List.cons_append, Lib.join_cons, Lib.join_cons, joinTail_snoc, if_neg (by simp)]; simp
theorem sumS_take (xs : List ByteArray) (i : Nat) : sumS (xs.take i) ≤ sumS xs := by
  induction xs generalizing i with
  | nil => simp
  | cons x r ih =>
    cases i with
    | zero => simp [sumS]
    | succ i => simp only [List.take_succ_cons, sumS]; have := ih i; omega
/-- Texts, joined. -/
def joinC (ys : List ByteArray) : Bs := Lib.join (ys.map (·.data.toList)) [44, 32]
theorem joinC_len (ys : List ByteArray) : (joinC ys).length ≤ sumS ys + 2 * ys.length := join_len [44, 32] ys
theorem r6join (ys : List ByteArray) (h1 : sumS ys ≤ 1000000) (h2 : ys.length ≤ 1000000) (k : Nat) (hk : ys.length + 1 < k) : ref06_Get.l1 k (ys, ((⟨#[]⟩ : ByteArray), 0)) = some (B (joinC ys), decide (0 < ys.length)) := by
  unfold ref06_Get.l1
  refine iter_eq (f := ref06_Get.l1b k) (fun v => v.1 = ys ∧ ∃ i : Nat, v.2.2 = (i : Int) ∧ i ≤ ys.length ∧ v.2.1 = B (joinC (ys.take i))) (fun v => (ys.length + 1 - v.2.2).toNat) (fun _ => some (B (joinC ys), decide (0 < ys.length))) ?_ k _ ⟨rfl, 0, rfl, Nat.zero_le _, rfl⟩ (by show ((ys.length : Int) + 1 - 0).toNat < k; omega)
  rintro r ⟨s, t, i'⟩ ⟨e1, i, e3, hi, e4⟩ hr
  simp only at e1 e3 e4
  subst e1; subst e3; subst e4
  unfold ref06_Get.l1b ref06_Get.j2
  simp only [lenL_nat, inB_nat, ltI_nat, ifO_dec]
  by_cases h : i < s.length
  · have htk : s.take (i + 1) = s.take i ++ [s[i]] := by rw [List.take_add_one, List.getElem?_eq_getElem h]; rfl
    have b0 := joinC_len (s.take i)
    have b1 := sumS_take s i
    have b2 : sumS (s.take i ++ [s[i]]) ≤ sumS s := by rw [← htk]; exact sumS_take s (i + 1)
    have b3 : ∀ (a : List ByteArray) (x : ByteArray), sumS (a ++ [x]) = sumS a + x.size := by
      intro a x
      induction a with
      | nil => simp [sumS]
      | cons y a ih => simp only [List.cons_append, sumS, ih]; omega
    rw [b3] at b2
    rw [List.length_take, Nat.min_eq_left (by omega)] at b0
    have hx : s[i] = B s[i].data.toList := B_of _
    have hxs : s[i].data.toList.length = s[i].size := by rw [Array.length_toList]; rfl
    have hlt : ((s.length : Int) + 1 - ((i + 1 : Nat) : Int)).toNat < ((s.length : Int) + 1 - (i : Int)).toNat := by omega
    have hj : joinC (s.take (i + 1)) = if i = 0 then s[i].data.toList else joinC (s.take i) ++ [44, 32] ++ s[i].data.toList := by
      unfold joinC
      rw [htk, List.map_append]
      show Lib.join (_ ++ [s[i].data.toList]) _ = _
      rw [join_snoc]
      by_cases h0 : i = 0
      · subst h0; rfl
      · rw [if_neg h0, if_neg]
        intro hn
        have := congrArg List.length hn
        rw [List.length_map, List.length_take, Nat.min_eq_left (by omega)] at this
        exact h0 this
    rw [if_pos h, elT_get (t := .str) (xs := s) h, show ltI 0 (i : Int) = decide (0 < i) from ltI_nat 0 i, ifO_dec]
    have q : (⟨#[44, 32]⟩ : ByteArray) = B [44, 32] := rfl
    by_cases h0 : 0 < i
    · rw [if_pos h0, q, ifO_yes (by rw [B_fits]; exact decide_eq_true (by simp only [List.length_cons, List.length_nil]; omega)), if_pos h, hx, B_cat, ifO_yes (by rw [B_fits]; exact decide_eq_true (by simp only [List.length_append, List.length_cons, List.length_nil, hxs]; omega)), B_cat, next64 (by omega)]
      exact hr _ ⟨rfl, i + 1, rfl, h, by show B _ = B _; rw [hj, if_neg (by omega)]⟩ hlt
    · rw [if_neg h0, if_pos h, hx, ifO_yes (by rw [B_fits]; exact decide_eq_true (by rw [hxs]; omega)), B_cat, next64 (by omega)]
      obtain rfl : i = 0 := by omega
      exact hr _ ⟨rfl, 0 + 1, rfl, h, by show B _ = B _; rw [hj, if_pos rfl]; rfl⟩ hlt
  · rw [if_neg h, List.take_of_length_le (by omega), show ltI 0 (s.length : Int) = decide (0 < s.length) from ltI_nat 0 _]
theorem r6get (nm : ByteArray) (l : List Fld) (h : sumF l ≤ 100000) (k : Nat) (hk : 100010 ≤ k) : ref06_Get.f k (l, nm) = some (B (getV nm l), decide (0 < (XG.vals nm l).length)) := by
  have h1 := sumF_len l
  have h2 := vals_sum nm l
  have h3 := XG.vals_len nm l
  unfold ref06_Get.f
  rw [r6all l nm (by omega) k (by omega), bindO_some, r6join _ (by omega) (by omega) k (by omega)]
  rfl
theorem with_is (l : List Fld) (nm v : ByteArray) (hl : l.length ≤ 100000) (k : Nat) : head_With.f k (l, (nm, v)) = some (l ++ [(nm, v)]) := by
  unfold head_With.f
  have e : cutL l 0 (lenL l) = l := by unfold cutL lenL; rw [Int.toNat_natCast, List.take_length]; rfl
  have c : andB (andB (boundB (lenL l) (lenL l)) (boundB 0 (lenL l))) (eqI (lenL l) (lenL l)) = true := by
    rw [lenL_nat, boundB_yes (Nat.le_refl _), show (0 : Int) = ((0 : Nat) : Int) from rfl, boundB_yes (Nat.zero_le _), eqI_dec]; simp [andB]
  rw [c, ifO_true, e, lenL_nat, lenL_nat, fitsL_yes (by simp only [List.length_cons, List.length_nil]; omega) (by simp only [List.length_cons, List.length_nil]; omega), ifO_true]
  rfl
theorem sumF_cons (f : Fld) (r : List Fld) : sumF (f :: r) = f.1.size + f.2.size + 4 + sumF r := rfl
theorem sumF_snoc (f : Fld) : ∀ l : List Fld, sumF (l ++ [f]) = sumF l + (f.1.size + f.2.size + 4)
  | [] => by show f.1.size + f.2.size + 4 + 0 = 0 + _; omega
  | g :: r => by
    rw [List.cons_append, sumF_cons, sumF_cons, sumF_snoc f r]
    omega
end Go.Proofs.YtmmbedlegmbppaaDoor.R
