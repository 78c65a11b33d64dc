/- The document's fields of a name, and its digits, told by reflection: they are the program's. -/
import Derived.Test.YtpddbfodjeoofaaPureAge
namespace Go.Proofs.Ytpddbfodjeoofaa.R
open Go Go.RowKit
set_option linter.unusedSimpArgs false
set_option linter.unusedVariables false
theorem r6all (l : List Fld) (nm : ByteArray) (hl : l.length ≤ 1000000) (k : Nat) (hk : l.length + 1 < k) : ref06_All.f k (l, nm) = some (XG.vals nm l) := by
  unfold ref06_All.f ref06_All.l0
  refine iter_eq (f := ref06_All.l0b k) (fun v => v.1 = l ∧ v.2.1 = nm ∧ ∃ i : Nat, v.2.2.2 = (i : Int) ∧ i ≤ l.length ∧ v.2.2.1 = XG.vals nm (l.take i)) (fun v => (l.length + 1 - v.2.2.2).toNat) (fun _ => some (XG.vals nm l)) ?_ k _ ⟨rfl, rfl, 0, rfl, Nat.zero_le _, rfl⟩ (by show ((l.length : Int) + 1 - 0).toNat < k; omega)
  rintro r ⟨s, m, xs, i'⟩ ⟨h1, h2, i, h3, hi, h4⟩ hr
  simp only at h1 h2 h3 h4
  subst h1; subst h2; subst h3; subst h4
  unfold ref06_All.l0b ref06_All.j1
  simp only [lenL_nat, ltI_nat, inB_nat, ifO_dec]
  by_cases h : i < s.length
  · have htk : s.take (i + 1) = s.take i ++ [s[i]] := by rw [List.take_add_one, List.getElem?_eq_getElem h]; rfl
    have hv := XG.vals_len m (s.take i)
    rw [List.length_take, Nat.min_eq_left (by omega)] at hv
    rw [if_pos h, if_pos h, elT_get (t := .agg (.pair .str .str)) (xs := s) h, if_pos h, next64 (by omega)]
    have hlt : ((s.length : Int) + 1 - ((i + 1 : Nat) : Int)).toNat < ((s.length : Int) + 1 - (i : Int)).toNat := by omega
    cases hc : eqS s[i].1 m with
    | true =>
      rw [ifO_true, ifO_yes (show fitsL ((XG.vals m (s.take i)).length : Int) (([s[i].2] : List ByteArray).length : Int) 16 = true from fitsL_yes (n := (XG.vals m (s.take i)).length) (m := 1) (bytes := 16) (by omega) (by omega))]
      exact hr _ ⟨rfl, rfl, i + 1, rfl, h, by show _ ++ [s[i].2] = _; rw [htk, XG.vals_hit m _ _ hc]⟩ hlt
    | false =>
      rw [ifO_false]
      exact hr _ ⟨rfl, rfl, i + 1, rfl, h, by show XG.vals m (s.take i) = _; rw [htk, XG.vals_miss m _ _ hc]⟩ hlt
  · rw [if_neg h, List.take_of_length_le (by omega)]
theorem joinTail_snoc (sep : Bs) (r : List Bs) (y : Bs) : Lib.joinTail sep (r ++ [y]) = Lib.joinTail sep r ++ (sep ++ y) := by simp [Lib.joinTail]
theorem join_snoc (sep : Bs) (xs : List Bs) (y : Bs) : Lib.join (xs ++ [y]) sep = if xs = [] then y else Lib.join xs sep ++ sep ++ y := by
  cases xs with
  | nil => rw [List.nil_append, Lib.join_one]; rfl
  | cons x r => rw [List.cons_append, Lib.join_cons, Lib.join_cons, joinTail_snoc, if_neg (by simp)]; simp
theorem sumS_take (xs : List ByteArray) (i : Nat) : sumS (xs.take i) ≤ sumS xs := by
  induction xs generalizing i with
  | nil => simp
  | cons x r ih =>
    cases i with
    | zero => simp [sumS]
    | succ i => simp only [List.take_succ_cons, sumS]; have := ih i; omega
/-- Texts, joined. -/
def joinC (ys : List ByteArray) : Bs := Lib.join (ys.map (·.data.toList)) [44, 32]
theorem joinC_len (ys : List ByteArray) : (joinC ys).length ≤ sumS ys + 2 * ys.length := join_len [44, 32] ys
theorem r6join (ys : List ByteArray) (h1 : sumS ys ≤ 1000000) (h2 : ys.length ≤ 1000000) (k : Nat) (hk : ys.length + 1 < k) : ref06_Get.l1 k (ys, ((⟨#[]⟩ : ByteArray), 0)) = some (B (joinC ys), decide (0 < ys.length)) := by
  unfold ref06_Get.l1
  refine iter_eq (f := ref06_Get.l1b k) (fun v => v.1 = ys ∧ ∃ i : Nat, v.2.2 = (i : Int) ∧ i ≤ ys.length ∧ v.2.1 = B (joinC (ys.take i))) (fun v => (ys.length + 1 - v.2.2).toNat) (fun _ => some (B (joinC ys), decide (0 < ys.length))) ?_ k _ ⟨rfl, 0, rfl, Nat.zero_le _, rfl⟩ (by show ((ys.length : Int) + 1 - 0).toNat < k; omega)
  rintro r ⟨s, t, i'⟩ ⟨e1, i, e3, hi, e4⟩ hr
  simp only at e1 e3 e4
  subst e1; subst e3; subst e4
  unfold ref06_Get.l1b ref06_Get.j2
  simp only [lenL_nat, inB_nat, ltI_nat, ifO_dec]
  by_cases h : i < s.length
  · have htk : s.take (i + 1) = s.take i ++ [s[i]] := by rw [List.take_add_one, List.getElem?_eq_getElem h]; rfl
    have b0 := joinC_len (s.take i)
    have b1 := sumS_take s i
    have b2 : sumS (s.take i ++ [s[i]]) ≤ sumS s := by rw [← htk]; exact sumS_take s (i + 1)
    have b3 : ∀ (a : List ByteArray) (x : ByteArray), sumS (a ++ [x]) = sumS a + x.size := by
      intro a x
      induction a with
      | nil => simp [sumS]
      | cons y a ih => simp only [List.cons_append, sumS, ih]; omega
    rw [b3] at b2
    rw [List.length_take, Nat.min_eq_left (by omega)] at b0
    have hx : s[i] = B s[i].data.toList := B_of _
    have hxs : s[i].data.toList.length = s[i].size := by rw [Array.length_toList]; rfl
    have hlt : ((s.length : Int) + 1 - ((i + 1 : Nat) : Int)).toNat < ((s.length : Int) + 1 - (i : Int)).toNat := by omega
    have hj : joinC (s.take (i + 1)) = if i = 0 then s[i].data.toList else joinC (s.take i) ++ [44, 32] ++ s[i].data.toList := by
      unfold joinC
      rw [htk, List.map_append]
      show Lib.join (_ ++ [s[i].data.toList]) _ = _
      rw [join_snoc]
      by_cases h0 : i = 0
      · subst h0; rfl
      · rw [if_neg h0, if_neg]
        intro hn
        have := congrArg List.length hn
        rw [List.length_map, List.length_take, Nat.min_eq_left (by omega)] at this
        exact h0 this
    rw [if_pos h, elT_get (t := .str) (xs := s) h, show ltI 0 (i : Int) = decide (0 < i) from ltI_nat 0 i, ifO_dec]
    have q : (⟨#[44, 32]⟩ : ByteArray) = B [44, 32] := rfl
    by_cases h0 : 0 < i
    · rw [if_pos h0, q, ifO_yes (by rw [B_fits]; exact decide_eq_true (by simp only [List.length_cons, List.length_nil]; omega)), if_pos h, hx, B_cat, ifO_yes (by rw [B_fits]; exact decide_eq_true (by simp only [List.length_append, List.length_cons, List.length_nil, hxs]; omega)), B_cat, next64 (by omega)]
      exact hr _ ⟨rfl, i + 1, rfl, h, by show B _ = B _; rw [hj, if_neg (by omega)]⟩ hlt
    · rw [if_neg h0, if_pos h, hx, ifO_yes (by rw [B_fits]; exact decide_eq_true (by rw [hxs]; omega)), B_cat, next64 (by omega)]
      obtain rfl : i = 0 := by omega
      exact hr _ ⟨rfl, 0 + 1, rfl, h, by show B _ = B _; rw [hj, if_pos rfl]; rfl⟩ hlt
  · rw [if_neg h, List.take_of_length_le (by omega), show ltI 0 (s.length : Int) = decide (0 < s.length) from ltI_nat 0 _]
theorem r6get (nm : ByteArray) (l : List Fld) (h : sumF l ≤ 100000) (k : Nat) (hk : 100010 ≤ k) : ref06_Get.f k (l, nm) = some (B (getV nm l), decide (0 < (XG.vals nm l).length)) := by
  have h1 := sumF_len l
  have h2 := vals_sum nm l
  have h3 := XG.vals_len nm l
  unfold ref06_Get.f
  rw [r6all l nm (by omega) k (by omega), bindO_some, r6join _ (by omega) (by omega) k (by omega)]
  rfl
theorem r1digits (l : Bs) (hl : l.length ≤ 1000000) (k : Nat) (hk : l.length + 1 < k) : ref01_Digits.f k (B l) = some (digV l) := by
  unfold ref01_Digits.f ref01_Digits.l0
  refine iter_eq (f := ref01_Digits.l0b k) (fun v => v.1 = B l ∧ ∃ i : Nat, v.2.2 = (i : Int) ∧ i ≤ l.length ∧ ∃ n : Int, v.2.1 = n ∧ 0 ≤ n ∧ n ≤ 2147483648 ∧ dgs n (l.drop i) = dgs 0 l ∧ (l.take i).all dg = true) (fun v => (l.length + 1 - v.2.2).toNat) (fun _ => some (digV l)) ?_ k _ ⟨rfl, 0, rfl, Nat.zero_le _, 0, rfl, Int.le_refl _, by decide, rfl, rfl⟩ (by show ((l.length : Int) + 1 - 0).toNat < k; omega)
  rintro r ⟨s, n', i'⟩ ⟨h1, i, h3, hi, n, h0, h4, h5, h6, h7⟩ hr
  simp only at h1 h3 h0
  subst h1; subst h3; subst h0
  unfold ref01_Digits.l0b
  simp only [B_len, B_bt, ltI_nat, inB_nat, ifO_dec]
  by_cases h : i < l.length
  · have hu := l[i].toNat_lt
    have hb : ∀ b : Bool, dg l[i] = b → dg l[i] = b := fun _ h => h
    have hf : dg l[i] = false → digV l = (0, false) := by
      intro hc
      have : l.all dg = false := List.all_eq_false.2 ⟨l[i], List.getElem_mem h, by rw [hc]; decide⟩
      unfold digV
      rw [this]
      split <;> rfl
    rw [if_pos h, if_pos h, show l.getD i 0 = l[i] by rw [List.getD_eq_getElem?_getD, List.getElem?_eq_getElem h]; rfl, show ltI (l[i].toNat : Int) 48 = decide (l[i].toNat < 48) from ltI_nat _ 48, show ltI 57 (l[i].toNat : Int) = decide (57 < l[i].toNat) from ltI_nat 57 _, ifO_dec, ifO_dec]
    by_cases h8 : l[i].toNat < 48
    · rw [if_pos h8, hf (by unfold dg; simp; omega)]
    rw [if_neg h8, if_pos h]
    by_cases h9 : 57 < l[i].toNat
    · rw [if_pos h9, hf (by unfold dg; simp; omega)]
    have hc : dg l[i] = true := by unfold dg; simp; omega
    rw [if_neg h9, if_pos h, mul64 (by omega) (by omega), show convI .i64 (l[i].toNat : Int) = (l[i].toNat : Int) from w64 (by omega) (by omega), add64 (by omega) (by omega), sub64 (by omega) (by omega), next64 (by omega), minI_eq]
    refine hr _ ⟨rfl, i + 1, rfl, h, min (10 * n' + (l[i].toNat : Int) - 48) 2147483648, rfl, ?_, ?_, ?_, ?_⟩ (by show ((l.length : Int) + 1 - ((i + 1 : Nat) : Int)).toNat < ((l.length : Int) + 1 - (i : Int)).toNat; omega)
    · omega
    · omega
    · rw [← h6, List.drop_eq_getElem_cons h]
      show dgs _ _ = dgs (min (10 * n' + ((l[i].toNat : Int) - 48)) 2147483648) _
      congr 2; omega
    · rw [List.take_add_one, List.getElem?_eq_getElem h, List.all_append, h7]
      simp [hc]
  · rw [if_neg h]
    rw [List.drop_eq_nil_of_le (by omega)] at h6
    rw [List.take_of_length_le (by omega)] at h7
    rw [show ltI 0 (l.length : Int) = decide (0 < l.length) from ltI_nat 0 _]
    unfold digV
    rw [if_pos h7, show n' = dgs 0 l from h6]
    cases l with
    | nil => rfl
    | cons c l => rw [if_neg (by simp)]; simp
end Go.Proofs.Ytpddbfodjeoofaa.R
