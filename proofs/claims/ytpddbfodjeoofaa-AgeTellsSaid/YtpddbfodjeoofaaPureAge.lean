/- What the functions of age, and those they call, tell: in plain words. -/
import Derived.Test.YtpddbfodjeoofaaF0
namespace Go.Proofs.Ytpddbfodjeoofaa.R
open Go Go.RowKit
set_option linter.unusedSimpArgs false
set_option linter.unusedVariables false
abbrev Fld := ByteArray × ByteArray
theorem minI_eq (x y : Int) : minI x y = min x y := by unfold minI; split <;> omega
theorem maxI_eq (x y : Int) : maxI x y = max x y := by unfold maxI; split <;> omega
/-- How great fields are. -/
def sumF : List Fld → Nat
  | [] => 0
  | f :: r => f.1.size + f.2.size + 4 + sumF r
/-- The same, told while it is not great. -/
def szs : Nat → List Fld → Nat
  | n, [] => n
  | n, f :: r => if n < 100000 then szs (n + f.1.size + f.2.size + 4) r else n
theorem szs_small : ∀ (l : List Fld) (n : Nat), szs n l ≤ 2000 → n + sumF l ≤ 2000
  | [], n, h => h
  | f :: r, n, h => by
    unfold szs at h
    split at h
    · have := szs_small r _ h; unfold sumF; omega
    · omega
def Fits (l : List Fld) : Prop := ∀ f ∈ l, f.1.size ≤ 140737488351232 ∧ f.2.size ≤ 140737488351232
theorem size_is (l : List Fld) (hl : l.length ≤ 140737488351232) (hf : Fits l) (k : Nat) (hk : l.length + 1 < k) : ref06_Size.f k l = some ((szs 0 l : Nat) : Int) := by
  unfold ref06_Size.f ref06_Size.l0
  have H := iter_eq (f := ref06_Size.l0b k) (fun v => v.1 = l ∧ ∃ n i : Nat, v.2.1 = (n : Int) ∧ v.2.2 = (i : Int) ∧ i ≤ l.length ∧ n ≤ 300000000000000) (fun v => (l.length + 1 - v.2.2).toNat) (fun v => some ((szs v.2.1.toNat (l.drop v.2.2.toNat) : Nat) : Int)) ?_ k (l, ((0 : Int), (0 : Int))) ⟨rfl, 0, 0, rfl, rfl, Nat.zero_le _, by omega⟩ (by show ((l.length : Int) + 1 - 0).toNat < k; omega)
  · exact H
  · rintro r ⟨s, n', i'⟩ ⟨h1, n, i, h2, h3, hi, hn⟩ hr
    simp only at h1 h2 h3
    subst h1; subst h2; subst h3
    unfold ref06_Size.l0b ref06_Size.j1
    simp only [lenL_nat, ltI_nat, inB_nat, ifO_dec, Int.toNat_natCast]
    by_cases h : i < s.length
    · rw [if_pos h, List.drop_eq_getElem_cons h]
      unfold szs
      rw [show ltI (n : Int) 100000 = decide (n < 100000) from ltI_nat n 100000, ifO_dec]
      by_cases hb : n < 100000
      · obtain ⟨b1, b2⟩ := hf s[i] (List.getElem_mem h)
        rw [if_pos hb, if_pos hb, if_pos h, if_pos h, elT_get (t := .agg (.pair .str .str)) (xs := s) h]
        unfold lenS
        rw [add64 (x := (n : Int)) (y := (s[i].1.size : Int)) (by omega) (by omega), add64 (x := (n : Int) + (s[i].1.size : Int)) (y := (s[i].2.size : Int)) (by omega) (by omega), add64 (x := (n : Int) + (s[i].1.size : Int) + (s[i].2.size : Int)) (y := 4) (by omega) (by omega), next64 (by omega)]
        rw [hr _ ⟨rfl, n + s[i].1.size + s[i].2.size + 4, i + 1, by push_cast; rfl, rfl, h, by omega⟩ (by show ((s.length : Int) + 1 - ((i + 1 : Nat) : Int)).toNat < ((s.length : Int) + 1 - (i : Int)).toNat; omega)]
        simp only [Int.toNat_natCast]
        congr 3
      · rw [if_neg hb, if_neg hb]
    · rw [if_neg h, List.drop_eq_nil_of_le (by omega)]
      rfl
theorem sumF_len : ∀ l : List Fld, 4 * l.length ≤ sumF l
  | [] => Nat.le_refl _
  | f :: r => by have := sumF_len r; unfold sumF; rw [List.length_cons]; omega
/-! ### a name's values -/
def sumS : List ByteArray → Nat
  | [] => 0
  | s :: r => s.size + sumS r
theorem vals_sum (nm : ByteArray) : ∀ l : List Fld, sumS (XG.vals nm l) + 4 * (XG.vals nm l).length ≤ sumF l
  | [] => Nat.le_refl _
  | f :: r => by
    have ih := vals_sum nm r
    unfold XG.vals at ih ⊢
    rw [List.filter_cons]
    split
    · simp only [List.map_cons, List.length_cons]
      unfold sumS sumF
      omega
    · unfold sumF; omega
theorem join_len (sep : Bs) : ∀ xs : List ByteArray, (Lib.join (xs.map (·.data.toList)) sep).length ≤ sumS xs + sep.length * xs.length
  | [] => by simp [Lib.join, sumS]
  | [x] => by
    have e : Lib.join (List.map (fun s : ByteArray => s.data.toList) [x]) sep = x.data.toList ++ [] := rfl
    rw [e, List.append_nil, Array.length_toList]
    show x.data.size ≤ x.data.size + 0 + sep.length * 1
    omega
  | x :: y :: r => by
    have ih := join_len sep (y :: r)
    unfold Lib.join at ih ⊢
    simp only [List.map_cons, List.intercalate, List.intersperse, List.flatten_cons, List.length_append, List.length_cons, Array.length_toList] at ih ⊢
    have h1 : sumS (x :: y :: r) = x.data.size + sumS (y :: r) := rfl
    have h2 : sep.length * (r.length + 1 + 1) = sep.length * (r.length + 1) + sep.length := by rw [Nat.mul_succ]
    omega
/-- The value of a name. -/
def getV (nm : ByteArray) (l : List Fld) : Bs := Lib.join ((XG.vals nm l).map (·.data.toList)) [44, 32]
theorem getV_len (nm : ByteArray) (l : List Fld) : (getV nm l).length ≤ sumF l := by
  have h1 := join_len [44, 32] (XG.vals nm l)
  have h2 := vals_sum nm l
  unfold getV
  simp only [List.length_cons, List.length_nil] at h1
  omega
theorem get_is (nm : ByteArray) (l : List Fld) (h : sumF l ≤ 100000) (k : Nat) : head_Get.f k (l, nm) = some (B (getV nm l), decide (0 < (XG.vals nm l).length)) := by
  have h1 := sumF_len l
  have h2 := getV_len nm l
  have h3 := XG.vals_len nm l
  unfold head_Get.f head_All.f
  rw [if_pos (show l.length ≤ 100000 by omega), bindO_some]
  unfold x_Join.f
  rw [if_pos ⟨by show (XG.vals nm l).length ≤ _; omega, by show (getV nm l).length ≤ _; omega⟩, bindO_some]
  simp only [lenL_nat, show (0 : Int) = ((0 : Nat) : Int) from rfl, ltI_nat]
  rfl
/-! ### sums -/
/-- A number within bounds. -/
def cl (x : Int) : Int := min (max x (-1099511627776)) 1099511627776
def tp (x : Int) : Int := min (max x 0) 2147483648
def sumC : List Int → Int
  | [] => 0
  | x :: r => cl x + sumC r
theorem cl_bd (x : Int) : -1099511627776 ≤ cl x ∧ cl x ≤ 1099511627776 := by unfold cl; omega
theorem sumC_bd : ∀ l : List Int, -1099511627776 * (l.length : Int) ≤ sumC l ∧ sumC l ≤ 1099511627776 * (l.length : Int)
  | [] => by simp [sumC]
  | x :: r => by
    have h1 := sumC_bd r
    have h2 := cl_bd x
    unfold sumC
    rw [List.length_cons]
    push_cast
    omega
theorem sumC_snoc (l : List Int) (x : Int) : sumC (l ++ [x]) = sumC l + cl x := by
  induction l with
  | nil => simp [sumC]
  | cons y l ih => simp only [List.cons_append, sumC, ih]; omega
theorem sum_is (l : List Int) (hl : l.length ≤ 1000) (k : Nat) (hk : l.length + 1 < k) : age_Sum.f k l = some (tp (sumC l)) := by
  unfold age_Sum.f age_Sum.l0
  have H := iter_eq (f := age_Sum.l0b k) (fun v => v.2.1 = l ∧ v.2.2.1 = (l.length : Int) ∧ ∃ i : Nat, v.2.2.2 = (i : Int) ∧ i ≤ l.length ∧ v.1 = sumC (l.take i)) (fun v => (l.length + 1 - v.2.2.2).toNat) (fun _ => some (tp (sumC l))) ?_ k ((0 : Int), (l, ((l.length : Int), (0 : Int)))) ⟨rfl, rfl, 0, rfl, Nat.zero_le _, rfl⟩ (by show ((l.length : Int) + 1 - 0).toNat < k; omega)
  · exact H
  · rintro r ⟨n, s, m, i'⟩ ⟨h1, h2, i, h3, hi, h4⟩ hr
    simp only at h1 h2 h3 h4
    subst h1; subst h2; subst h3; subst h4
    unfold age_Sum.l0b
    simp only [lenL_nat, ltI_nat, inB_nat, ifO_dec]
    by_cases h : i < s.length
    · have htk : s.take (i + 1) = s.take i ++ [s[i]] := by rw [List.take_add_one, List.getElem?_eq_getElem h]; rfl
      have b1 := sumC_bd (s.take i)
      have b2 := cl_bd s[i]
      rw [List.length_take, Nat.min_eq_left (by omega)] at b1
      rw [if_pos h, if_pos h, elT_get (t := .int .i64) (xs := s) h, minI_eq, maxI_eq]
      rw [show min (max s[i] (-1099511627776)) 1099511627776 = cl s[i] from rfl, add64 (by omega) (by omega), next64 (by omega)]
      exact hr _ ⟨rfl, rfl, i + 1, rfl, h, by rw [htk, sumC_snoc]⟩ (by show ((s.length : Int) + 1 - ((i + 1 : Nat) : Int)).toNat < ((s.length : Int) + 1 - (i : Int)).toNat; omega)
    · rw [if_neg h, minI_eq, maxI_eq, List.take_of_length_le (by omega)]
      rfl
theorem clamp_is (x : Int) (k : Nat) : age_Clamp.f k x = some (min (max x 0) 1099511627776) := by unfold age_Clamp.f; rw [minI_eq, maxI_eq]
/-! ### digits -/
def dgs : Int → Bs → Int
  | n, [] => n
  | n, c :: r => dgs (min (10 * n + ((c.toNat : Int) - 48)) 2147483648) r
def dg (c : UInt8) : Bool := decide (48 ≤ c.toNat) && decide (c.toNat ≤ 57)
def digV (l : Bs) : Int × Bool := if l = [] then (0, false) else if l.all dg then (dgs 0 l, true) else (0, false)
theorem dgs_bd : ∀ (l : Bs) (n : Int), l.all dg = true → 0 ≤ n → n ≤ 2147483648 → 0 ≤ dgs n l ∧ dgs n l ≤ 2147483648
  | [], n, _, h, h' => ⟨h, h'⟩
  | c :: r, n, ha, h, h' => by
    simp only [List.all_cons, Bool.and_eq_true] at ha
    have hc : 48 ≤ c.toNat ∧ c.toNat ≤ 57 := by simpa [dg] using ha.1
    exact dgs_bd r _ ha.2 (by omega) (by omega)
theorem digV_bd (l : Bs) : 0 ≤ (digV l).1 ∧ (digV l).1 ≤ 2147483648 := by
  unfold digV
  split
  · simp
  · split
    · rename_i h; exact dgs_bd l 0 h (by omega) (by omega)
    · simp
theorem bytes_get (l : Bs) (i : Nat) (h : i < l.length) : elT (.int .u8) (bytesI (B l)) (i : Int) = (l[i].toNat : Int) := by
  rw [B_bytes, elT_get (t := .int .u8) (by simpa using h), List.getElem_map]
theorem bytes_len (l : Bs) : lenL (bytesI (B l)) = (l.length : Int) := by rw [B_bytes, lenL_nat, List.length_map]
theorem sub8 (c : UInt8) (h : 48 ≤ c.toNat) : convI .i64 (subI .u8 (c.toNat : Int) 48) = (c.toNat : Int) - 48 := by
  have hc := c.toNat_lt
  have : subI .u8 (c.toNat : Int) 48 = (c.toNat : Int) - 48 := by
    unfold subI IntKind.wrap
    rw [show (2 : Int) ^ (IntKind.bits .u8) = 256 from rfl]
    simp only [show IntKind.signed .u8 = false from rfl, Bool.false_and]
    split
    · contradiction
    · omega
  rw [this]
  exact w64 (by omega) (by omega)
theorem digits_l1 (l : Bs) (hl : l.length ≤ 1000000) (ha : l.all dg = true) (k : Nat) (hk : l.length + 1 < k) : ascii_Digits.l1 k (0, (bytesI (B l), ((l.length : Int), 0))) = some (dgs 0 l, true) := by
  unfold ascii_Digits.l1
  refine iter_eq (f := ascii_Digits.l1b k) (fun v => v.2.1 = bytesI (B l) ∧ v.2.2.1 = (l.length : Int) ∧ ∃ i : Nat, v.2.2.2 = (i : Int) ∧ i ≤ l.length ∧ ∃ n : Int, v.1 = n ∧ 0 ≤ n ∧ n ≤ 2147483648 ∧ dgs n (l.drop i) = dgs 0 l) (fun v => (l.length + 1 - v.2.2.2).toNat) (fun _ => some (dgs 0 l, true)) ?_ k _ ⟨rfl, rfl, 0, rfl, Nat.zero_le _, 0, rfl, Int.le_refl _, by decide, rfl⟩ (by show ((l.length : Int) + 1 - 0).toNat < k; omega)
  rintro r ⟨n', s, m, i'⟩ ⟨h1, h2, i, h3, hi, n, h0, h4, h5, h6⟩ hr
  simp only at h1 h2 h3 h0
  subst h1; subst h2; subst h3; subst h0
  unfold ascii_Digits.l1b
  simp only [bytes_len, ltI_nat, inB_nat, ifO_dec]
  by_cases h : i < l.length
  · have hc : dg l[i] = true := List.all_eq_true.1 ha _ (List.getElem_mem h)
    have hc' : 48 ≤ l[i].toNat ∧ l[i].toNat ≤ 57 := by simpa [dg] using hc
    rw [if_pos h, if_pos h, bytes_get l i h, sub8 _ hc'.1, mul64 (by omega) (by omega), add64 (by omega) (by omega), next64 (by omega), minI_eq]
    refine hr _ ⟨rfl, rfl, i + 1, rfl, h, _, rfl, ?_, ?_, ?_⟩ (by show ((l.length : Int) + 1 - ((i + 1 : Nat) : Int)).toNat < ((l.length : Int) + 1 - (i : Int)).toNat; omega)
    · omega
    · omega
    · rw [← h6, List.drop_eq_getElem_cons h]; rfl
  · rw [if_neg h]
    rw [List.drop_eq_nil_of_le (by omega)] at h6
    rw [show n' = dgs 0 l from h6]
theorem digit_is (c : UInt8) (k : Nat) : ascii_digit.f k (c.toNat : Int) = some (dg c) := by
  unfold ascii_digit.f
  rw [show leI 48 (c.toNat : Int) = decide (48 ≤ c.toNat) from leI_nat 48 c.toNat, show leI (c.toNat : Int) 57 = decide (c.toNat ≤ 57) from leI_nat c.toNat 57, ifO_dec]
  unfold dg
  by_cases h1 : 48 ≤ c.toNat <;> simp [h1]
theorem digits_is (l : Bs) (hl : l.length ≤ 1000000) (k : Nat) (hk : l.length + 1 < k) : ascii_Digits.f k (B l) = some (digV l) := by
  unfold ascii_Digits.f
  rw [show (⟨#[]⟩ : ByteArray) = B [] from rfl, B_eq, ifO_dec]
  by_cases h0 : l = []
  · rw [if_pos h0]; unfold ascii_Digits.j0 digV; rw [if_pos h0, ifO_true]
  · rw [if_neg h0, B_ok, ifO_dec, if_pos (by omega), bytes_len]
    have j0 : ∀ b, ascii_Digits.j0 k (B l, b) = if b = true then some (0, false) else ascii_Digits.l1 k (0, (bytesI (B l), ((l.length : Int), 0))) := by
      intro b
      unfold ascii_Digits.j0
      rw [B_ok, bytes_len]
      cases b
      · rw [ifO_false, ifO_dec, if_pos (by omega)]; rfl
      · rfl
    unfold ascii_Digits.l2
    refine iter_eq (f := ascii_Digits.l2b k) (fun v => v.1 = bytesI (B l) ∧ v.2.1 = (l.length : Int) ∧ v.2.2.2.1 = B l ∧ ∃ i : Nat, v.2.2.1 = (i : Int) ∧ i ≤ l.length ∧ (l.take i).all dg = true) (fun v => (l.length + 1 - v.2.2.1).toNat) (fun _ => some (digV l)) ?_ k _ ⟨rfl, rfl, rfl, 0, rfl, Nat.zero_le _, rfl⟩ (by show ((l.length : Int) + 1 - 0).toNat < k; omega)
    rintro r ⟨s, m, i', t, q⟩ ⟨h1, h2, h3, i, h4, hi, h5⟩ hr
    simp only at h1 h2 h3 h4 h5
    subst h1; subst h2; subst h3; subst h4
    unfold ascii_Digits.l2b
    simp only [bytes_len, ltI_nat, inB_nat, ifO_dec]
    by_cases h : i < l.length
    · rw [if_pos h, if_pos h, bytes_get l i h, digit_is, bindO_some]
      cases hc : dg l[i] with
      | false =>
        show ifO true _ _ = _
        rw [ifO_true, j0, if_pos rfl]
        have : l.all dg = false := List.all_eq_false.2 ⟨l[i], List.getElem_mem h, by rw [hc]; decide⟩
        unfold digV
        rw [if_neg h0, this]; rfl
      | true =>
        show ifO false _ _ = _
        rw [ifO_false, next64 (by omega)]
        refine hr _ ⟨rfl, rfl, rfl, i + 1, rfl, h, ?_⟩ (by show ((l.length : Int) + 1 - ((i + 1 : Nat) : Int)).toNat < ((l.length : Int) + 1 - (i : Int)).toNat; omega)
        rw [List.take_add_one, List.getElem?_eq_getElem h, List.all_append, h5]
        simp [hc]
    · rw [if_neg h, j0, if_neg (by decide)]
      rw [List.take_of_length_le (by omega)] at h5
      rw [digits_l1 l hl h5 k hk]
      unfold digV
      rw [if_neg h0, if_pos h5]
/-! ### what fields tell -/
def toldV (l : List Fld) : Int := (digV (getV (⟨#[97, 103, 101]⟩ : ByteArray) l)).1
theorem told_is (l : List Fld) (h : sumF l ≤ 100000) (k : Nat) (hk : 100010 ≤ k) : age_Told.f k l = some (toldV l) := by
  have h2 := getV_len (⟨#[97, 103, 101]⟩ : ByteArray) l
  unfold age_Told.f
  rw [get_is _ l h, bindO_some, digits_is _ (by omega) k (by omega), bindO_some]
  rfl
theorem toldV_bd (l : List Fld) : 0 ≤ toldV l ∧ toldV l ≤ 2147483648 := digV_bd _
def c0 (x : Int) : Int := min (max x 0) 1099511627776
def dateV (l : List Fld) (o : Int) : Int := match Pure.found (getV (⟨#[100, 97, 116, 101]⟩ : ByteArray) l) with
  | some a => c0 a
  | none => c0 o
theorem date_is (l : List Fld) (h : sumF l ≤ 100000) (o : Int) (k : Nat) : age_Date.f k (l, o) = some (dateV l o) := by
  unfold age_Date.f age_Date.j2
  rw [get_is _ l h, bindO_some, date_Parse.is, bindO_some]
  unfold dateV
  cases Pure.found (getV (⟨#[100, 97, 116, 101]⟩ : ByteArray) l) with
  | none =>
    show ifO (neI 2 0) _ _ = _
    rw [show neI 2 0 = true from rfl, ifO_true, clamp_is]; rfl
  | some a =>
    show ifO (neI 0 0) _ _ = _
    rw [show neI 0 0 = false from rfl, ifO_false, clamp_is]; rfl
theorem dateV_bd (l : List Fld) (o : Int) : 0 ≤ dateV l o ∧ dateV l o ≤ 1099511627776 := by
  unfold dateV c0; split <;> omega
/-- How old fields are. -/
def curV (l : List Fld) (asked got now : Int) : Int :=
  tp (cl (max (tp (cl (c0 got - dateV l (c0 got)))) (tp (cl (toldV l) + cl (max (c0 got - c0 asked) 0)))) + cl (max (c0 now - c0 got) 0))
theorem cur_is (l : List Fld) (h : sumF l ≤ 100000) (a g n : Int) (k : Nat) (hk : 100010 ≤ k) : age_Current.f k (l, (a, (g, n))) = some (curV l a g n) := by
  have hd := dateV_bd l (c0 g)
  have ht := toldV_bd l
  have b1 : ∀ x, 0 ≤ c0 x ∧ c0 x ≤ 1099511627776 := fun x => by unfold c0; omega
  have b2 := b1 a
  have b3 := b1 g
  have b4 := b1 n
  unfold age_Current.f
  simp only [clamp_is, bindO_some]
  rw [show min (max a 0) 1099511627776 = c0 a from rfl, show min (max g 0) 1099511627776 = c0 g from rfl, show min (max n 0) 1099511627776 = c0 n from rfl]
  rw [date_is l h, bindO_some, sub64 (by omega) (by omega), sum_is _ (by simp) k (by simp; omega), bindO_some, told_is l h k hk, bindO_some, maxI_eq, sub64 (by omega) (by omega), sum_is _ (by simp) k (by simp; omega), bindO_some, maxI_eq, maxI_eq, sub64 (by omega) (by omega), sum_is _ (by simp) k (by simp; omega), bindO_some]
  simp only [sumC, Int.add_zero]
  rfl
end Go.Proofs.Ytpddbfodjeoofaa.R
