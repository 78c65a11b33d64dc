/- What a response varies by: the program's and the document's are one. -/
import Derived.Test.YtmmbedlegmbppaaDoorPRise
import Derived.Test.YtmmbedlegmbppaaDoorPSum
import Derived.Test.YtmmbedlegmbppaaDoorPFld
namespace Go.Proofs.YtmmbedlegmbppaaDoor.R
open Go Go.RowKit Go.Sort
set_option linter.unusedSimpArgs false
set_option linter.unusedVariables false
def joinS (sep : Bs) (ys : List ByteArray) : Bs := Lib.join (ys.map (·.data.toList)) sep
theorem joinS_len (sep : Bs) (ys : List ByteArray) : (joinS sep ys).length ≤ sumS ys + sep.length * ys.length := join_len sep ys
theorem joinS_snoc (sep : Bs) (xs : List ByteArray) (y : ByteArray) : joinS sep (xs ++ [y]) = if xs = [] then y.data.toList else joinS sep xs ++ sep ++ y.data.toList := by
  unfold joinS
  rw [List.map_append]
  show Lib.join (_ ++ [y.data.toList]) _ = _
  rw [join_snoc]
  simp only [List.map_eq_nil_iff]
theorem sumS_sum1 : ∀ l : List ByteArray, sumS l + l.length = sum1 l
  | [] => rfl
  | x :: r => by have := sumS_sum1 r; simp only [sumS, sum1, List.length_cons]; omega
/-- The parts of a name's value. -/
def partsV (nm : ByteArray) (q : List Fld) : List ByteArray := C (getV nm q) 0 0 []
theorem partsV_sum (nm : ByteArray) (q : List Fld) : sum1 (partsV nm q) ≤ sumF q + 1 := Nat.le_trans (C_all _) (Nat.add_le_add_right (getV_len nm q) 1)
def valV (nm : ByteArray) (q : List Fld) : Bs := joinS [44] (partsV nm q)
def isV (nm : ByteArray) (q : List Fld) : Bool := decide (0 < (XG.vals nm q).length)
theorem valV_len (nm : ByteArray) (q : List Fld) : (valV nm q).length ≤ sumF q + 1 := by
  have h1 := joinS_len [44] (partsV nm q)
  have h2 := sumS_sum1 (partsV nm q)
  have h3 := partsV_sum nm q
  unfold valV
  simp only [List.length_cons, List.length_nil] at h1
  omega
theorem value_is (q : List Fld) (nm : ByteArray) (h : sumF q ≤ 100000) (k : Nat) (hk : 100010 ≤ k) : vary_Value.f k (q, nm) = some (B (valV nm q), isV nm q) := by
  have h1 := getV_len nm q
  have h2 := partsV_sum nm q
  have h3 := sum1_len (partsV nm q)
  have h4 := valV_len nm q
  unfold vary_Value.f
  rw [get_is nm q h k, bindO_some, split_is _ (by omega) k hk, bindO_some]
  unfold x_Join.f
  rw [if_pos ⟨by show (partsV nm q).length ≤ _; omega, by show (valV nm q).length ≤ _; omega⟩, bindO_some]
  rfl
theorem r15value_loop (ys : List ByteArray) (z : Bool) (h1 : sum1 ys ≤ 1000000) (k : Nat) (hk : ys.length + 1 < k) : ref15_Value.l2 k (z, (ys, ((⟨#[]⟩ : ByteArray), 0))) = some (B (joinS [44] ys), z) := by
  have h0 := sumS_sum1 ys
  unfold ref15_Value.l2
  refine iter_eq (f := ref15_Value.l2b k) (fun v => v.1 = z ∧ v.2.1 = ys ∧ ∃ i : Nat, v.2.2.2 = (i : Int) ∧ i ≤ ys.length ∧ v.2.2.1 = B (joinS [44] (ys.take i))) (fun v => (ys.length + 1 - v.2.2.2).toNat) (fun _ => some (B (joinS [44] ys), z)) ?_ k _ ⟨rfl, rfl, 0, rfl, Nat.zero_le _, rfl⟩ (by show ((ys.length : Int) + 1 - 0).toNat < k; omega)
  rintro r ⟨z', s, t, i'⟩ ⟨e0, e1, i, e3, hi, e4⟩ hr
  simp only at e0 e1 e3 e4
  subst e0; subst e1; subst e3; subst e4
  unfold ref15_Value.l2b ref15_Value.j3
  simp only [lenL_nat, inB_nat, ltI_nat, ifO_dec]
  by_cases h : i < s.length
  · have htk : s.take (i + 1) = s.take i ++ [s[i]] := by rw [List.take_add_one, List.getElem?_eq_getElem h]; rfl
    have b0 := joinS_len [44] (s.take i)
    have b1 := sumS_take s i
    have b2 : sumS (s.take i ++ [s[i]]) ≤ sumS s := by rw [← htk]; exact sumS_take s (i + 1)
    have b3 : ∀ (a : List ByteArray) (x : ByteArray), sumS (a ++ [x]) = sumS a + x.size := by
      intro a x
      induction a with
      | nil => simp [sumS]
      | cons y a ih => simp only [List.cons_append, sumS, ih]; omega
    rw [b3] at b2
    simp only [List.length_cons, List.length_nil] at b0
    rw [List.length_take, Nat.min_eq_left (by omega)] at b0
    have hx : s[i] = B s[i].data.toList := B_of _
    have hxs : s[i].data.toList.length = s[i].size := by rw [Array.length_toList]; rfl
    have hlt : ((s.length : Int) + 1 - ((i + 1 : Nat) : Int)).toNat < ((s.length : Int) + 1 - (i : Int)).toNat := by omega
    have hj : joinS [44] (s.take (i + 1)) = if i = 0 then s[i].data.toList else joinS [44] (s.take i) ++ [44] ++ s[i].data.toList := by
      rw [htk, joinS_snoc]
      by_cases h0 : i = 0
      · subst h0; rfl
      · rw [if_neg h0, if_neg]
        intro hn
        have := congrArg List.length hn
        rw [List.length_take, Nat.min_eq_left (by omega)] at this
        exact h0 this
    rw [if_pos h, elT_get (t := .str) (xs := s) h, show ltI 0 (i : Int) = decide (0 < i) from ltI_nat 0 i, ifO_dec]
    have q : (⟨#[44]⟩ : ByteArray) = B [44] := rfl
    by_cases h0 : 0 < i
    · rw [if_pos h0, q, ifO_yes (by rw [B_fits]; exact decide_eq_true (by simp only [List.length_cons, List.length_nil]; omega)), if_pos h, hx, B_cat, ifO_yes (by rw [B_fits]; exact decide_eq_true (by simp only [List.length_append, List.length_cons, List.length_nil, hxs]; omega)), B_cat, next64 (by omega)]
      exact hr _ ⟨rfl, rfl, i + 1, rfl, h, by show B _ = B _; rw [hj, if_neg (by omega)]⟩ hlt
    · rw [if_neg h0, if_pos h, hx, ifO_yes (by rw [B_fits]; exact decide_eq_true (by rw [hxs]; omega)), B_cat, next64 (by omega)]
      obtain rfl : i = 0 := by omega
      exact hr _ ⟨rfl, rfl, 0 + 1, rfl, h, by show B _ = B _; rw [hj, if_pos rfl]; rfl⟩ hlt
  · rw [if_neg h, List.take_of_length_le (by omega)]
theorem r15value (q : List Fld) (nm : ByteArray) (h : sumF q ≤ 100000) (k : Nat) (hk : 100010 ≤ k) : ref15_Value.f k (q, nm) = some (B (valV nm q), isV nm q) := by
  have h1 := getV_len nm q
  have h2 := partsV_sum nm q
  have h3 := sum1_len (partsV nm q)
  unfold ref15_Value.f
  rw [r6get nm q h k hk, bindO_some, r1split _ (by omega) k hk, bindO_some]
  exact r15value_loop (partsV nm q) _ (by omega) k (by omega)
/-! ### numbers -/
theorem dec_small {n : Nat} (h : n < 10) : Lib.decDigits n = [UInt8.ofNat (48 + n)] := by rw [Lib.decDigits, dif_pos h]
theorem dec_big {n : Nat} (h : ¬ n < 10) : Lib.decDigits n = Lib.decDigits (n / 10) ++ [UInt8.ofNat (48 + n % 10)] := by rw [Lib.decDigits, dif_neg h]
theorem dec_len : ∀ (d n : Nat), n < 10 ^ (d + 1) → (Lib.decDigits n).length ≤ d + 1
  | 0, n, h => by rw [dec_small (by simpa using h)]; exact Nat.le_refl _
  | d + 1, n, h => by
    by_cases h1 : n < 10
    · rw [dec_small h1]; simp
    · rw [dec_big h1, List.length_append]
      have := dec_len d (n / 10) (by rw [Nat.pow_succ] at h; omega)
      simp only [List.length_cons, List.length_nil]; omega
theorem digit_cut : ∀ n : Fin 10, cutS (⟨#[48, 49, 50, 51, 52, 53, 54, 55, 56, 57]⟩ : ByteArray) (n.val : Int) ((n.val + 1 : Nat) : Int) = B [UInt8.ofNat (48 + n.val)] := by decide +kernel
theorem r15num_low (self : Nat → Int → Option ByteArray) (k n : Nat) (h : n < 10) : ref15_number.g self k (n : Int) = some (B [UInt8.ofNat (48 + n)]) := by
  unfold ref15_number.g
  have e : addI .i64 (n : Int) 1 = ((n + 1 : Nat) : Int) := next64 (by omega)
  rw [show ltI (n : Int) 10 = true from by rw [ltD]; exact decide_eq_true (by omega), ifO_true, e, show lenS (⟨#[48, 49, 50, 51, 52, 53, 54, 55, 56, 57]⟩ : ByteArray) = ((10 : Nat) : Int) from rfl, boundB_yes (i := n + 1) (by omega), boundB_yes (i := n) (n := n + 1) (by omega), show andB true true = true from rfl, ifO_true]
  exact congrArg some (digit_cut ⟨n, h⟩)
theorem r15num_r : ∀ (d n k : Nat), n < 10 ^ (d + 1) → n ≤ 1000000000000 → ref15_number.r (d + 2) k (n : Int) = some (B (Lib.decDigits n)) := by
  intro d
  induction d with
  | zero =>
    intro n k h _
    rw [dec_small (by simpa using h)]
    exact r15num_low _ k n (by simpa using h)
  | succ d ih =>
    intro n k h hb
    by_cases h1 : n < 10
    · rw [dec_small h1]; exact r15num_low _ k n h1
    · show ref15_number.g (ref15_number.r (d + 2)) k (n : Int) = _
      unfold ref15_number.g
      have q1 : quoI .i64 (n : Int) 10 = ((n / 10 : Nat) : Int) := by
        unfold quoI
        rw [Int.tdiv_eq_ediv_of_nonneg (by omega)]
        rw [w64 (by omega) (by omega)]; omega
      have q2 : remI (n : Int) 10 = ((n % 10 : Nat) : Int) := by
        unfold remI
        rw [Int.tmod_eq_emod_of_nonneg (by omega)]; omega
      have e2 : ref15_number.r (d + 2) k ((n % 10 : Nat) : Int) = some (B [UInt8.ofNat (48 + n % 10)]) := r15num_low _ k (n % 10) (by omega)
      have hl := dec_len d (n / 10) (by rw [Nat.pow_succ] at h; omega)
      have hl2 : (Lib.decDigits (n / 10)).length ≤ 13 := dec_len 12 (n / 10) (by omega)
      rw [show ltI (n : Int) 10 = false from by rw [ltD]; exact decide_eq_false (by omega), ifO_false, show neI 10 0 = true from rfl, ifO_true, q1, ih (n / 10) k (by rw [Nat.pow_succ] at h; omega) (by omega), bindO_some, ifO_true, q2, e2, bindO_some, ifO_yes (by rw [B_fits]; exact decide_eq_true (by simp only [List.length_cons, List.length_nil]; omega)), B_cat, dec_big h1]
theorem r15num (n k : Nat) (h : n ≤ 100000000000) (hk : 13 ≤ k) : ref15_number.f k (n : Int) = some (B (Lib.decDigits n)) := by
  unfold ref15_number.f
  obtain ⟨d, rfl⟩ : ∃ d, k = d + 11 + 2 := ⟨k - 13, by omega⟩
  exact r15num_r (d + 11) n _ (Nat.lt_of_lt_of_le (show n < 10 ^ 12 by omega) (Nat.pow_le_pow_right (by decide) (by omega))) (by omega)
theorem itoa_is (n k : Nat) (h : n ≤ 100000000000) : x_Itoa.f k (n : Int) = some (B (Lib.decDigits n)) := by
  unfold x_Itoa.f
  rw [if_pos (show (-9223372036854775808 : Int) ≤ (n : Int) ∧ (n : Int) ≤ 9223372036854775807 from ⟨by omega, by omega⟩)]
  exact congrArg some (congrArg B (Lib.itoa_nonneg n))
/-! ### variants -/
def toldV (nm : ByteArray) (q : List Fld) : Bs := if isV nm q = true then Lib.decDigits (valV nm q).length ++ 58 :: valV nm q else [45]
def entV (q : List Fld) (nm : ByteArray) : Bs := nm.data.toList ++ 58 :: (toldV nm q ++ [59])
def variantV (names : List ByteArray) (q : List Fld) : Bs := names.flatMap (entV q)
theorem toldV_len (nm : ByteArray) (q : List Fld) (h : sumF q ≤ 100000) : (toldV nm q).length ≤ 100040 := by
  have h1 := valV_len nm q
  have h2 := dec_len 12 (valV nm q).length (by omega)
  unfold toldV
  split
  · simp only [List.length_append, List.length_cons]; omega
  · simp
theorem entV_len (nm : ByteArray) (q : List Fld) (h : sumF q ≤ 100000) : (entV q nm).length ≤ nm.size + 100050 := by
  have h1 := toldV_len nm q h
  have h2 := len_data nm
  unfold entV
  simp only [List.length_append, List.length_cons, List.length_nil]; omega
theorem variantV_snoc (names : List ByteArray) (nm : ByteArray) (q : List Fld) : variantV (names ++ [nm]) q = variantV names q ++ entV q nm := by unfold variantV; rw [List.flatMap_append]; simp
theorem variantV_len (q : List Fld) (h : sumF q ≤ 100000) : ∀ names : List ByteArray, (variantV names q).length ≤ 100050 * sum1 names
  | [] => Nat.zero_le _
  | nm :: r => by
    have h1 := variantV_len q h r
    have h2 := entV_len nm q h
    have e : variantV (nm :: r) q = entV q nm ++ variantV r q := rfl
    rw [e, List.length_append]
    simp only [sum1]
    omega
theorem sum1_take (xs : List ByteArray) (i : Nat) : sum1 (xs.take i) ≤ sum1 xs := by
  induction xs generalizing i with
  | nil => simp
  | cons x r ih =>
    cases i with
    | zero => simp [sum1]
    | succ i => simp only [List.take_succ_cons, sum1]; have := ih i; omega
theorem cat_l (x : ByteArray) (l : Bs) : catS x (B l) = B (x.data.toList ++ l) := by rw [B_of x, B_cat, B_data]
theorem fits_l (x : ByteArray) (l : Bs) : fitsS x (B l) = decide (x.size + l.length ≤ 9223372036854775807) := by unfold fitsS; rw [B_size]
theorem variant_is (names : List ByteArray) (q : List Fld) (hn : sum1 names ≤ 10000) (h : sumF q ≤ 100000) (k : Nat) (hk : 100010 ≤ k) : vary_Variant.f k (names, q) = some (B (variantV names q)) := by
  have hlen := sum1_len names
  unfold vary_Variant.f vary_Variant.l0
  refine iter_eq (f := vary_Variant.l0b k) (fun v => v.1 = q ∧ v.2.1 = names ∧ v.2.2.1 = (names.length : Int) ∧ ∃ i : Nat, v.2.2.2.1 = (i : Int) ∧ i ≤ names.length ∧ v.2.2.2.2 = (variantV (names.take i) q).map fun c => (c.toNat : Int)) (fun v => (names.length + 1 - v.2.2.2.1).toNat) (fun _ => some (B (variantV names q))) ?_ k _ ⟨rfl, rfl, rfl, 0, rfl, Nat.zero_le _, rfl⟩ (by show ((names.length : Int) + 1 - 0).toNat < k; omega)
  rintro r ⟨q', s, n', i', xs⟩ ⟨e0, e1, e2, i, e3, hi, e4⟩ hr
  simp only at e0 e1 e2 e3 e4
  subst e0; subst e1; subst e2; subst e3; subst e4
  unfold vary_Variant.l0b
  simp only [lenL_nat, inB_nat, ltI_nat, ifO_dec]
  by_cases hlt : i < s.length
  · have htk : s.take (i + 1) = s.take i ++ [s[i]] := by rw [List.take_add_one, List.getElem?_eq_getElem hlt]; rfl
    have hm : ((s.length : Int) + 1 - ((i + 1 : Nat) : Int)).toNat < ((s.length : Int) + 1 - (i : Int)).toNat := by omega
    have l0 := variantV_len q' h (s.take i)
    have l1 := sum1_take s i
    have l2 : s[i].size + 1 ≤ sum1 s := sum1_mem (List.getElem_mem hlt)
    have l3 := toldV_len s[i] q' h
    have l4 := valV_len s[i] q'
    have l5 := dec_len 12 (valV s[i] q').length (by omega)
    have hx := len_data s[i]
    -- what a round ends with
    have fin : vary_Variant.j3 k r (q', (s[i], (B (toldV s[i] q'), (s, ((s.length : Int), ((i : Int), (variantV (s.take i) q').map fun c => (c.toNat : Int))))))) = some (B (variantV s q')) := by
      unfold vary_Variant.j3
      simp only
      rw [show (⟨#[58]⟩ : ByteArray) = B [58] from rfl, show (⟨#[59]⟩ : ByteArray) = B [59] from rfl]
      rw [ifO_yes (by rw [fits_l]; exact decide_eq_true (by simp only [List.length_cons, List.length_nil]; omega)), cat_l, ifO_yes (by rw [B_fits]; exact decide_eq_true (by simp only [List.length_append, List.length_cons, List.length_nil]; omega)), B_cat, ifO_yes (by rw [B_fits]; exact decide_eq_true (by simp only [List.length_append, List.length_cons, List.length_nil]; omega)), B_cat]
      rw [B_len, lenL_nat, List.length_map, ifO_yes (fitsL_yes (by simp only [List.length_append, List.length_cons, List.length_nil]; omega) (by simp only [List.length_append, List.length_cons, List.length_nil]; omega)), next64 (by omega)]
      refine hr _ ⟨rfl, rfl, rfl, i + 1, rfl, hlt, ?_⟩ hm
      show catL _ (bytesI _) = _
      rw [htk, variantV_snoc, List.map_append, B_bytes]
      unfold catL entV
      simp
    rw [if_pos hlt, if_pos hlt, elT_get (t := .str) (xs := s) hlt, value_is q' s[i] h k hk, bindO_some]
    simp only
    cases hz : isV s[i] q' with
    | true =>
      rw [ifO_true, B_len, itoa_is _ k (by omega), bindO_some, show (⟨#[58]⟩ : ByteArray) = B [58] from rfl, ifO_yes (by rw [B_fits]; exact decide_eq_true (by simp only [List.length_cons, List.length_nil]; omega)), B_cat, ifO_yes (by rw [B_fits]; exact decide_eq_true (by simp only [List.length_append, List.length_cons, List.length_nil]; omega)), B_cat]
      have e : toldV s[i] q' = Lib.decDigits (valV s[i] q').length ++ [58] ++ valV s[i] q' := by unfold toldV; rw [if_pos hz]; simp
      rw [← e]; exact fin
    | false =>
      rw [ifO_false]
      have e : toldV s[i] q' = [45] := by unfold toldV; rw [if_neg (by rw [hz]; decide)]
      rw [show (⟨#[45]⟩ : ByteArray) = B [45] from rfl, ← e]; exact fin
  · rw [if_neg hlt, List.take_of_length_le (by omega), B_ofBytes]
theorem r15variant (names : List ByteArray) (q : List Fld) (hn : sum1 names ≤ 10000) (h : sumF q ≤ 100000) (k : Nat) (hk : 100010 ≤ k) : ref15_Variant.f k (names, q) = some (B (variantV names q)) := by
  have hlen := sum1_len names
  unfold ref15_Variant.f ref15_Variant.l0
  refine iter_eq (f := ref15_Variant.l0b k) (fun v => v.1 = names ∧ v.2.1 = q ∧ ∃ i : Nat, v.2.2.2 = (i : Int) ∧ i ≤ names.length ∧ v.2.2.1 = B (variantV (names.take i) q)) (fun v => (names.length + 1 - v.2.2.2).toNat) (fun _ => some (B (variantV names q))) ?_ k _ ⟨rfl, rfl, 0, rfl, Nat.zero_le _, rfl⟩ (by show ((names.length : Int) + 1 - 0).toNat < k; omega)
  rintro r ⟨s, q', xs, i'⟩ ⟨e0, e1, i, e3, hi, e4⟩ hr
  simp only at e0 e1 e3 e4
  subst e0; subst e1; subst e3; subst e4
  unfold ref15_Variant.l0b
  simp only [lenL_nat, inB_nat, ltI_nat, ifO_dec]
  by_cases hlt : i < s.length
  · have htk : s.take (i + 1) = s.take i ++ [s[i]] := by rw [List.take_add_one, List.getElem?_eq_getElem hlt]; rfl
    have hm : ((s.length : Int) + 1 - ((i + 1 : Nat) : Int)).toNat < ((s.length : Int) + 1 - (i : Int)).toNat := by omega
    have l0 := variantV_len q' h (s.take i)
    have l1 := sum1_take s i
    have l2 : s[i].size + 1 ≤ sum1 s := sum1_mem (List.getElem_mem hlt)
    have l3 := toldV_len s[i] q' h
    have l4 := valV_len s[i] q'
    have l5 := dec_len 12 (valV s[i] q').length (by omega)
    have hx := len_data s[i]
    have fin : ref15_Variant.j3 k r (s, (q', (B (variantV (s.take i) q' ++ s[i].data.toList ++ [58] ++ toldV s[i] q'), (i : Int)))) = some (B (variantV s q')) := by
      unfold ref15_Variant.j3
      simp only
      rw [show (⟨#[59]⟩ : ByteArray) = B [59] from rfl, ifO_yes (by rw [B_fits]; exact decide_eq_true (by simp only [List.length_append, List.length_cons, List.length_nil]; omega)), B_cat, next64 (by omega)]
      refine hr _ ⟨rfl, rfl, i + 1, rfl, hlt, ?_⟩ hm
      show B _ = B _
      rw [htk, variantV_snoc]
      unfold entV
      simp
    rw [if_pos hlt, if_pos hlt, elT_get (t := .str) (xs := s) hlt, r15value q' s[i] h k hk, bindO_some]
    simp only
    have hx2 : s[i] = B s[i].data.toList := B_of _
    generalize hd : s[i].data.toList = d at hx hx2 fin
    rw [hx2] at l2 l3 l4 l5 fin ⊢
    rw [B_size] at l2
    rw [if_pos hlt, ifO_yes (by rw [B_fits]; exact decide_eq_true (by omega)), B_cat, show (⟨#[58]⟩ : ByteArray) = B [58] from rfl, ifO_yes (by rw [B_fits]; exact decide_eq_true (by simp only [List.length_append, List.length_cons, List.length_nil]; omega)), B_cat]
    cases hz : isV (B d) q' with
    | true =>
      have e : toldV (B d) q' = Lib.decDigits (valV (B d) q').length ++ [58] ++ valV (B d) q' := by unfold toldV; rw [if_pos hz]; simp
      rw [e] at fin
      rw [ifO_true, B_len, r15num _ k (by omega) (by omega), bindO_some, ifO_yes (by rw [B_fits]; exact decide_eq_true (by simp only [List.length_append, List.length_cons, List.length_nil]; omega)), B_cat, ifO_yes (by rw [B_fits]; exact decide_eq_true (by simp only [List.length_append, List.length_cons, List.length_nil]; omega)), B_cat, ifO_yes (by rw [B_fits]; exact decide_eq_true (by simp only [List.length_append, List.length_cons, List.length_nil]; omega)), B_cat]
      refine Eq.trans ?_ fin
      simp only [List.append_assoc]
    | false =>
      have e : toldV (B d) q' = [45] := by unfold toldV; rw [if_neg (by rw [hz]; decide)]
      rw [e] at fin
      rw [ifO_false, show (⟨#[45]⟩ : ByteArray) = B [45] from rfl, ifO_yes (by rw [B_fits]; exact decide_eq_true (by simp only [List.length_append, List.length_cons, List.length_nil]; omega)), B_cat]
      exact fin
  · rw [if_neg hlt, List.take_of_length_le (by omega)]
/-! ### names -/
def badP (s : ByteArray) : Bool := decide (s.data.toList = [42]) || !tokB s.data.toList
def lowA (s : ByteArray) : ByteArray := B (lowL s.data.toList)
def namesR (ps : List ByteArray) : List ByteArray × Bool := if ps.any badP = true then ([], true) else (riseL (ps.map lowA), false)
theorem any_drop {ps : List ByteArray} {i : Nat} (h : (ps.take i).any badP = false) : ps.any badP = (ps.drop i).any badP := by
  conv => lhs; rw [← List.take_append_drop i ps]
  rw [List.any_append, h, Bool.false_or]
theorem lowL_len (l : Bs) : (lowL l).length = l.length := by unfold lowL; simp
theorem sum1_onceL (B0 : Nat) (ps : List ByteArray) (h : ∀ p ∈ ps, p.size ≤ B0) : ∀ p ∈ onceL ps, p.size ≤ B0 := fun p hp => h p (((onceL_is ps).2 p).1 hp)
theorem names_loop (ps : List ByteArray) (h1 : sum1 ps ≤ 100000) (k : Nat) (hk : 100010 ≤ k) : vary_Names.l2 (fun x => x) k (ps, ((ps.length : Int), ((0 : Int), ([] : List (ByteArray × Bool))))) = some (namesR ps) := by
  have hlen := sum1_len ps
  unfold vary_Names.l2
  refine iter_eq (f := vary_Names.l2b (fun x => x) k) (fun v => v.1 = ps ∧ v.2.1 = (ps.length : Int) ∧ ∃ i : Nat, v.2.2.1 = (i : Int) ∧ i ≤ ps.length ∧ (ps.take i).any badP = false ∧ v.2.2.2.map (·.1) = onceL ((ps.take i).map lowA)) (fun v => (ps.length + 1 - v.2.2.1).toNat) (fun _ => some (namesR ps)) ?_ k _ ⟨rfl, rfl, 0, rfl, Nat.zero_le _, rfl, rfl⟩ (by show ((ps.length : Int) + 1 - 0).toNat < k; omega)
  rintro r ⟨s, n', i', en⟩ ⟨e1, e2, i, e3, hi, hg, hks⟩ hr
  simp only at e1 e2 e3 hks
  subst e1; subst e2; subst e3
  unfold vary_Names.l2b
  simp only [lenL_nat, inB_nat, ltI_nat, ifO_dec]
  by_cases hlt : i < s.length
  · have htk : s.take (i + 1) = s.take i ++ [s[i]] := by rw [List.take_add_one, List.getElem?_eq_getElem hlt]; rfl
    have hm : ((s.length : Int) + 1 - ((i + 1 : Nat) : Int)).toNat < ((s.length : Int) + 1 - (i : Int)).toNat := by omega
    have l2 : s[i].size + 1 ≤ sum1 s := sum1_mem (List.getElem_mem hlt)
    have hx := len_data s[i]
    have bad : badP s[i] = true → namesR s = ([], true) := by
      intro hb
      unfold namesR
      rw [if_pos]
      rw [List.any_eq_true]
      exact ⟨s[i], List.getElem_mem hlt, hb⟩
    have t1 : ascii_Token.f k s[i] = some (tokB s[i].data.toList) := (congrArg (ascii_Token.f k) (B_of s[i])).trans (token_is _ (by omega) k)
    have t2 : ascii_Lower.f k s[i] = some (lowA s[i]) := (congrArg (ascii_Lower.f k) (B_of s[i])).trans (lower_is _ (by omega) k)
    have t3 : eqS s[i] (⟨#[42]⟩ : ByteArray) = decide (s[i].data.toList = [42]) := (congrArg (fun z => eqS z (B [42])) (B_of s[i])).trans (B_eq _ _)
    rw [if_pos hlt, if_pos hlt, elT_get (t := .str) (xs := s) hlt, t3, ifO_dec]
    by_cases hs : s[i].data.toList = [42]
    · rw [if_pos hs, bad (by unfold badP; rw [decide_eq_true hs]; rfl)]
    · rw [if_neg hs, t1, bindO_some]
      cases ht : tokB s[i].data.toList with
      | false => rw [show notB false = true from rfl, ifO_true, bad (by unfold badP; rw [ht]; simp)]
      | true =>
        rw [show notB true = false from rfl, ifO_false, t2, bindO_some, next64 (by omega)]
        refine hr _ ⟨rfl, rfl, i + 1, rfl, hlt, ?_, ?_⟩ hm
        · rw [htk, List.any_append, hg]
          unfold badP
          simp [hs, ht]
        · show (putM .str .bool en (lowA s[i]) true).map (·.1) = _
          rw [putM_keys, hks, htk, List.map_append]
          exact (onceL_snoc _ _).symm
  · rw [if_neg hlt]
    rw [List.take_of_length_le (by omega)] at hg hks
    show bindO (keysF k en) _ = _
    have hsz : ∀ p ∈ onceL (s.map lowA), p.size ≤ 1000000 := by
      refine sum1_onceL _ _ fun p hp => ?_
      obtain ⟨x, hx, rfl⟩ := List.mem_map.1 hp
      have := sum1_mem hx
      have hx2 := len_data x
      unfold lowA
      rw [B_size, lowL_len]; omega
    have hkk : keysIn en = (onceL (s.map lowA)).map tx := by
      rw [← hks]; unfold keysIn; rw [List.map_map]; rfl
    have hel : en.length ≤ 100000 := by
      have e1 := congrArg List.length hks
      rw [List.length_map] at e1
      have e2 := onceL_len (s.map lowA)
      rw [List.length_map] at e2
      omega
    have hnd : (keysIn en).Nodup := by
      rw [hkk, List.nodup_iff_pairwise_ne]
      have := (onceL_is (s.map lowA)).1
      rw [List.nodup_iff_pairwise_ne] at this
      exact List.pairwise_map.2 (this.imp fun {a b} hab e => hab (tx_inj e))
    have hF : keysF k en = some (riseL (s.map lowA)) := by
      unfold keysF
      rw [if_pos ⟨hnd, hel, fun p hp => by
        rw [hkk] at hp
        obtain ⟨x, hx, rfl⟩ := List.mem_map.1 hp
        have := hsz x hx
        have h2 := len_data x
        show x.data.toList.length ≤ _
        omega⟩, hkk, sort_once]
    rw [hF, bindO_some]
    unfold namesR
    rw [if_neg (by rw [hg]; decide)]
def varyN : ByteArray := ⟨#[118, 97, 114, 121]⟩
def namesV (p : List Fld) : List ByteArray × Bool := namesR (partsV varyN p)
theorem names_is (p : List Fld) (h : sumF p ≤ 90000) (k : Nat) (hk : 100010 ≤ k) : vary_Names.f k p = some (namesV p) := by
  have h1 := getV_len varyN p
  have h2 := partsV_sum varyN p
  unfold vary_Names.f vary_Names.g
  rw [show (⟨#[118, 97, 114, 121]⟩ : ByteArray) = varyN from rfl, get_is varyN p (by omega) k, bindO_some, split_is _ (by omega) k hk, bindO_some]
  exact names_loop (partsV varyN p) (by omega) k hk
theorem put_is (l : List ByteArray) (s : ByteArray) (hl : l.length ≤ 1000000) (k : Nat) (hk : l.length + 1 < k) : ref15_put.f k (l, s) = some (insA s l) := by
  unfold ref15_put.f ref15_put.l0
  refine iter_eq (f := ref15_put.l0b k) (fun v => v.1 = l ∧ v.2.1 = s ∧ ∃ i : Nat, v.2.2 = (i : Int) ∧ i ≤ l.length ∧ ∀ (j : Nat) (hj : j < l.length), j < i → ltS l[j] s = true) (fun v => (l.length + 1 - v.2.2).toNat) (fun _ => some (insA s l)) ?_ k _ ⟨rfl, rfl, 0, rfl, Nat.zero_le _, fun j _ h => absurd h (Nat.not_lt_zero j)⟩ (by show ((l.length : Int) + 1 - 0).toNat < k; omega)
  rintro r ⟨l', s', i'⟩ ⟨e1, e2, i, e3, hi, hb⟩ hr
  simp only at e1 e2 e3
  subst e1; subst e2; subst e3
  -- what is done where it goes
  have j2 : ref15_put.j2 k (l', (s', (i : Int))) = some (l'.take i ++ s' :: l'.drop i) := by
    unfold ref15_put.j2
    simp only
    have c1 : cutL l' 0 (i : Int) = l'.take i := by unfold cutL; rw [Int.toNat_natCast]; rfl
    have c2 : cutL l' (i : Int) (lenL l') = l'.drop i := by unfold cutL; rw [lenL_nat, Int.toNat_natCast, Int.toNat_natCast, List.take_length]
    have c3 : boundB 0 (i : Int) = true := boundB_yes (i := 0) (by omega)
    rw [lenL_nat l', boundB_yes (i := i) (by omega), c3, boundB_yes (i := l'.length) (Nat.le_refl _), show andB true true = true from rfl, ifO_true, ifO_true, ← lenL_nat l', c1, c2]
    simp only [catL, List.nil_append, lenL_nat]
    rw [ifO_yes (fitsL_yes (by simp only [List.length_nil, List.length_take]; omega) (by simp only [List.length_nil, List.length_take]; omega)), ifO_yes (fitsL_yes (by simp only [List.length_nil, List.length_cons, List.length_take]; omega) (by simp only [List.length_nil, List.length_cons, List.length_take]; omega)), ifO_yes (fitsL_yes (by simp only [List.length_append, List.length_nil, List.length_cons, List.length_take, List.length_drop]; omega) (by simp only [List.length_append, List.length_nil, List.length_cons, List.length_take, List.length_drop]; omega))]
    simp
  have j1 : (∀ h : i < l'.length, ltS l'[i] s' = false) → ref15_put.j1 k (l', (s', (i : Int))) = some (insA s' l') := by
    intro hn
    unfold ref15_put.j1
    simp only [lenL_nat, inB_nat, ltI_nat, ifO_dec]
    rw [insA_at]
    by_cases hlt : i < l'.length
    · have hbe := below_step s' l' i hlt hb (hn hlt)
      rw [if_pos hlt, if_pos hlt, elT_get (t := .str) (xs := l') hlt, dif_pos (by rw [hbe]; exact hlt)]
      simp only [hbe]
      cases he : eqS l'[i] s' with
      | true => rw [ifO_true, if_pos rfl]
      | false => rw [ifO_false, j2]; rfl
    · have hbe : below s' l' = l'.length := below_all s' l' (fun j hj => hb j hj (by omega))
      rw [if_neg hlt, j2, dif_neg (by rw [hbe]; omega), List.take_of_length_le (by omega), List.drop_eq_nil_of_le (by omega)]
  unfold ref15_put.l0b
  simp only [lenL_nat, inB_nat, ltI_nat, ifO_dec]
  by_cases hlt : i < l'.length
  · have hm : ((l'.length : Int) + 1 - ((i + 1 : Nat) : Int)).toNat < ((l'.length : Int) + 1 - (i : Int)).toNat := by omega
    rw [if_pos hlt, if_pos hlt, elT_get (t := .str) (xs := l') hlt]
    cases hc : ltS l'[i] s' with
    | true =>
      rw [ifO_true, next64 (by omega)]
      refine hr _ ⟨rfl, rfl, i + 1, rfl, hlt, fun j hj hji => ?_⟩ hm
      rcases Nat.lt_or_ge j i with h | h
      · exact hb j hj h
      · obtain rfl : j = i := by omega
        exact hc
    | false => rw [ifO_false]; exact j1 (fun _ => hc)
  · rw [if_neg hlt]
    exact j1 (fun h => absurd h hlt)
theorem r15names_loop (ps : List ByteArray) (h1 : sum1 ps ≤ 100000) (k : Nat) (hk : 100010 ≤ k) : ref15_Names.l2 k (ps, (([] : List ByteArray), (0 : Int))) = some (namesR ps) := by
  have hlen := sum1_len ps
  unfold ref15_Names.l2
  refine iter_eq (f := ref15_Names.l2b k) (fun v => v.1 = ps ∧ ∃ i : Nat, v.2.2 = (i : Int) ∧ i ≤ ps.length ∧ (ps.take i).any badP = false ∧ v.2.1 = riseL ((ps.take i).map lowA)) (fun v => (ps.length + 1 - v.2.2).toNat) (fun _ => some (namesR ps)) ?_ k _ ⟨rfl, 0, rfl, Nat.zero_le _, rfl, rfl⟩ (by show ((ps.length : Int) + 1 - 0).toNat < k; omega)
  rintro r ⟨s, o, i'⟩ ⟨e1, i, e3, hi, hg, hks⟩ hr
  simp only at e1 e3 hks
  subst e1; subst e3; subst hks
  unfold ref15_Names.l2b
  simp only [lenL_nat, inB_nat, ltI_nat, ifO_dec]
  by_cases hlt : i < s.length
  · have htk : s.take (i + 1) = s.take i ++ [s[i]] := by rw [List.take_add_one, List.getElem?_eq_getElem hlt]; rfl
    have hm : ((s.length : Int) + 1 - ((i + 1 : Nat) : Int)).toNat < ((s.length : Int) + 1 - (i : Int)).toNat := by omega
    have l2 : s[i].size + 1 ≤ sum1 s := sum1_mem (List.getElem_mem hlt)
    have hx := len_data s[i]
    have bad : badP s[i] = true → namesR s = ([], true) := by
      intro hb
      unfold namesR
      rw [if_pos]
      rw [List.any_eq_true]
      exact ⟨s[i], List.getElem_mem hlt, hb⟩
    have t1 : ref01_Token.f k s[i] = some (tokB s[i].data.toList) := (congrArg (ref01_Token.f k) (B_of s[i])).trans (r1token _ (by omega) k (by omega) (by omega))
    have t2 : ref01_Lower.f k s[i] = some (lowA s[i]) := (congrArg (ref01_Lower.f k) (B_of s[i])).trans (r1lower _ (by omega) k (by omega))
    have t3 : eqS s[i] (⟨#[42]⟩ : ByteArray) = decide (s[i].data.toList = [42]) := (congrArg (fun z => eqS z (B [42])) (B_of s[i])).trans (B_eq _ _)
    have hrl := riseL_len ((s.take i).map lowA)
    rw [List.length_map, List.length_take] at hrl
    rw [if_pos hlt, if_pos hlt, elT_get (t := .str) (xs := s) hlt, t3, ifO_dec]
    by_cases hs : s[i].data.toList = [42]
    · rw [if_pos hs, bad (by unfold badP; rw [decide_eq_true hs]; rfl)]
    · rw [if_neg hs, if_pos hlt, t1, bindO_some]
      cases ht : tokB s[i].data.toList with
      | false => rw [show notB false = true from rfl, ifO_true, bad (by unfold badP; rw [ht]; simp)]
      | true =>
        rw [show notB true = false from rfl, ifO_false, if_pos hlt, t2, bindO_some, put_is _ _ (by omega) k (by omega), bindO_some, next64 (by omega)]
        refine hr _ ⟨rfl, i + 1, rfl, hlt, ?_, ?_⟩ hm
        · rw [htk, List.any_append, hg]
          unfold badP
          simp [hs, ht]
        · show insA (lowA s[i]) _ = _
          rw [htk, List.map_append]
          exact (riseL_snoc _ _).symm
  · rw [if_neg hlt]
    rw [List.take_of_length_le (by omega)] at hg ⊢
    unfold namesR
    rw [if_neg (by rw [hg]; decide)]
theorem r15names (p : List Fld) (h : sumF p ≤ 90000) (k : Nat) (hk : 100010 ≤ k) : ref15_Names.f k p = some (namesV p) := by
  have h1 := getV_len varyN p
  have h2 := partsV_sum varyN p
  unfold ref15_Names.f
  rw [show (⟨#[118, 97, 114, 121]⟩ : ByteArray) = varyN from rfl, r6get varyN p (by omega) k hk, bindO_some, r1split _ (by omega) k hk, bindO_some]
  exact r15names_loop (partsV varyN p) (by omega) k hk
end Go.Proofs.YtmmbedlegmbppaaDoor.R
