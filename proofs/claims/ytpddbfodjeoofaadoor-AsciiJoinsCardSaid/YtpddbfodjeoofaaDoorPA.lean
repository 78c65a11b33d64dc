/- ascii.end and ascii.Split in plain words; how tokens that are joined are split. -/
import Derived.Test.YtpddbfodjeoofaaDoorF0
import Derived.Test.YtpddbfodjeoofaaDoorTrim
namespace Go.Proofs.YtpddbfodjeoofaaDoor.R
open Go Go.RowKit
open Go.Proofs.YtpddbfodjeoofaaDoor.Pure (blankB strip nbEnd)
set_option linter.unusedSimpArgs false
set_option linter.unusedVariables false
theorem B_take (l : Bs) (i : Nat) (h : i < l.length) : l.getD i 0 = l[i] := by rw [List.getD_eq_getElem?_getD, List.getElem?_eq_getElem h]; rfl
theorem end_is (l : Bs) (hl : l.length ≤ 100000) (i k : Nat) (hi : i < l.length) (hk : 100010 ≤ k) : ascii_end.f k (B l, (i : Int)) = some (X.endAt l (i + 1) : Int) := by
  unfold ascii_end.f ascii_end.l0
  rw [show addI .i64 (i : Int) 1 = ((i + 1 : Nat) : Int) from next64 (by omega)]
  have H := iter_eq (f := ascii_end.l0b k) (fun v => v.1 = B l ∧ ∃ n : Nat, v.2 = (n : Int) ∧ n ≤ l.length + 1) (fun v => (l.length + 2 - v.2).toNat) (fun v => some (X.endAt l v.2.toNat : Int)) ?_ k (B l, ((i + 1 : Nat) : Int)) ⟨rfl, i + 1, rfl, by omega⟩ (by show ((l.length : Int) + 2 - ((i + 1 : Nat) : Int)).toNat < k; omega)
  · rw [H]; rfl
  · rintro r ⟨s, x⟩ ⟨h1, n, h2, hn⟩ hr
    simp only at h1 h2
    subst h1; subst h2
    unfold ascii_end.l0b ascii_end.j1
    simp only [B_len, ltI_nat, inB_nat, ifO_dec, Int.toNat_natCast]
    by_cases h : n < l.length
    · rw [if_pos h, if_pos h, B_bt, B_take l n h]
      have ee : X.endAt l n = n + X.qe (l.drop n) := by unfold X.endAt; rw [if_pos h]
      simp only [eqI_dec, ifO_dec]
      by_cases h92 : (l[n]).toNat = 92
      · rw [if_pos (by omega), next64 (by omega), next64 (by omega), hr _ ⟨rfl, n + 1 + 1, rfl, by omega⟩ (by show ((l.length : Int) + 2 - ((n + 1 + 1 : Nat) : Int)).toNat < ((l.length : Int) + 2 - (n : Int)).toNat; omega)]
        simp only [Int.toNat_natCast]
        rw [ee, X.qe_esc h (by rw [B_take l n h]; exact h92)]
        unfold X.endAt
        by_cases h1 : n + 1 < l.length
        · rw [if_pos h1]
          by_cases h2 : n + 1 + 1 < l.length
          · rw [if_pos h2, show n + 1 + 1 = n + 2 from rfl]; congr 2; omega
          · rw [if_neg h2, X.qe_end (by omega)]; congr 2; omega
        · rw [if_neg h1, if_neg (by omega)]; congr 2; omega
      · rw [if_neg (by omega)]
        by_cases h34 : (l[n]).toNat = 34
        · rw [if_pos (by omega), ee, X.qe_quote h (by rw [B_take l n h]; exact h34)]; rfl
        · rw [if_neg (by omega), next64 (by omega), hr _ ⟨rfl, n + 1, rfl, by omega⟩ (by show ((l.length : Int) + 2 - ((n + 1 : Nat) : Int)).toNat < ((l.length : Int) + 2 - (n : Int)).toNat; omega)]
          simp only [Int.toNat_natCast]
          rw [ee, X.qe_more h (by rw [B_take l n h]; exact h92) (by rw [B_take l n h]; exact h34)]
          unfold X.endAt
          by_cases h1 : n + 1 < l.length
          · rw [if_pos h1]; congr 2; omega
          · rw [if_neg h1, X.qe_end (by omega)]; congr 2; omega
    · rw [if_neg h]
      unfold X.endAt
      rw [if_neg h]
theorem cuts_end (s : ByteArray) (m fr i : Nat) (acc : List ByteArray) (h : s.size ≤ i) : X.cuts s m fr i acc = X.takeP acc (s.extract fr s.size) := by
  cases m with
  | zero => rfl
  | succ m => unfold X.cuts; rw [if_neg (by omega)]
theorem cuts_fuel (s : ByteArray) : ∀ (k j fr i : Nat) (acc : List ByteArray), s.size ≤ i + k → s.size ≤ i + j → X.cuts s k fr i acc = X.cuts s j fr i acc := by
  intro k
  induction k with
  | zero => intro j fr i acc h h'; rw [cuts_end s 0 fr i acc (by omega), cuts_end s j fr i acc (by omega)]
  | succ k ih =>
    intro j fr i acc h h'
    cases j with
    | zero => rw [cuts_end s 0 fr i acc (by omega), cuts_end s _ fr i acc (by omega)]
    | succ j =>
      unfold X.cuts
      by_cases hi : i < s.size
      · rw [if_pos hi, if_pos hi]
        have hb := X.endAt_bd s.data.toList (i + 1) (by rw [Array.length_toList]; exact hi)
        rw [ih j fr (X.endAt s.data.toList (i + 1) + 1) acc (by omega) (by omega), ih j (i + 1) (i + 1) _ (by omega) (by omega), ih j fr (i + 1) acc (by omega) (by omega)]
      · rw [if_neg hi, if_neg hi]
/-- The parts of a text from a place on. -/
def C (l : Bs) (fr i : Nat) (acc : List ByteArray) : List ByteArray := X.cuts (B l) (l.length + 1) fr i acc
theorem C_end (l : Bs) (fr i : Nat) (acc : List ByteArray) (h : l.length ≤ i) : C l fr i acc = X.takeP acc ((B l).extract fr l.length) := by unfold C; rw [cuts_end _ _ _ _ _ (by rw [B_size]; exact h), B_size]
theorem C_step (l : Bs) (fr i : Nat) (acc : List ByteArray) (h : i < l.length) : C l fr i acc = if (l[i]).toNat = 34 then C l fr (X.endAt l (i + 1) + 1) acc else if (l[i]).toNat = 44 then C l (i + 1) (i + 1) (X.takeP acc ((B l).extract fr i)) else C l fr (i + 1) acc := by
  have hb := X.endAt_bd l (i + 1) h
  have hs := B_size l
  unfold C
  conv => lhs; unfold X.cuts
  rw [if_pos (by omega), B_data, B_take l i h, cuts_fuel _ l.length (l.length + 1) _ _ _ (by omega) (by omega), cuts_fuel _ l.length (l.length + 1) (i + 1) _ _ (by omega) (by omega), cuts_fuel _ l.length (l.length + 1) fr (i + 1) _ (by omega) (by omega)]
theorem takeP_B (acc : List ByteArray) (q : Bs) : X.takeP acc (B q) = if strip q = [] then acc else acc ++ [B (strip q)] := by
  unfold X.takeP
  rw [show Lib.trimF X.isBlank (B q) = B (strip q) from Pure.trim_eq q, B_toList]
theorem strip_le (l : Bs) : (strip l).length ≤ l.length := by
  unfold strip
  rw [List.length_take]
  have := congrArg List.length (List.takeWhile_append_dropWhile (p := blankB) (l := l))
  rw [List.length_append] at this; omega
theorem trim_is (q : Bs) (k : Nat) (h : q.length ≤ 9223372036854775807) : ascii_Trim.f k (B q) = some (B (strip q)) := by
  unfold ascii_Trim.f X.ascii_Trim.f
  rw [B_size, if_pos h, show Lib.trimF X.isBlank (B q) = B (strip q) from Pure.trim_eq q]
theorem split_is (l : Bs) (hl : l.length ≤ 100000) (k : Nat) (hk : 100010 ≤ k) : ascii_Split.f k (B l) = some (C l 0 0 []) := by
  unfold ascii_Split.f ascii_Split.l0
  have H := iter_eq (f := ascii_Split.l0b k) (fun v => v.1 = B l ∧ ∃ fr i : Nat, v.2.1 = (fr : Int) ∧ v.2.2.1 = (i : Int) ∧ fr ≤ i ∧ fr ≤ l.length ∧ i ≤ l.length + 1 ∧ v.2.2.2.length ≤ fr) (fun v => (l.length + 2 - v.2.2.1).toNat) (fun v => some (C l v.2.1.toNat v.2.2.1.toNat v.2.2.2)) ?_ k (B l, ((0 : Int), ((0 : Int), ([] : List ByteArray)))) ⟨rfl, 0, 0, rfl, rfl, Nat.le_refl _, Nat.zero_le _, Nat.zero_le _, Nat.le_refl _⟩ (by show ((l.length : Int) + 2 - 0).toNat < k; omega)
  · rw [H]; rfl
  · rintro r ⟨s, x, y, acc⟩ ⟨h1, fr, i, h2, h3, hfi, hfl, hil, ha⟩ hr
    simp only at h1 h2 h3 ha
    subst h1; subst h2; subst h3
    unfold ascii_Split.l0b ascii_Split.j4 ascii_Split.j2 ascii_Split.j6
    have fit : ∀ y3 : ByteArray, andB (fitsL (lenL acc) (lenL (y3 :: ([] : List ByteArray))) 16) true = true := by
      intro y3
      rw [lenL_nat, lenL_nat, fitsL_yes (by simp only [List.length_cons, List.length_nil]; omega) (by simp only [List.length_cons, List.length_nil]; omega)]; rfl
    have tak : ∀ (q : Bs) (K : List ByteArray → Option (List ByteArray)), (ifO (notB (eqS (B (strip q)) (⟨#[]⟩ : ByteArray))) (K (catL acc (B (strip q) :: []))) (K acc)) = K (X.takeP acc (B q)) := by
      intro q K
      rw [show (⟨#[]⟩ : ByteArray) = B [] from rfl, B_eq, takeP_B]
      by_cases h : strip q = []
      · rw [if_pos h]; simp [h, notB, ifO]
      · rw [if_neg h]; simp [h, notB, ifO, catL]
    simp only [B_len, ltI_nat, inB_nat, ifO_dec, Int.toNat_natCast, fit, ifO_true]
    by_cases h : i < l.length
    · rw [if_pos h, if_pos h, B_bt, B_take l i h, C_step l fr i acc h]
      simp only [eqI_dec, ifO_dec]
      by_cases h34 : (l[i]).toNat = 34
      · have hb := X.endAt_bd l (i + 1) h
        rw [if_pos (by omega), if_pos h34, end_is l hl i k h hk, bindO_some, next64 (by omega), hr _ ⟨rfl, fr, X.endAt l (i + 1) + 1, rfl, rfl, by omega, hfl, by omega, ha⟩ (by show ((l.length : Int) + 2 - ((X.endAt l (i + 1) + 1 : Nat) : Int)).toNat < ((l.length : Int) + 2 - (i : Int)).toNat; omega)]
        simp only [Int.toNat_natCast]
      · rw [if_neg (by omega), if_neg h34]
        by_cases h44 : (l[i]).toNat = 44
        · rw [if_pos (by omega), if_pos h44, boundB_yes (by omega), boundB_yes hfi, B_cut]
          rw [ifO_yes (c := andB true true) rfl, trim_is _ k (by rw [List.length_drop, List.length_take]; omega), bindO_some, next64 (by omega)]
          rw [tak ((l.take i).drop fr) (fun z => r (B l, ((i + 1 : Nat) : Int), ((i + 1 : Nat) : Int), z)), B_extract]
          have htl := X.takeP_len acc (B ((l.take i).drop fr))
          rw [hr _ ⟨rfl, i + 1, i + 1, rfl, rfl, Nat.le_refl _, by omega, by omega, by show (X.takeP acc (B ((l.take i).drop fr))).length ≤ i + 1; omega⟩ (by show ((l.length : Int) + 2 - ((i + 1 : Nat) : Int)).toNat < ((l.length : Int) + 2 - (i : Int)).toNat; omega)]
          simp only [Int.toNat_natCast]
        · rw [if_neg (by omega), if_neg h44, next64 (by omega), hr _ ⟨rfl, fr, i + 1, rfl, rfl, by omega, hfl, by omega, ha⟩ (by show ((l.length : Int) + 2 - ((i + 1 : Nat) : Int)).toNat < ((l.length : Int) + 2 - (i : Int)).toNat; omega)]
          simp only [Int.toNat_natCast]
    · rw [if_neg h, boundB_yes (Nat.le_refl _), boundB_yes hfl, B_cut, ifO_yes (c := andB true true) rfl, trim_is _ k (by rw [List.length_drop, List.length_take]; omega), bindO_some, C_end l fr i acc (by omega), B_extract]
      rw [tak ((l.take l.length).drop fr) (fun z => some z)]
end Go.Proofs.YtpddbfodjeoofaaDoor.R
