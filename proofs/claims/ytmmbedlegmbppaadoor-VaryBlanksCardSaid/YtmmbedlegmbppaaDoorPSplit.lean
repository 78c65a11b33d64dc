/- ascii.Split and the document's Split are one. -/
import Derived.Test.YtmmbedlegmbppaaDoorPAsc
namespace Go.Proofs.YtmmbedlegmbppaaDoor.R
open Go Go.RowKit
set_option linter.unusedSimpArgs false
set_option linter.unusedVariables false
theorem getD_at {l : Bs} {i : Nat} (h : i < l.length) : l.getD i 0 = l[i] := by rw [List.getD_eq_getElem?_getD, List.getElem?_eq_getElem h]; rfl
def qe : List UInt8 → Nat
  | [] => 0
  | c :: r => if c.toNat = 92 then (match r with
    | [] => 1
    | _ :: r' => 2 + qe r') else if c.toNat = 34 then 0 else 1 + qe r
theorem qe_le : ∀ (n : Nat) (l : List UInt8), l.length ≤ n → qe l ≤ l.length := by
  intro n
  induction n with
  | zero => intro l h; match l, h with
                       | [], _ => simp [qe]
  | succ n ih =>
    intro l h
    match l, h with
    | [], _ => simp [qe]
    | [c], _ =>
      unfold qe
      split
      · exact Nat.le_refl _
      · split
        · exact Nat.zero_le _
        · exact Nat.le_refl _
    | c :: d :: r, h =>
      have h1 := ih (d :: r) (by simpa using h)
      have h2 := ih r (by simp at h; omega)
      unfold qe
      simp only [List.length_cons] at *
      split
      · omega
      · split <;> omega
theorem qe_end {l : List UInt8} {i : Nat} (h : l.length ≤ i) : qe (l.drop i) = 0 := by rw [List.drop_eq_nil_of_le h]; rfl
theorem qe_esc {l : List UInt8} {i : Nat} (hi : i < l.length) (h : (l.getD i 0).toNat = 92) : qe (l.drop i) = if i + 1 < l.length then 2 + qe (l.drop (i + 2)) else 1 := by
  rw [List.drop_eq_getElem_cons hi]
  rw [List.getD_eq_getElem?_getD, List.getElem?_eq_getElem hi] at h
  simp only [Option.getD_some] at h
  conv => lhs; unfold qe
  rw [if_pos h]
  by_cases h1 : i + 1 < l.length
  · rw [if_pos h1, List.drop_eq_getElem_cons h1]
  · rw [if_neg h1, List.drop_eq_nil_of_le (by omega)]
theorem qe_quote {l : List UInt8} {i : Nat} (hi : i < l.length) (h : (l.getD i 0).toNat = 34) : qe (l.drop i) = 0 := by
  rw [List.drop_eq_getElem_cons hi]
  rw [List.getD_eq_getElem?_getD, List.getElem?_eq_getElem hi] at h
  simp only [Option.getD_some] at h
  unfold qe
  rw [if_neg (by omega), if_pos h]
theorem qe_more {l : List UInt8} {i : Nat} (hi : i < l.length) (h : ¬ (l.getD i 0).toNat = 92) (h' : ¬ (l.getD i 0).toNat = 34) : qe (l.drop i) = 1 + qe (l.drop (i + 1)) := by
  rw [List.drop_eq_getElem_cons hi]
  rw [List.getD_eq_getElem?_getD, List.getElem?_eq_getElem hi] at h h'
  simp only [Option.getD_some] at h h'
  conv => lhs; unfold qe
  rw [if_neg h, if_neg h']
/-- Where the quoted part ends that begins ahead of i. -/
def endAt (l : List UInt8) (i : Nat) : Nat := if i < l.length then i + qe (l.drop i) else l.length
theorem endAt_bd (l : List UInt8) (i : Nat) (h : i ≤ l.length) : i ≤ endAt l i ∧ endAt l i ≤ l.length := by
  unfold endAt
  by_cases h1 : i < l.length
  · rw [if_pos h1]
    have := qe_le _ (l.drop i) (Nat.le_refl _)
    rw [List.length_drop] at this
    omega
  · rw [if_neg h1]; omega
def takeP (acc : List ByteArray) (p : ByteArray) : List ByteArray := if (Lib.trimF X.isBlank p).toList = [] then acc else acc ++ [Lib.trimF X.isBlank p]
theorem takeP_len (acc : List ByteArray) (p : ByteArray) : (takeP acc p).length ≤ acc.length + 1 := by unfold takeP; split <;> simp
def cuts (s : ByteArray) : Nat → Nat → Nat → List ByteArray → List ByteArray
  | 0, fr, _, acc => takeP acc (s.extract fr s.size)
  | k + 1, fr, i, acc => if i < s.size then
      (if (s.data.toList.getD i 0).toNat = 34 then cuts s k fr (endAt s.data.toList (i + 1) + 1) acc
       else if (s.data.toList.getD i 0).toNat = 44 then cuts s k (i + 1) (i + 1) (takeP acc (s.extract fr i))
       else cuts s k fr (i + 1) acc) else takeP acc (s.extract fr s.size)
theorem end_is (l : Bs) (hl : l.length ≤ 100000) (i k : Nat) (hi : i < l.length) (hk : 100010 ≤ k) : ascii_end.f k (B l, (i : Int)) = some (endAt l (i + 1) : Int) := by
  unfold ascii_end.f ascii_end.l0
  rw [show addI .i64 (i : Int) 1 = ((i + 1 : Nat) : Int) from next64 (by omega)]
  have H := iter_eq (f := ascii_end.l0b k) (fun v => v.1 = B l ∧ ∃ n : Nat, v.2 = (n : Int) ∧ n ≤ l.length + 1) (fun v => (l.length + 2 - v.2).toNat) (fun v => some (endAt l v.2.toNat : Int)) ?_ k (B l, ((i + 1 : Nat) : Int)) ⟨rfl, i + 1, rfl, by omega⟩ (by show ((l.length : Int) + 2 - ((i + 1 : Nat) : Int)).toNat < k; omega)
  · rw [H]; rfl
  · rintro r ⟨s, x⟩ ⟨h1, n, h2, hn⟩ hr
    simp only at h1 h2
    subst h1; subst h2
    unfold ascii_end.l0b ascii_end.j1
    simp only [B_len, ltI_nat, inB_nat, ifO_dec, Int.toNat_natCast]
    by_cases h : n < l.length
    · rw [if_pos h, if_pos h, B_at h]
      have ee : endAt l n = n + qe (l.drop n) := by unfold endAt; rw [if_pos h]
      simp only [eqI_dec, ifO_dec]
      by_cases h92 : (l[n]).toNat = 92
      · rw [if_pos (by omega), next64 (by omega), next64 (by omega), hr _ ⟨rfl, n + 1 + 1, rfl, by omega⟩ (by show ((l.length : Int) + 2 - ((n + 1 + 1 : Nat) : Int)).toNat < ((l.length : Int) + 2 - (n : Int)).toNat; omega)]
        simp only [Int.toNat_natCast]
        rw [ee, qe_esc h (by rw [getD_at h]; exact h92)]
        unfold endAt
        by_cases h1 : n + 1 < l.length
        · rw [if_pos h1]
          by_cases h2 : n + 1 + 1 < l.length
          · rw [if_pos h2, show n + 1 + 1 = n + 2 from rfl]; congr 2; omega
          · rw [if_neg h2, qe_end (by omega)]; congr 2; omega
        · rw [if_neg h1, if_neg (by omega)]; congr 2; omega
      · rw [if_neg (by omega)]
        by_cases h34 : (l[n]).toNat = 34
        · rw [if_pos (by omega), ee, qe_quote h (by rw [getD_at h]; exact h34)]; rfl
        · rw [if_neg (by omega), next64 (by omega), hr _ ⟨rfl, n + 1, rfl, by omega⟩ (by show ((l.length : Int) + 2 - ((n + 1 : Nat) : Int)).toNat < ((l.length : Int) + 2 - (n : Int)).toNat; omega)]
          simp only [Int.toNat_natCast]
          rw [ee, qe_more h (by rw [getD_at h]; exact h92) (by rw [getD_at h]; exact h34)]
          unfold endAt
          by_cases h1 : n + 1 < l.length
          · rw [if_pos h1]; congr 2; omega
          · rw [if_neg h1, qe_end (by omega)]; congr 2; omega
    · rw [if_neg h]
      unfold endAt
      rw [if_neg h]
theorem cuts_end (s : ByteArray) (m fr i : Nat) (acc : List ByteArray) (h : s.size ≤ i) : cuts s m fr i acc = takeP acc (s.extract fr s.size) := by
  cases m with
  | zero => rfl
  | succ m => unfold cuts; rw [if_neg (by omega)]
theorem cuts_fuel (s : ByteArray) : ∀ (k j fr i : Nat) (acc : List ByteArray), s.size ≤ i + k → s.size ≤ i + j → cuts s k fr i acc = cuts s j fr i acc := by
  intro k
  induction k with
  | zero => intro j fr i acc h h'; rw [cuts_end s 0 fr i acc (by omega), cuts_end s j fr i acc (by omega)]
  | succ k ih =>
    intro j fr i acc h h'
    cases j with
    | zero => rw [cuts_end s 0 fr i acc (by omega), cuts_end s _ fr i acc (by omega)]
    | succ j =>
      unfold cuts
      by_cases hi : i < s.size
      · rw [if_pos hi, if_pos hi]
        have hb := endAt_bd s.data.toList (i + 1) (by rw [Array.length_toList]; exact hi)
        rw [ih j fr (endAt s.data.toList (i + 1) + 1) acc (by omega) (by omega), ih j (i + 1) (i + 1) _ (by omega) (by omega), ih j fr (i + 1) acc (by omega) (by omega)]
      · rw [if_neg hi, if_neg hi]
/-- The parts of a text from a place on. -/
def C (l : Bs) (fr i : Nat) (acc : List ByteArray) : List ByteArray := cuts (B l) (l.length + 1) fr i acc
theorem C_end (l : Bs) (fr i : Nat) (acc : List ByteArray) (h : l.length ≤ i) : C l fr i acc = takeP acc ((B l).extract fr l.length) := by unfold C; rw [cuts_end _ _ _ _ _ (by rw [B_size]; exact h), B_size]
theorem C_step (l : Bs) (fr i : Nat) (acc : List ByteArray) (h : i < l.length) : C l fr i acc = if (l[i]).toNat = 34 then C l fr (endAt l (i + 1) + 1) acc else if (l[i]).toNat = 44 then C l (i + 1) (i + 1) (takeP acc ((B l).extract fr i)) else C l fr (i + 1) acc := by
  have hb := endAt_bd l (i + 1) h
  have hs := B_size l
  unfold C
  conv => lhs; unfold cuts
  rw [if_pos (by omega), B_data, getD_at h, cuts_fuel _ l.length (l.length + 1) _ _ _ (by omega) (by omega), cuts_fuel _ l.length (l.length + 1) (i + 1) _ _ (by omega) (by omega), cuts_fuel _ l.length (l.length + 1) fr (i + 1) _ (by omega) (by omega)]
theorem takeP_B (acc : List ByteArray) (q : Bs) : takeP acc (B q) = if strip q = [] then acc else acc ++ [B (strip q)] := by
  unfold takeP
  rw [show Lib.trimF X.isBlank (B q) = B (strip q) from trim_eq q, B_toList]
theorem split_is (l : Bs) (hl : l.length ≤ 100000) (k : Nat) (hk : 100010 ≤ k) : ascii_Split.f k (B l) = some (C l 0 0 []) := by
  unfold ascii_Split.f ascii_Split.l0
  have H := iter_eq (f := ascii_Split.l0b k) (fun v => v.1 = B l ∧ ∃ fr i : Nat, v.2.1 = (fr : Int) ∧ v.2.2.1 = (i : Int) ∧ fr ≤ i ∧ fr ≤ l.length ∧ i ≤ l.length + 1 ∧ v.2.2.2.length ≤ fr) (fun v => (l.length + 2 - v.2.2.1).toNat) (fun v => some (C l v.2.1.toNat v.2.2.1.toNat v.2.2.2)) ?_ k (B l, ((0 : Int), ((0 : Int), ([] : List ByteArray)))) ⟨rfl, 0, 0, rfl, rfl, Nat.le_refl _, Nat.zero_le _, Nat.zero_le _, Nat.le_refl _⟩ (by show ((l.length : Int) + 2 - 0).toNat < k; omega)
  · rw [H]; rfl
  · rintro r ⟨s, x, y, acc⟩ ⟨h1, fr, i, h2, h3, hfi, hfl, hil, ha⟩ hr
    simp only at h1 h2 h3 ha
    subst h1; subst h2; subst h3
    unfold ascii_Split.l0b ascii_Split.j4 ascii_Split.j2 ascii_Split.j6
    have fit : ∀ y3 : ByteArray, fitsL (lenL acc) (lenL (y3 :: ([] : List ByteArray))) 16 = true := by
      intro y3
      rw [lenL_nat, lenL_nat, fitsL_yes (by simp only [List.length_cons, List.length_nil]; omega) (by simp only [List.length_cons, List.length_nil]; omega)]
    have tak : ∀ (q : Bs) (K : List ByteArray → Option (List ByteArray)), (ifO (notB (eqS (B (strip q)) (⟨#[]⟩ : ByteArray))) (K (catL acc (B (strip q) :: []))) (K acc)) = K (takeP acc (B q)) := by
      intro q K
      rw [show (⟨#[]⟩ : ByteArray) = B [] from rfl, B_eq, takeP_B]
      by_cases h : strip q = []
      · rw [if_pos h]; simp [h, notB, ifO]
      · rw [if_neg h]; simp [h, notB, ifO, catL]
    simp only [B_len, ltI_nat, inB_nat, ifO_dec, Int.toNat_natCast, fit, ifO_true]
    by_cases h : i < l.length
    · rw [if_pos h, if_pos h, B_at h, C_step l fr i acc h]
      simp only [eqI_dec, ifO_dec]
      by_cases h34 : (l[i]).toNat = 34
      · have hb := endAt_bd l (i + 1) h
        rw [if_pos (by omega), if_pos h34, end_is l hl i k h hk, bindO_some, next64 (by omega), hr _ ⟨rfl, fr, endAt l (i + 1) + 1, rfl, rfl, by omega, hfl, by omega, ha⟩ (by show ((l.length : Int) + 2 - ((endAt l (i + 1) + 1 : Nat) : Int)).toNat < ((l.length : Int) + 2 - (i : Int)).toNat; omega)]
        simp only [Int.toNat_natCast]
      · rw [if_neg (by omega), if_neg h34]
        by_cases h44 : (l[i]).toNat = 44
        · rw [if_pos (by omega), if_pos h44, boundB_yes (by omega), boundB_yes hfi, B_cut]
          rw [ifO_yes (c := andB true true) rfl, trim_is _ (by rw [List.length_drop, List.length_take]; omega), bindO_some, next64 (by omega)]
          rw [tak ((l.take i).drop fr) (fun z => r (B l, ((i + 1 : Nat) : Int), ((i + 1 : Nat) : Int), z)), B_extract]
          have htl := takeP_len acc (B ((l.take i).drop fr))
          rw [hr _ ⟨rfl, i + 1, i + 1, rfl, rfl, Nat.le_refl _, by omega, by omega, by show (takeP acc (B ((l.take i).drop fr))).length ≤ i + 1; omega⟩ (by show ((l.length : Int) + 2 - ((i + 1 : Nat) : Int)).toNat < ((l.length : Int) + 2 - (i : Int)).toNat; omega)]
          simp only [Int.toNat_natCast]
        · rw [if_neg (by omega), if_neg h44, next64 (by omega), hr _ ⟨rfl, fr, i + 1, rfl, rfl, by omega, hfl, by omega, ha⟩ (by show ((l.length : Int) + 2 - ((i + 1 : Nat) : Int)).toNat < ((l.length : Int) + 2 - (i : Int)).toNat; omega)]
          simp only [Int.toNat_natCast]
    · rw [if_neg h, boundB_yes (Nat.le_refl _), boundB_yes hfl, B_cut, ifO_yes (c := andB true true) rfl, trim_is _ (by rw [List.length_drop, List.length_take]; omega), bindO_some, C_end l fr i acc (by omega), B_extract]
      rw [tak ((l.take l.length).drop fr) (fun z => some z)]
/-- What is split from a place on, by what the document holds there. -/
def restS (l : Bs) (acc : List ByteArray) (q sl : Bool) (fr i : Nat) : List ByteArray :=
  if l.length < i then acc else if q = false then C l fr i acc else if sl = false then C l fr (endAt l i + 1) acc else C l fr (endAt l (i + 1) + 1) acc
theorem r1split (l : Bs) (hl : l.length ≤ 100000) (k : Nat) (hk : 100010 ≤ k) : ref01_Split.f k (B l) = some (C l 0 0 []) := by
  unfold ref01_Split.f ref01_Split.l0
  have H := iter_eq (f := ref01_Split.l0b k) (fun v => v.1 = B l ∧ (v.2.2.1 = false → v.2.2.2.1 = false) ∧ ∃ fr i : Nat, v.2.2.2.2.1 = (fr : Int) ∧ v.2.2.2.2.2 = (i : Int) ∧ fr ≤ i ∧ i ≤ l.length + 1 ∧ v.2.1.length ≤ i) (fun v => (l.length + 2 - v.2.2.2.2.2).toNat) (fun v => some (restS l v.2.1 v.2.2.1 v.2.2.2.1 v.2.2.2.2.1.toNat v.2.2.2.2.2.toNat)) ?_ k (B l, (([] : List ByteArray), (false, (false, ((0 : Int), (0 : Int)))))) ⟨rfl, fun _ => rfl, 0, 0, rfl, rfl, Nat.le_refl _, Nat.zero_le _, Nat.zero_le _⟩ (by show ((l.length : Int) + 2 - 0).toNat < k; omega)
  · exact H
  rintro r ⟨s, acc, q, sl, x, y⟩ ⟨h1, hq, fr, i, h2, h3, hfi, hil, ha⟩ hr
  simp only at h1 hq h2 h3 ha
  subst h1; subst h2; subst h3
  unfold ref01_Split.l0b ref01_Split.j2 ref01_Split.j3 ref01_Split.j5 ref01_Split.j1
  simp only [B_len, ltI_nat, leI_nat, inB_nat, ifO_dec, Int.toNat_natCast]
  have fit : ∀ y3 : ByteArray, fitsL (lenL acc) (lenL (y3 :: ([] : List ByteArray))) 16 = true := by
    intro y3
    rw [lenL_nat, lenL_nat, fitsL_yes (by simp only [List.length_cons, List.length_nil]; omega) (by simp only [List.length_cons, List.length_nil]; omega)]
  have tak : ∀ (q : Bs) (K : List ByteArray → Option (List ByteArray)), (ifO (notB (eqS (B (strip q)) (⟨#[]⟩ : ByteArray))) (K (catL acc (B (strip q) :: []))) (K acc)) = K (takeP acc (B q)) := by
    intro q K
    rw [show (⟨#[]⟩ : ByteArray) = B [] from rfl, B_eq, takeP_B]
    by_cases h : strip q = []
    · rw [if_pos h]; simp [h, notB, ifO]
    · rw [if_neg h]; simp [h, notB, ifO, catL]
  have lt : ∀ n : Nat, i < n → ((l.length : Int) + 2 - (n : Int)).toNat < ((l.length : Int) + 2 - (i : Int)).toNat ∨ l.length + 2 ≤ i := by intro n hn; omega
  by_cases hi : i ≤ l.length
  · rw [if_pos hi]
    have hm : ((l.length : Int) + 2 - ((i + 1 : Nat) : Int)).toNat < ((l.length : Int) + 2 - (i : Int)).toNat := by omega
    -- a part, and on
    have part : ∀ (q' sl' : Bool), (q' = false → sl' = false) → (ifO (andB (boundB (i : Int) (l.length : Int)) (boundB (fr : Int) (i : Int))) (bindO (ref01_Trim.f k (cutS (B l) (fr : Int) (i : Int))) fun y4 => (ifO (notB (eqS y4 (⟨#[]⟩ : ByteArray))) (ifO (fitsL (lenL acc) (lenL (y4 :: ([] : List ByteArray))) 16) (r (B l, ((catL acc (y4 :: ([] : List ByteArray))), (q', (sl', ((addI .i64 (i : Int) 1), (addI .i64 (i : Int) 1))))))) none) (r (B l, (acc, (q', (sl', ((addI .i64 (i : Int) 1), (addI .i64 (i : Int) 1))))))))) none) = some (restS l (takeP acc ((B l).extract fr i)) q' sl' (i + 1) (i + 1)) := by
      intro q' sl' hq'
      rw [boundB_yes hi, boundB_yes hfi, show andB true true = true from rfl, ifO_true, B_cut, r1trim _ (by rw [List.length_drop, List.length_take]; omega) k (by rw [List.length_drop, List.length_take]; omega), bindO_some, fit, ifO_true, next64 (by omega), B_extract]
      rw [tak ((l.take i).drop fr) (fun z => r (B l, (z, (q', (sl', (((i + 1 : Nat) : Int), ((i + 1 : Nat) : Int)))))))]
      have htl := takeP_len acc (B ((l.take i).drop fr))
      exact hr (B l, (takeP acc (B ((l.take i).drop fr)), (q', (sl', (((i + 1 : Nat) : Int), ((i + 1 : Nat) : Int)))))) ⟨rfl, hq', i + 1, i + 1, rfl, rfl, Nat.le_refl _, by omega, by show (takeP acc (B ((l.take i).drop fr))).length ≤ i + 1; omega⟩ hm
    -- on, with no part
    have on : ∀ (q' sl' : Bool), (q' = false → sl' = false) → r (B l, (acc, (q', (sl', ((fr : Int), (addI .i64 (i : Int) 1)))))) = some (restS l acc q' sl' fr (i + 1)) := by
      intro q' sl' hq'
      rw [next64 (by omega)]
      exact hr (B l, (acc, (q', (sl', ((fr : Int), ((i + 1 : Nat) : Int)))))) ⟨rfl, hq', fr, i + 1, rfl, rfl, by omega, by omega, by show acc.length ≤ i + 1; omega⟩ hm
    by_cases h : i < l.length
    · have n1 : ¬ l.length < i := by omega
      have n2 : ¬ l.length < i + 1 := by omega
      have e34 : eqI (l[i].toNat : Int) 34 = decide (l[i].toNat = 34) := by rw [eqI_dec]; congr 1; rw [eq_iff_iff]; omega
      have e92 : eqI (l[i].toNat : Int) 92 = decide (l[i].toNat = 92) := by rw [eqI_dec]; congr 1; rw [eq_iff_iff]; omega
      have e44 : neI (l[i].toNat : Int) 44 = decide (¬ l[i].toNat = 44) := by rw [neI_dec]; congr 1; rw [eq_iff_iff]; omega
      simp only [if_pos h, B_at h, e34, e92, e44, ifO_dec]
      have ee : endAt l i = i + qe (l.drop i) := by unfold endAt; rw [if_pos h]
      cases q with
      | false =>
        obtain rfl : sl = false := hq rfl
        rw [ifO_false]
        unfold restS
        rw [if_neg n1, if_pos rfl, C_step l fr i acc h]
        by_cases h44 : l[i].toNat = 44
        · rw [if_neg (fun g => g h44), if_neg (by omega), if_pos h44, part false false (fun _ => rfl)]
          unfold restS
          rw [if_neg n2, if_pos rfl]
        · rw [if_pos h44, if_neg h44]
          by_cases h34 : l[i].toNat = 34
          · rw [if_pos h34, decide_eq_true h34, on true false (fun g => by cases g)]
            unfold restS
            rw [if_neg n2, if_neg (by decide), if_pos rfl]
          · rw [if_neg h34, decide_eq_false h34, on false false (fun _ => rfl)]
            unfold restS
            rw [if_neg n2, if_pos rfl]
      | true =>
        rw [ifO_true]
        cases sl with
        | true =>
          rw [ifO_true, on true false (fun g => by cases g)]
          unfold restS
          simp only [if_neg n1, if_neg n2, Bool.true_eq_false, if_false, if_true]
        | false =>
          rw [ifO_false]
          have R : restS l acc true false fr i = C l fr (endAt l i + 1) acc := by unfold restS; rw [if_neg n1, if_neg (by decide), if_pos rfl]
          rw [R]
          by_cases h92 : l[i].toNat = 92
          · rw [if_pos h92, on true true (fun g => by cases g)]
            unfold restS
            rw [if_neg n2, if_neg (by decide), if_neg (by decide)]
            have hn : endAt l i = endAt l (i + 1 + 1) := by
              rw [ee, qe_esc h (by rw [getD_at h]; exact h92)]
              unfold endAt
              by_cases h1 : i + 1 < l.length
              · rw [if_pos h1]
                by_cases h2 : i + 1 + 1 < l.length
                · rw [if_pos h2, show i + 1 + 1 = i + 2 from rfl]; omega
                · rw [if_neg h2, qe_end (by omega)]; omega
              · rw [if_neg h1, if_neg (by omega)]; omega
            rw [hn]
          · rw [if_neg h92]
            by_cases h34 : l[i].toNat = 34
            · rw [if_pos h34, on false false (fun _ => rfl), ee, qe_quote h (by rw [getD_at h]; exact h34)]
              unfold restS
              rw [if_neg n2, if_pos rfl]
            · rw [if_neg h34, on true false (fun g => by cases g)]
              unfold restS
              rw [if_neg n2, if_neg (by decide), if_pos rfl]
              have hn : endAt l i = endAt l (i + 1) := by
                rw [ee, qe_more h (by rw [getD_at h]; exact h92) (by rw [getD_at h]; exact h34)]
                unfold endAt
                by_cases h1 : i + 1 < l.length
                · rw [if_pos h1]; omega
                · rw [if_neg h1, qe_end (by omega)]; omega
              rw [hn]
    · obtain rfl : i = l.length := by omega
      have R : restS l acc q sl fr l.length = takeP acc ((B l).extract fr l.length) := by
        have e1 : endAt l l.length = l.length := by unfold endAt; rw [if_neg (by omega)]
        have e2 : endAt l (l.length + 1) = l.length := by unfold endAt; rw [if_neg (by omega)]
        unfold restS
        rw [if_neg (by omega), e1, e2, C_end _ _ _ _ (Nat.le_refl _), C_end _ _ _ _ (Nat.le_succ _)]
        split
        · rfl
        · split <;> rfl
      simp only [if_neg h]
      rw [R, part q sl hq]
      unfold restS
      rw [if_pos (Nat.lt_succ_self _)]
  · rw [if_neg hi]
    unfold restS
    rw [if_pos (by omega)]
end Go.Proofs.YtmmbedlegmbppaaDoor.R
