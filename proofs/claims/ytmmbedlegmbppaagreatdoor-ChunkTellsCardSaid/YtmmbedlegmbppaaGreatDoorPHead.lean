/- Lines, fields and heads: what the program's functions and the document's tell, on plain lists of bytes. -/
import Derived.Test.YtmmbedlegmbppaaGreatDoorPAsc
namespace Go.Proofs.YtmmbedlegmbppaaGreatDoor.R
open Go Go.RowKit
set_option linter.unusedSimpArgs false
set_option linter.unusedVariables false
theorem cut_is (l : Bs) (hl : l.length ≤ 1000000) (c : UInt8) (k : Nat) : strings_Cut.f k (B l, B [c]) = some (match cutAt c l with
    | some (a, b) => (B a, B b, true)
    | none => (B l, B [], false)) := by
  unfold strings_Cut.f internal_stringslite_Cut.f x_Index.f
  simp only [B_data]
  rw [index_is]
  cases hc : cutAt c l with
  | none => rfl
  | some p =>
    obtain ⟨a, b⟩ := p
    obtain ⟨h1, h2⟩ := cutAt_some hc
    have hlen : l.length = a.length + (b.length + 1) := by rw [h1]; simp
    simp only [bindO_some]
    rw [leD, decide_eq_true (by omega), ifO_true, show lenS (B [c]) = 1 from rfl, B_len, next64 (by omega), boundB_yes (by omega), show boundB 0 (a.length : Int) = true from boundB_yes (i := 0) (by omega), boundB_yes (Nat.le_refl _), boundB_yes (by omega)]
    show some (cutS (B l) 0 (a.length : Int), cutS (B l) ((a.length + 1 : Nat) : Int) (l.length : Int), true) = _
    rw [show cutS (B l) 0 (a.length : Int) = B ((l.take a.length).drop 0) from B_cut l 0 a.length, B_cut, h1]
    congr 3
    · rw [List.drop_zero, List.take_left' rfl]
    · rw [← h1, List.take_of_length_le (Nat.le_refl _), h1, show a ++ c :: b = (a ++ [c]) ++ b by simp, List.drop_left' (by simp)]
/-! ### a line -/
/-- A text without the byte at its end, if it has one of that kind. -/
def unend (c : UInt8) (a : Bs) : Option Bs := if a.getLast? = some c then some a.dropLast else none
def lineM (l : Bs) : Bs × Bs × Int :=
  match cutAt 10 l with
  | none => if 2002 < l.length then ([], [], 4) else ([], [], 3)
  | some (a, b) => match unend 13 a with
    | none => ([], [], 2)
    | some m => if 2000 < m.length then ([], [], 4) else (m, b, 0)
theorem unend_some {c : UInt8} {a m : Bs} (h : unend c a = some m) : a = m ++ [c] := by
  unfold unend at h
  by_cases e : a.getLast? = some c
  · rw [if_pos e] at h
    obtain rfl := Option.some.inj h
    obtain ⟨ys, hy⟩ := List.getLast?_eq_some_iff.1 e
    rw [hy]; simp
  · rw [if_neg e] at h; cases h
theorem unend_of (c : UInt8) (m : Bs) : unend c (m ++ [c]) = some m := by unfold unend; simp
theorem unend_ne (c d : UInt8) (m : Bs) (h : ¬ d = c) : unend c (m ++ [d]) = none := by unfold unend; rw [if_neg (by simp [h])]
theorem suffix_is (c : UInt8) (a : Bs) (ha : a.length ≤ 1000000) (k : Nat) : strings_CutSuffix.f k (B a, B [c]) = some (match unend c a with
    | some m => (B m, true)
    | none => (B a, false)) := by
  unfold strings_CutSuffix.f internal_stringslite_CutSuffix.f internal_stringslite_HasSuffix.f
  simp only [leD, ifO_dec, B_len]
  show bindO (bindO (if ((1 : Nat) : Int) ≤ (a.length : Int) then ifO (andB (boundB (a.length : Int) (a.length : Int)) (boundB (subI .i64 (a.length : Int) ((1 : Nat) : Int)) (a.length : Int))) (some (eqS (cutS (B a) (subI .i64 (a.length : Int) ((1 : Nat) : Int)) (a.length : Int)) (B [c]))) none else some false) _) _ = _
  rcases List.eq_nil_or_concat a with rfl | ⟨m, d, rfl⟩
  · rfl
  · have hlen : (m ++ [d]).length = m.length + 1 := by simp
    rw [List.concat_eq_append] at *
    have e1 : subI .i64 ((m ++ [d]).length : Int) ((1 : Nat) : Int) = (m.length : Int) := by rw [sub64 (by omega) (by omega)]; omega
    rw [if_pos (by omega), e1, boundB_yes (Nat.le_refl _), boundB_yes (by omega), show andB true true = true from rfl, ifO_true, B_cut, List.take_of_length_le (Nat.le_refl _), List.drop_left' rfl, B_eq, bindO_some]
    have e2 : subI .i64 ((m ++ [d]).length : Int) (([c] : Bs).length : Int) = (m.length : Int) := e1
    rw [e2]
    by_cases hd : d = c
    · subst hd
      rw [unend_of, decide_eq_true rfl, show notB true = false from rfl, ifO_false, boundB_yes (by omega), show boundB 0 (m.length : Int) = true from boundB_yes (i := 0) (by omega), show andB true true = true from rfl, ifO_true, bindO_some]
      show some (cutS (B (m ++ [d])) 0 (m.length : Int), true) = _
      rw [show cutS (B (m ++ [d])) 0 (m.length : Int) = B (((m ++ [d]).take m.length).drop 0) from B_cut _ 0 m.length, List.drop_zero, List.take_left' rfl]
    · rw [unend_ne c d m hd, decide_eq_false (by simpa using hd)]
      rfl
theorem line_is (l : Bs) (hl : l.length ≤ 1000000) (k : Nat) : head_line.f k (B l) = some (B (lineM l).1, B (lineM l).2.1, (lineM l).2.2) := by
  unfold head_line.f
  rw [show (⟨#[10]⟩ : ByteArray) = B [10] from rfl, cut_is l hl, bindO_some]
  unfold lineM
  cases hc : cutAt 10 l with
  | none =>
    show ifO true _ _ = _
    rw [ifO_true, ltD, B_len, ifO_dec]
    by_cases h : 2002 < l.length
    · rw [if_pos (by omega)]; simp only [if_pos h]; rfl
    · rw [if_neg (by omega)]; simp only [if_neg h]; rfl
  | some p =>
    obtain ⟨a, b⟩ := p
    obtain ⟨h1, h2⟩ := cutAt_some hc
    have hlen : l.length = a.length + (b.length + 1) := by rw [h1]; simp
    show head_line.j1 k (B a, B b) = _
    unfold head_line.j1
    rw [show (⟨#[13]⟩ : ByteArray) = B [13] from rfl, suffix_is 13 a (by omega), bindO_some]
    cases hu : unend 13 a with
    | none => simp only [hu]; rfl
    | some m =>
      show ifO (ltI 2000 (lenS (B m))) _ _ = _
      rw [ltD, B_len, ifO_dec]
      simp only [hu]
      by_cases h : 2000 < m.length
      · rw [if_pos (by omega), if_pos h]; rfl
      · rw [if_neg (by omega), if_neg h]
theorem lineM_ok {l : Bs} (h : (lineM l).2.2 = 0) : l = (lineM l).1 ++ 13 :: 10 :: (lineM l).2.1 ∧ (lineM l).1.length ≤ 2000 ∧ ∀ d ∈ (lineM l).1, d ≠ 10 := by
  unfold lineM at h ⊢
  cases hc : cutAt 10 l with
  | none => rw [hc] at h; simp only at h; split at h <;> cases h
  | some p =>
    obtain ⟨a, b⟩ := p
    obtain ⟨h1, h2⟩ := cutAt_some hc
    rw [hc] at h
    simp only at h ⊢
    cases hu : unend 13 a with
    | none => rw [hu] at h; cases h
    | some m =>
      rw [hu] at h
      simp only at h ⊢
      by_cases hm : 2000 < m.length
      · rw [if_pos hm] at h; cases h
      · rw [if_neg hm]
        have := unend_some hu
        refine ⟨?_, by show m.length ≤ 2000; omega, fun d hd => h2 d (by rw [this]; simp only [List.mem_append]; exact Or.inl hd)⟩
        show l = m ++ 13 :: 10 :: b
        rw [h1, this]; simp
theorem lineM_of (m b : Bs) (hm : m.length ≤ 2000) (h : ∀ d ∈ m, d ≠ 10) : lineM (m ++ 13 :: 10 :: b) = (m, b, 0) := by
  unfold lineM
  rw [show m ++ 13 :: 10 :: b = (m ++ [13]) ++ 10 :: b by simp, cutAt_of 10 b _ (by
    intro d hd
    rcases List.mem_append.1 hd with hd | hd
    · exact h d hd
    · rw [List.mem_singleton.1 hd]; decide)]
  simp only
  rw [unend_of]
  simp only
  rw [if_neg (by omega)]
/-- The document's line: how many bytes it has is told. -/
theorem r6line (l : Bs) (hl : l.length ≤ 1000000) (k : Nat) (hk : l.length + 1 < k) : ref06_Line.f k (B l) = some (B (lineM l).1, if (lineM l).2.2 = 0 then ((l.length - (lineM l).2.1.length : Nat) : Int) else 0, (lineM l).2.2) := by
  unfold ref06_Line.f ref06_Line.l0
  refine iter_eq (f := ref06_Line.l0b k) (fun v => v.1 = B l ∧ ∃ i : Nat, v.2 = (i : Int) ∧ i ≤ l.length ∧ ∀ d ∈ l.take i, d ≠ 10) (fun v => (l.length + 1 - v.2).toNat) (fun _ => some (B (lineM l).1, if (lineM l).2.2 = 0 then ((l.length - (lineM l).2.1.length : Nat) : Int) else 0, (lineM l).2.2)) ?_ k _ ⟨rfl, 0, rfl, Nat.zero_le _, by simp⟩ (by show ((l.length : Int) + 1 - 0).toNat < k; omega)
  rintro r ⟨s, i'⟩ ⟨h1, i, h3, hi, h7⟩ hr
  simp only at h1 h3
  subst h1; subst h3
  unfold ref06_Line.l0b
  simp only [B_len, ltI_nat, inB_nat, ifO_dec]
  by_cases h : i < l.length
  · rw [if_pos h, if_pos h, B_at h, show neI (l[i].toNat : Int) 10 = decide (¬ l[i] = 10) from ne_byte l[i] 10, ifO_dec]
    by_cases hc : l[i] = 10
    · rw [if_neg (fun g => g hc)]
      have hs : l = l.take i ++ 10 :: l.drop (i + 1) := by rw [← hc, ← List.drop_eq_getElem_cons h, List.take_append_drop]
      have hcut : cutAt 10 l = some (l.take i, l.drop (i + 1)) := by
        conv => lhs; rw [hs]
        exact cutAt_of 10 _ _ h7
      have hti : (l.take i).length = i := by rw [List.length_take]; omega
      have E : lineM l = (match unend 13 (l.take i) with
        | none => (([] : Bs), ([] : Bs), (2 : Int))
        | some m => if 2000 < m.length then ([], [], 4) else (m, l.drop (i + 1), 0)) := by unfold lineM; rw [hcut]
      rw [eqI_dec, ifO_dec]
      by_cases h0 : i = 0
      · subst h0
        rw [if_pos (show ((0 : Nat) : Int) = 0 from rfl), E]; rfl
      · rw [if_neg (by omega), show subI .i64 (i : Int) 1 = ((i - 1 : Nat) : Int) by rw [sub64 (by omega) (by omega)]; omega, inB_nat, ifO_dec, if_pos (by omega), B_at (show i - 1 < l.length by omega)]
        have hl1 : l.take i = l.take (i - 1) ++ [l[i - 1]'(by omega)] := by
          conv => lhs; rw [show i = (i - 1) + 1 by omega]
          rw [List.take_add_one, List.getElem?_eq_getElem (by omega)]; rfl
        rw [show neI ((l[i - 1]'(by omega)).toNat : Int) 13 = decide (¬ (l[i - 1]'(by omega)) = 13) from ne_byte _ 13, ifO_dec]
        by_cases h13 : (l[i - 1]'(by omega)) = 13
        · rw [if_neg (fun g => g h13)]
          rw [hl1, h13, unend_of] at E
          have hm : (l.take (i - 1)).length = i - 1 := by rw [List.length_take]; omega
          simp only [hm] at E
          rw [ltD, ifO_dec]
          by_cases h20 : 2000 < i - 1
          · rw [if_pos (by omega), E, if_pos h20]; rfl
          · rw [if_neg (by omega), E, if_neg h20, boundB_yes (by omega), show boundB 0 ((i - 1 : Nat) : Int) = true from boundB_yes (i := 0) (by omega), show andB true true = true from rfl, ifO_true, next64 (by omega)]
            rw [show cutS (B l) 0 ((i - 1 : Nat) : Int) = B ((l.take (i - 1)).drop 0) from B_cut l 0 (i - 1), List.drop_zero]
            show some (B (l.take (i - 1)), ((i + 1 : Nat) : Int), (0 : Int)) = some (B (l.take (i - 1)), (if (0 : Int) = 0 then ((l.length - (l.drop (i + 1)).length : Nat) : Int) else 0), 0)
            rw [if_pos rfl, List.length_drop, show l.length - (l.length - (i + 1)) = i + 1 by omega]
        · rw [if_pos h13, E]
          have : unend 13 (l.take i) = none := by rw [hl1]; exact unend_ne 13 _ _ h13
          rw [this]; rfl
    · rw [if_pos hc, next64 (by omega)]
      refine hr _ ⟨rfl, i + 1, rfl, h, ?_⟩ (by show ((l.length : Int) + 1 - ((i + 1 : Nat) : Int)).toNat < ((l.length : Int) + 1 - (i : Int)).toNat; omega)
      rw [List.take_add_one, List.getElem?_eq_getElem h]
      intro d hd
      rcases List.mem_append.1 hd with hd | hd
      · exact h7 d hd
      · simp at hd; rw [hd]; exact hc
  · rw [if_neg h]
    rw [List.take_of_length_le (by omega)] at h7
    have E : lineM l = if 2002 < l.length then ([], [], 4) else ([], [], 3) := by unfold lineM; rw [cutAt_no 10 l h7]
    rw [show ltI 2002 (l.length : Int) = decide (2002 < l.length) from ltI_nat 2002 _, ifO_dec, E]
    split <;> rfl
end Go.Proofs.YtmmbedlegmbppaaGreatDoor.R
