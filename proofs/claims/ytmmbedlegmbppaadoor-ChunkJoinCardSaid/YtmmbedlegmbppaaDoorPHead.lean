/- Lines, fields and heads: what the program's functions and the document's tell, on plain lists of bytes. -/
import Derived.Test.YtmmbedlegmbppaaDoorPAsc
namespace Go.Proofs.YtmmbedlegmbppaaDoor.R
open Go Go.RowKit
set_option linter.unusedSimpArgs false
set_option linter.unusedVariables false
theorem cut_is (l : Bs) (hl : l.length ≤ 1000000) (c : UInt8) (k : Nat) : strings_Cut.f k (B l, B [c]) = some (match cutAt c l with
    | some (a, b) => (B a, B b, true)
    | none => (B l, B [], false)) := by
  unfold strings_Cut.f internal_stringslite_Cut.f x_Index.f
  simp only [B_data]
  rw [index_is]
  cases hc : cutAt c l with
  | none => rfl
  | some p =>
    obtain ⟨a, b⟩ := p
    obtain ⟨h1, h2⟩ := cutAt_some hc
    have hlen : l.length = a.length + (b.length + 1) := by rw [h1]; simp
    simp only [bindO_some]
    rw [leD, decide_eq_true (by omega), ifO_true, show lenS (B [c]) = 1 from rfl, B_len, next64 (by omega), boundB_yes (by omega), show boundB 0 (a.length : Int) = true from boundB_yes (i := 0) (by omega), boundB_yes (Nat.le_refl _), boundB_yes (by omega)]
    show some (cutS (B l) 0 (a.length : Int), cutS (B l) ((a.length + 1 : Nat) : Int) (l.length : Int), true) = _
    rw [show cutS (B l) 0 (a.length : Int) = B ((l.take a.length).drop 0) from B_cut l 0 a.length, B_cut, h1]
    congr 3
    · rw [List.drop_zero, List.take_left' rfl]
    · rw [← h1, List.take_of_length_le (Nat.le_refl _), h1, show a ++ c :: b = (a ++ [c]) ++ b by simp, List.drop_left' (by simp)]
/-! ### a line -/
/-- A text without the byte at its end, if it has one of that kind. -/
def unend (c : UInt8) (a : Bs) : Option Bs := if a.getLast? = some c then some a.dropLast else none
def lineM (l : Bs) : Bs × Bs × Int :=
  match cutAt 10 l with
  | none => if 2002 < l.length then ([], [], 4) else ([], [], 3)
  | some (a, b) => match unend 13 a with
    | none => ([], [], 2)
    | some m => if 2000 < m.length then ([], [], 4) else (m, b, 0)
theorem unend_some {c : UInt8} {a m : Bs} (h : unend c a = some m) : a = m ++ [c] := by
  unfold unend at h
  by_cases e : a.getLast? = some c
  · rw [if_pos e] at h
    obtain rfl := Option.some.inj h
    obtain ⟨ys, hy⟩ := List.getLast?_eq_some_iff.1 e
    rw [hy]; simp
  · rw [if_neg e] at h; cases h
theorem unend_of (c : UInt8) (m : Bs) : unend c (m ++ [c]) = some m := by unfold unend; simp
theorem unend_ne (c d : UInt8) (m : Bs) (h : ¬ d = c) : unend c (m ++ [d]) = none := by unfold unend; rw [if_neg (by simp [h])]
theorem suffix_is (c : UInt8) (a : Bs) (ha : a.length ≤ 1000000) (k : Nat) : strings_CutSuffix.f k (B a, B [c]) = some (match unend c a with
    | some m => (B m, true)
    | none => (B a, false)) := by
  unfold strings_CutSuffix.f internal_stringslite_CutSuffix.f internal_stringslite_HasSuffix.f
  simp only [leD, ifO_dec, B_len]
  show bindO (bindO (if ((1 : Nat) : Int) ≤ (a.length : Int) then ifO (andB (boundB (a.length : Int) (a.length : Int)) (boundB (subI .i64 (a.length : Int) ((1 : Nat) : Int)) (a.length : Int))) (some (eqS (cutS (B a) (subI .i64 (a.length : Int) ((1 : Nat) : Int)) (a.length : Int)) (B [c]))) none else some false) _) _ = _
  rcases List.eq_nil_or_concat a with rfl | ⟨m, d, rfl⟩
  · rfl
  · have hlen : (m ++ [d]).length = m.length + 1 := by simp
    rw [List.concat_eq_append] at *
    have e1 : subI .i64 ((m ++ [d]).length : Int) ((1 : Nat) : Int) = (m.length : Int) := by rw [sub64 (by omega) (by omega)]; omega
    rw [if_pos (by omega), e1, boundB_yes (Nat.le_refl _), boundB_yes (by omega), show andB true true = true from rfl, ifO_true, B_cut, List.take_of_length_le (Nat.le_refl _), List.drop_left' rfl, B_eq, bindO_some]
    have e2 : subI .i64 ((m ++ [d]).length : Int) (([c] : Bs).length : Int) = (m.length : Int) := e1
    rw [e2]
    by_cases hd : d = c
    · subst hd
      rw [unend_of, decide_eq_true rfl, show notB true = false from rfl, ifO_false, boundB_yes (by omega), show boundB 0 (m.length : Int) = true from boundB_yes (i := 0) (by omega), show andB true true = true from rfl, ifO_true, bindO_some]
      show some (cutS (B (m ++ [d])) 0 (m.length : Int), true) = _
      rw [show cutS (B (m ++ [d])) 0 (m.length : Int) = B (((m ++ [d]).take m.length).drop 0) from B_cut _ 0 m.length, List.drop_zero, List.take_left' rfl]
    · rw [unend_ne c d m hd, decide_eq_false (by simpa using hd)]
      rfl
theorem line_is (l : Bs) (hl : l.length ≤ 1000000) (k : Nat) : head_line.f k (B l) = some (B (lineM l).1, B (lineM l).2.1, (lineM l).2.2) := by
  unfold head_line.f
  rw [show (⟨#[10]⟩ : ByteArray) = B [10] from rfl, cut_is l hl, bindO_some]
  unfold lineM
  cases hc : cutAt 10 l with
  | none =>
    show ifO true _ _ = _
    rw [ifO_true, ltD, B_len, ifO_dec]
    by_cases h : 2002 < l.length
    · rw [if_pos (by omega)]; simp only [if_pos h]; rfl
    · rw [if_neg (by omega)]; simp only [if_neg h]; rfl
  | some p =>
    obtain ⟨a, b⟩ := p
    obtain ⟨h1, h2⟩ := cutAt_some hc
    have hlen : l.length = a.length + (b.length + 1) := by rw [h1]; simp
    show head_line.j1 k (B a, B b) = _
    unfold head_line.j1
    rw [show (⟨#[13]⟩ : ByteArray) = B [13] from rfl, suffix_is 13 a (by omega), bindO_some]
    cases hu : unend 13 a with
    | none => simp only [hu]; rfl
    | some m =>
      show ifO (ltI 2000 (lenS (B m))) _ _ = _
      rw [ltD, B_len, ifO_dec]
      simp only [hu]
      by_cases h : 2000 < m.length
      · rw [if_pos (by omega), if_pos h]; rfl
      · rw [if_neg (by omega), if_neg h]
theorem lineM_ok {l : Bs} (h : (lineM l).2.2 = 0) : l = (lineM l).1 ++ 13 :: 10 :: (lineM l).2.1 ∧ (lineM l).1.length ≤ 2000 ∧ ∀ d ∈ (lineM l).1, d ≠ 10 := by
  unfold lineM at h ⊢
  cases hc : cutAt 10 l with
  | none => rw [hc] at h; simp only at h; split at h <;> cases h
  | some p =>
    obtain ⟨a, b⟩ := p
    obtain ⟨h1, h2⟩ := cutAt_some hc
    rw [hc] at h
    simp only at h ⊢
    cases hu : unend 13 a with
    | none => rw [hu] at h; cases h
    | some m =>
      rw [hu] at h
      simp only at h ⊢
      by_cases hm : 2000 < m.length
      · rw [if_pos hm] at h; cases h
      · rw [if_neg hm]
        have := unend_some hu
        refine ⟨?_, by show m.length ≤ 2000; omega, fun d hd => h2 d (by rw [this]; simp only [List.mem_append]; exact Or.inl hd)⟩
        show l = m ++ 13 :: 10 :: b
        rw [h1, this]; simp
theorem lineM_of (m b : Bs) (hm : m.length ≤ 2000) (h : ∀ d ∈ m, d ≠ 10) : lineM (m ++ 13 :: 10 :: b) = (m, b, 0) := by
  unfold lineM
  rw [show m ++ 13 :: 10 :: b = (m ++ [13]) ++ 10 :: b by simp, cutAt_of 10 b _ (by
    intro d hd
    rcases List.mem_append.1 hd with hd | hd
    · exact h d hd
    · rw [List.mem_singleton.1 hd]; decide)]
  simp only
  rw [unend_of]
  simp only
  rw [if_neg (by omega)]
end Go.Proofs.YtmmbedlegmbppaaDoor.R
