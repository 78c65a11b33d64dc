/- Chunks: lines, sizes, and bodies, as the program reads and writes them. -/
import Derived.Test.YtmmbedlegmbppaaDoorPPar6
import Derived.Lib.SlTrimSet
namespace Go.Proofs.YtmmbedlegmbppaaDoor.R
open Go Go.RowKit
set_option linter.unusedSimpArgs false
set_option linter.unusedVariables false
theorem hassuf_is (c : UInt8) (a : Bs) (ha : a.length ≤ 1000000) (k : Nat) : strings_HasSuffix.f k (B a, B [c]) = some (unend c a).isSome := by
  unfold strings_HasSuffix.f internal_stringslite_HasSuffix.f
  simp only [B_len]
  rw [show ((([c] : Bs).length : Nat) : Int) = ((1 : Nat) : Int) from rfl, leI_nat]
  rcases List.eq_nil_or_concat a with rfl | ⟨m, d, rfl⟩
  · rfl
  · rw [List.concat_eq_append] at *
    have hlen : (m ++ [d]).length = m.length + 1 := by simp
    have e1 : subI .i64 ((m ++ [d]).length : Int) ((1 : Nat) : Int) = (m.length : Int) := by rw [sub64 (by omega) (by omega)]; omega
    rw [decide_eq_true (by omega), ifO_true, e1, boundB_yes (Nat.le_refl _), boundB_yes (by omega), show andB true true = true from rfl, ifO_true, B_cut, List.take_of_length_le (Nat.le_refl _), List.drop_left' rfl, B_eq, bindO_some]
    by_cases hd : d = c
    · subst hd; rw [unend_of]; simp
    · rw [unend_ne c d m hd]; simp [hd]
theorem cline_is (l : Bs) (hl : l.length ≤ 1000000) (k : Nat) : chunk_line.f k (B l) = some (B (lineM l).1, B (lineM l).2.1, (lineM l).2.2) := by
  unfold chunk_line.f
  rw [show (⟨#[10]⟩ : ByteArray) = B [10] from rfl, show (⟨#[13]⟩ : ByteArray) = B [13] from rfl, cut_is l hl, bindO_some]
  unfold lineM
  cases hc : cutAt 10 l with
  | none =>
    dsimp only
    rw [show notB false = true from rfl, ifO_true, B_len, show ltI 2002 (l.length : Int) = decide (2002 < l.length) from ltI_nat 2002 _]
    by_cases h : 2002 < l.length
    · rw [decide_eq_true h, ifO_true, if_pos h]; rfl
    · rw [decide_eq_false h, ifO_false, ifO_true, if_neg h]; rfl
  | some p =>
    obtain ⟨a, b⟩ := p
    obtain ⟨h1, h2⟩ := cutAt_some hc
    have hlen : l.length = a.length + (b.length + 1) := by rw [h1]; simp
    dsimp only
    rw [show notB true = false from rfl, ifO_false, ifO_false, hassuf_is 13 a (by omega), bindO_some]
    cases hu : unend 13 a with
    | none => rfl
    | some m =>
      have ham := unend_some hu
      have hal : a.length = m.length + 1 := by rw [ham]; simp
      dsimp only [Option.isSome]
      rw [show notB true = false from rfl, ifO_false, B_len, show ltI 2001 (a.length : Int) = decide (2001 < a.length) from ltI_nat 2001 _]
      by_cases h : 2000 < m.length
      · rw [decide_eq_true (by omega), ifO_true, if_pos h]; rfl
      · rw [decide_eq_false (by omega), ifO_false, if_neg h]
        unfold chunk_line.j2
        simp only [B_len]
        have e1 : subI .i64 (a.length : Int) 1 = (m.length : Int) := by rw [sub64 (by omega) (by omega)]; omega
        rw [e1, boundB_yes (by omega), show boundB 0 (m.length : Int) = true from boundB_yes (i := 0) (Nat.zero_le _), show andB true true = true from rfl, ifO_true]
        rw [show cutS (B a) 0 (m.length : Int) = B ((a.take m.length).drop 0) from B_cut a 0 m.length, List.drop_zero, ham, List.take_left' rfl]
/-! ### sizes -/
def hexC (c : UInt8) : Bool := (hexB c).isSome
def hexSet : Bs := [48, 49, 50, 51, 52, 53, 54, 55, 56, 57, 97, 98, 99, 100, 101, 102, 65, 66, 67, 68, 69, 70]
theorem hexSet_is (c : UInt8) : hexSet.contains c = hexC c := by
  have := byte_all (fun c => hexSet.contains c == hexC c) (by decide +kernel) c
  exact eq_of_beq this
theorem blankSet_is (c : UInt8) : ([32, 9] : Bs).contains c = blankB c := by
  have := byte_all (fun c => ([32, 9] : Bs).contains c == blankB c) (by decide +kernel) c
  exact eq_of_beq this
theorem hexL_some : ∀ (l : Bs) (acc : Nat), l.all hexC = true → ∃ n, hexL acc l = some n
  | [], acc, _ => ⟨acc, rfl⟩
  | c :: r, acc, h => by
    rw [List.all_cons, Bool.and_eq_true] at h
    obtain ⟨d, hd⟩ := Option.isSome_iff_exists.1 h.1
    obtain ⟨n, hn⟩ := hexL_some r (acc * 16 + d) h.2
    exact ⟨n, by unfold hexL; rw [hd]; exact hn⟩
theorem hexL_snoc : ∀ (l : Bs) (acc n d : Nat) (c : UInt8), hexL acc l = some n → hexB c = some d → hexL acc (l ++ [c]) = some (n * 16 + d)
  | [], acc, n, d, c, h, hc => by
    obtain rfl := Option.some.inj h
    show hexL acc [c] = _
    unfold hexL
    rw [hc]; rfl
  | x :: r, acc, n, d, c, h, hc => by
    unfold hexL at h
    show hexL acc (x :: (r ++ [c])) = _
    unfold hexL
    cases hx : hexB x with
    | none => rw [hx] at h; cases h
    | some e =>
      rw [hx] at h
      exact hexL_snoc r _ n d c h hc
def sizeM (l : Bs) : Option Nat :=
  if 1 ≤ (l.takeWhile hexC).length ∧ (l.takeWhile hexC).length ≤ 8 then
    (if l.dropWhile hexC = [] then hexL 0 (l.takeWhile hexC) else match (l.dropWhile hexC).dropWhile blankB with
      | [] => none
      | c :: m => if c = 59 ∧ txtB (strip m) = true then hexL 0 (l.takeWhile hexC) else none)
  else none
theorem tw_all {p : UInt8 → Bool} : ∀ l : Bs, (l.takeWhile p).all p = true
  | [] => rfl
  | c :: l => by
    rw [List.takeWhile_cons]
    split
    · rename_i h; rw [List.all_cons, h, tw_all l]; rfl
    · rfl
theorem tw_len (p : UInt8 → Bool) (l : Bs) : (l.takeWhile p).length + (l.dropWhile p).length = l.length := by
  rw [← List.length_append, List.takeWhile_append_dropWhile]
theorem take_tw (p : UInt8 → Bool) (l : Bs) : l.take (l.takeWhile p).length = l.takeWhile p := (List.prefix_iff_eq_take.1 (List.takeWhile_prefix _)).symm
theorem drop_tw (p : UInt8 → Bool) (l : Bs) : l.drop (l.takeWhile p).length = l.dropWhile p := by
  have := List.takeWhile_append_dropWhile (p := p) (l := l)
  generalize l.takeWhile p = a at *
  generalize l.dropWhile p = b at *
  subst this
  rw [List.drop_left' rfl]
def sizeR (m : Int) (l : Bs) : Int × Bool := match sizeM l with
  | some n => ((n : Int), true)
  | none => (m, false)
def cutpR (c : UInt8) (l : Bs) : ByteArray × Bool := match l with
  | [] => (B [], false)
  | d :: r => if d = c then (B r, true) else (B (d :: r), false)
theorem cutp_is (c : UInt8) (l : Bs) (hl : l.length ≤ 1000000) (k : Nat) : strings_CutPrefix.f k (B l, B [c]) = some (cutpR c l) := by
  unfold strings_CutPrefix.f internal_stringslite_CutPrefix.f internal_stringslite_HasPrefix.f
  simp only [B_len]
  rw [show ((([c] : Bs).length : Nat) : Int) = ((1 : Nat) : Int) from rfl, leI_nat]
  cases l with
  | nil => rfl
  | cons d r =>
    rw [decide_eq_true (by simp), ifO_true, boundB_yes (show 1 ≤ (d :: r).length by simp), show boundB 0 ((1 : Nat) : Int) = true from rfl, show andB true true = true from rfl, ifO_true, show cutS (B (d :: r)) 0 ((1 : Nat) : Int) = B [d] from B_cut (d :: r) 0 1, B_eq, bindO_some]
    by_cases h : d = c
    · subst h
      rw [decide_eq_true rfl, ifO_no (show notB true = false from rfl), boundB_yes (Nat.le_refl _), show andB true true = true from rfl, ifO_true, bindO_some, B_cut, List.take_length]
      show _ = some (if d = d then (B r, true) else _)
      rw [if_pos rfl, List.drop_succ_cons, List.drop_zero]
    · rw [decide_eq_false (by simpa using h), ifO_yes (show notB false = true from rfl), bindO_some]
      show _ = some (if d = c then _ else (B (d :: r), false))
      rw [if_neg h]
theorem trimH_is (l : Bs) (k : Nat) : x_TrimLeft.f k (B l, (⟨#[48, 49, 50, 51, 52, 53, 54, 55, 56, 57, 97, 98, 99, 100, 101, 102, 65, 66, 67, 68, 69, 70]⟩ : ByteArray)) = some (B (l.dropWhile hexC)) := by
  unfold x_TrimLeft.f
  rw [if_pos (show asciiN (⟨#[48, 49, 50, 51, 52, 53, 54, 55, 56, 57, 97, 98, 99, 100, 101, 102, 65, 66, 67, 68, 69, 70]⟩ : ByteArray).data.toList = true ∧ (⟨#[48, 49, 50, 51, 52, 53, 54, 55, 56, 57, 97, 98, 99, 100, 101, 102, 65, 66, 67, 68, 69, 70]⟩ : ByteArray).size < 4294967281 from ⟨rfl, show 22 < 4294967281 by omega⟩), B_data]
  unfold Lib.trimLeftS B
  congr 4
  exact funext hexSet_is
theorem trimB_is (l : Bs) (k : Nat) : x_TrimLeft.f k (B l, (⟨#[32, 9]⟩ : ByteArray)) = some (B (l.dropWhile blankB)) := by
  unfold x_TrimLeft.f
  rw [if_pos (show asciiN (⟨#[32, 9]⟩ : ByteArray).data.toList = true ∧ (⟨#[32, 9]⟩ : ByteArray).size < 4294967281 from ⟨rfl, show 2 < 4294967281 by omega⟩), B_data]
  unfold Lib.trimLeftS B
  congr 4
  exact funext blankSet_is
theorem pint_is (d : Bs) (n : Nat) (h1 : 1 ≤ d.length) (h8 : d.length ≤ 8) (hn : hexL 0 d = some n) (k : Nat) : x_ParseInt.f k (B d, ((16 : Int), (64 : Int))) = some ((n : Int), true) := by
  unfold x_ParseInt.f
  rw [if_pos (show 1 ≤ (B d).size ∧ (B d).size ≤ 8 ∧ (16 : Int) = 16 ∧ (64 : Int) = 64 from ⟨by rw [B_size]; omega, by rw [B_size]; omega, rfl, rfl⟩), B_data, hn]
theorem csize_is (l : Bs) (hl : l.length ≤ 1000000) (k : Nat) : ∃ m : Int, chunk_size.f k (B l) = some (sizeR m l) := by
  have hw := tw_len hexC l
  have ht := take_tw hexC l
  have ha := tw_all (p := hexC) l
  unfold chunk_size.f
  rw [trimH_is, bindO_some]
  unfold sizeR sizeM
  generalize hr : l.dropWhile hexC = r at *
  generalize hd : l.takeWhile hexC = d at *
  simp only [B_len]
  have e1 : subI .i64 (l.length : Int) (r.length : Int) = (d.length : Int) := by rw [sub64 (by omega) (by omega)]; omega
  simp only [e1]
  rw [show ltI (d.length : Int) 1 = decide (d.length < 1) from ltI_nat _ 1, show ltI 8 (d.length : Int) = decide (8 < d.length) from ltI_nat 8 _]
  by_cases h1 : d.length < 1
  · exact ⟨0, by rw [decide_eq_true h1, ifO_true, if_neg (show ¬(1 ≤ d.length ∧ d.length ≤ 8) by omega)]⟩
  rw [decide_eq_false h1, ifO_false]
  by_cases h8 : 8 < d.length
  · exact ⟨0, by rw [decide_eq_true h8, ifO_true, if_neg (show ¬(1 ≤ d.length ∧ d.length ≤ 8) by omega)]⟩
  obtain ⟨n, hn⟩ := hexL_some d 0 ha
  have h18 : 1 ≤ d.length ∧ d.length ≤ 8 := by omega
  refine ⟨(n : Int), ?_⟩
  rw [decide_eq_false h8, ifO_false, if_pos h18, boundB_yes (show d.length ≤ l.length by omega), show boundB 0 (d.length : Int) = true from boundB_yes (i := 0) (Nat.zero_le _), show andB true true = true from rfl, ifO_true]
  rw [show cutS (B l) 0 (d.length : Int) = B ((l.take d.length).drop 0) from B_cut l 0 d.length, List.drop_zero, ht, pint_is d n h18.1 h18.2 hn, bindO_some, show (⟨#[]⟩ : ByteArray) = B [] from rfl, B_eq, hn]
  by_cases hr0 : r = []
  · rw [decide_eq_true hr0, ifO_true, if_pos hr0]
  rw [decide_eq_false hr0, ifO_false, if_neg hr0, trimB_is, bindO_some]
  have hrl : (r.dropWhile blankB).length ≤ r.length := (List.dropWhile_suffix _).length_le
  rw [show (⟨#[59]⟩ : ByteArray) = B [59] from rfl, cutp_is 59 _ (by omega), bindO_some]
  cases hq : r.dropWhile blankB with
  | nil => rfl
  | cons c m =>
    rw [hq] at hrl
    simp only [List.length_cons] at hrl
    dsimp only [cutpR]
    by_cases hc : c = 59
    · have hsl := strip_le m
      rw [if_pos hc, ifO_true, trim_is m (by omega), bindO_some, text_is _ (by omega), bindO_some]
      cases htx : txtB (strip m) with
      | true => rw [if_pos (show c = 59 ∧ true = true from ⟨hc, rfl⟩)]
      | false => rw [if_neg (show ¬(c = 59 ∧ false = true) by simp)]
    · rw [if_neg hc, ifO_false, if_neg (show ¬(c = 59 ∧ txtB (strip m) = true) from fun h => hc h.1)]
end Go.Proofs.YtmmbedlegmbppaaDoor.R
