/- Tokens, texts, blanks and letters: the program's and the document's are one. -/
import Derived.Test.YtmmbedlegmbppaaDoorPLow
import Derived.Test.YtmmbedlegmbppaaDoorPTrim
namespace Go.Proofs.YtmmbedlegmbppaaDoor.R
open Go Go.RowKit
set_option linter.unusedSimpArgs false
set_option linter.unusedVariables false
def tokB (l : Bs) : Bool := if l = [] then false else l.all X.isTchar
def txtB (l : Bs) : Bool := if l.all X.isText = true then decide (strip l = l) else false
theorem token_is (l : Bs) (h : l.length ≤ 9223372036854775807) (k : Nat) : ascii_Token.f k (B l) = some (tokB l) := by
  unfold ascii_Token.f X.ascii_Token.f tokB
  rw [B_size, if_pos h, B_toList]
  unfold X.allB
  rw [B_data]
theorem trim_is (l : Bs) (h : l.length ≤ 9223372036854775807) (k : Nat) : ascii_Trim.f k (B l) = some (B (strip l)) := by
  unfold ascii_Trim.f X.ascii_Trim.f
  rw [B_size, if_pos h, show Lib.trimF X.isBlank (B l) = B (strip l) from trim_eq l]
theorem text_is (l : Bs) (h : l.length ≤ 9223372036854775807) (k : Nat) : ascii_Text.f k (B l) = some (txtB l) := by
  unfold ascii_Text.f X.ascii_Text.f txtB
  rw [B_size, if_pos h, show Lib.trimF X.isBlank (B l) = B (strip l) from trim_eq l, B_toList, B_toList]
  unfold X.allB
  rw [B_data]
  congr 1
  by_cases hb : l.all X.isText = true
  · rw [if_pos hb, if_pos hb, Bool.eq_iff_iff, beq_iff_eq, decide_eq_true_eq]
  · rw [if_neg hb, if_neg hb]
/-! ### the document's -/
theorem r1blank (c : UInt8) (k : Nat) : ref01_blank.f k (c.toNat : Int) = some (blankB c) := by
  unfold ref01_blank.f blankB X.isBlank
  rw [show eqI (c.toNat : Int) 32 = decide (c.toNat = 32) by rw [eqI_dec]; congr 1; simp; omega, show eqI (c.toNat : Int) 9 = decide (c.toNat = 9) by rw [eqI_dec]; congr 1; simp; omega, ifO_dec]
  by_cases h : c.toNat = 32
  · rw [if_pos h]; simp [h]
  · rw [if_neg h]; simp [h]
theorem strip_cons (c : UInt8) (r : Bs) (h : blankB c = true) : strip (c :: r) = strip r := by
  unfold strip; rw [List.dropWhile_cons, if_pos h]
theorem dw_stop (c : UInt8) (r : Bs) (h : blankB c = false) : (c :: r).dropWhile blankB = c :: r := by
  rw [List.dropWhile_cons, h]; rfl
theorem strip_last (m : Bs) (c d : UInt8) (h : blankB c = false) (hd : blankB d = true) : strip (c :: m ++ [d]) = strip (c :: m) := by
  unfold strip
  rw [List.cons_append, dw_stop c _ h, dw_stop c _ h, ← List.cons_append, nbEnd_blank _ _ hd]
  exact List.take_append_of_le_length (nbEnd_le _)
theorem strip_full (m : Bs) (c d : UInt8) (h : blankB c = false) (hd : blankB d = false) (hm : ∃ p, c :: m = p ++ [d]) : strip (c :: m) = c :: m := by
  obtain ⟨p, hp⟩ := hm
  unfold strip
  rw [dw_stop c _ h, hp, nbEnd_stop _ _ hd]
  exact List.take_of_length_le (by simp)
theorem strip_le (l : Bs) : (strip l).length ≤ l.length := by
  unfold strip
  rw [List.length_take]
  have : (l.dropWhile blankB).length ≤ l.length := (List.dropWhile_suffix _).length_le
  omega
theorem cut_head (c : UInt8) (r : Bs) : cutS (B (c :: r)) 1 (lenS (B (c :: r))) = B r := by
  rw [B_len]
  refine (B_cut (c :: r) 1 (c :: r).length).trans ?_
  rw [List.take_of_length_le (by simp)]; rfl
theorem r1trim_r : ∀ (n : Nat) (l : Bs) (k : Nat), l.length ≤ 100000000 → l.length + 1 ≤ n → ref01_Trim.r n k (B l) = some (B (strip l)) := by
  intro n
  induction n with
  | zero => intro l k _ h; omega
  | succ n ih =>
    intro l k h1 hk
    show ref01_Trim.g (ref01_Trim.r n) k (B l) = _
    unfold ref01_Trim.g ref01_Trim.j2 ref01_Trim.j5
    simp only [ltD, ifO_dec]
    cases l with
    | nil => rfl
    | cons c r =>
      simp only [List.length_cons] at hk h1
      have hsz : lenS (B (c :: r)) = ((r.length + 1 : Nat) : Int) := by rw [B_len]; rfl
      have hb0 : btI (B (c :: r)) 0 = (c.toNat : Int) := B_at (l := c :: r) (i := 0) (by simp)
      have hin : inB 0 (lenS (B (c :: r))) = true := by rw [hsz]; exact inB_yes (i := 0) (by omega)
      have hbd : andB (boundB (lenS (B (c :: r))) (lenS (B (c :: r)))) (boundB 1 (lenS (B (c :: r)))) = true := by
        rw [hsz, boundB_yes (Nat.le_refl _), show boundB 1 ((r.length + 1 : Nat) : Int) = true from boundB_yes (i := 1) (by omega)]; rfl
      rw [if_pos (by rw [hsz]; omega), hin, ifO_true, hb0, r1blank, bindO_some, hbd, ifO_true, cut_head, if_pos (by rw [hsz]; omega)]
      by_cases hc : blankB c = true
      · rw [ifO_yes hc, ih r k (by omega) (by omega), bindO_some, strip_cons c r hc]
      · have hcf : blankB c = false := by simpa using hc
        obtain ⟨p, d, hp⟩ : ∃ p d, c :: r = p ++ [d] := ⟨(c :: r).dropLast, (c :: r).getLast (by simp), (List.dropLast_concat_getLast (by simp)).symm⟩
        have hpl : p.length = r.length := by have := congrArg List.length hp; simp at this; omega
        have e1 : subI .i64 (lenS (B (c :: r))) 1 = (r.length : Int) := by rw [hsz, sub64 (by omega) (by omega)]; omega
        have hbl : btI (B (c :: r)) (r.length : Int) = (d.toNat : Int) := by
          rw [B_at (l := c :: r) (i := r.length) (by simp)]
          congr 1
          simp only [hp, ← hpl]
          rw [List.getElem_append_right (by omega)]; simp
        rw [ifO_no hcf, e1, show inB (r.length : Int) (lenS (B (c :: r))) = true by rw [hsz]; exact inB_yes (by omega), ifO_true, hbl, r1blank, bindO_some]
        rw [show andB (boundB (r.length : Int) (lenS (B (c :: r)))) (boundB 0 (r.length : Int)) = true by rw [hsz, boundB_yes (i := r.length) (by omega), show boundB 0 (r.length : Int) = true from boundB_yes (i := 0) (by omega)]; rfl, ifO_true]
        have ec : cutS (B (c :: r)) 0 (r.length : Int) = B p := by
          refine (B_cut (c :: r) 0 r.length).trans ?_
          rw [List.drop_zero, hp, ← hpl, List.take_left']
          rfl
        rw [ec]
        by_cases hd : blankB d = true
        · rw [ifO_yes hd, ih p k (by omega) (by omega), bindO_some]
          cases p with
          | nil => simp at hp; obtain ⟨rfl, _⟩ := hp; rw [hcf] at hd; cases hd
          | cons c' m =>
            obtain ⟨rfl, rfl⟩ : c = c' ∧ r = m ++ [d] := by simpa using hp
            rw [← strip_last m c d hcf hd]; rfl
        · have hdf : blankB d = false := by simpa using hd
          rw [ifO_no hdf, strip_full r c d hcf hdf ⟨p, hp⟩]
theorem r1trim (l : Bs) (h : l.length ≤ 1000000) (k : Nat) (hk : l.length + 1 ≤ k) : ref01_Trim.f k (B l) = some (B (strip l)) := r1trim_r k l k (by omega) hk
theorem r1letter_all : ∀ n : Fin 256, ref01_Tchar.f 20 (n.val : Int) = some (X.isTchar (UInt8.ofNat n.val)) := by decide +kernel
theorem r1tchar (c : UInt8) (k : Nat) (hk : 20 ≤ k) : ref01_Tchar.f k (c.toNat : Int) = some (X.isTchar c) := by
  have h := r1letter_all ⟨c.toNat, c.toNat_lt⟩
  simp only [UInt8.ofNat_toNat] at h
  refine iter_up (f := ref01_Tchar.l0b k) ?_ 20 k _ _ h hk
  intro r r' v x hr
  unfold ref01_Tchar.l0b
  unfold ifO
  split
  · split
    · split
      · exact id
      · exact hr _ _
    · exact id
  · exact id
theorem r1token (l : Bs) (hl : l.length ≤ 1000000) (k : Nat) (hk : l.length + 1 < k) (hk' : 20 ≤ k) : ref01_Token.f k (B l) = some (tokB l) := by
  unfold ref01_Token.f ref01_Token.l0
  refine iter_eq (f := ref01_Token.l0b k) (fun v => v.1 = B l ∧ ∃ i : Nat, v.2 = (i : Int) ∧ i ≤ l.length ∧ (l.take i).all X.isTchar = true) (fun v => (l.length + 1 - v.2).toNat) (fun _ => some (tokB l)) ?_ k _ ⟨rfl, 0, rfl, Nat.zero_le _, rfl⟩ (by show ((l.length : Int) + 1 - 0).toNat < k; omega)
  rintro r ⟨s, i'⟩ ⟨h1, i, h3, hi, h7⟩ hr
  simp only at h1 h3
  subst h1; subst h3
  unfold ref01_Token.l0b
  simp only [B_len, ltI_nat, inB_nat, ifO_dec]
  by_cases h : i < l.length
  · rw [if_pos h, if_pos h, B_at h, r1tchar _ k hk', bindO_some]
    cases hc : X.isTchar l[i] with
    | false =>
      show ifO true _ _ = _
      rw [ifO_true]
      have : l.all X.isTchar = false := List.all_eq_false.2 ⟨l[i], List.getElem_mem h, by rw [hc]; decide⟩
      unfold tokB
      rw [this]; split <;> rfl
    | true =>
      show ifO false _ _ = _
      rw [ifO_false, next64 (by omega)]
      refine hr _ ⟨rfl, i + 1, rfl, h, ?_⟩ (by show ((l.length : Int) + 1 - ((i + 1 : Nat) : Int)).toNat < ((l.length : Int) + 1 - (i : Int)).toNat; omega)
      rw [List.take_add_one, List.getElem?_eq_getElem h, List.all_append, h7]
      simp [hc]
  · rw [if_neg h]
    rw [List.take_of_length_le (by omega)] at h7
    rw [show ltI 0 (l.length : Int) = decide (0 < l.length) from ltI_nat 0 _]
    unfold tokB
    rw [h7]
    cases l with
    | nil => rfl
    | cons c l => rw [if_neg (by simp)]; simp
theorem isText_iff (c : UInt8) : X.isText c = true ↔ (c.toNat = 9 ∨ (32 ≤ c.toNat ∧ ¬ c.toNat = 127)) := by unfold X.isText; simp
end Go.Proofs.YtmmbedlegmbppaaDoor.R
