/- Cutting blanks off a text's ends: the library's way over runes is the plain way over bytes. -/
import Derived.Test.YtmmbedlegmbppaaDoorX3
import Derived.Test.YtmmbedlegmbppaaDoorR25
import Derived.Shelf.Unicode.DecodeLast
import Derived.Lib.TrimU
namespace Go.Proofs.YtmmbedlegmbppaaDoor.R
open Go.RowKit Go.Lib
set_option linter.unusedSimpArgs false
set_option linter.unusedVariables false
theorem dn_high (n b0 b1 b2 b3 : Nat) (h : 128 ≤ b0) : 128 ≤ (decodeN n b0 b1 b2 b3).1 := by
  unfold decodeN
  repeat' split
  all_goals (simp only; omega)
theorem dn_low (n b0 b1 b2 b3 : Nat) (h : b0 < 128) : decodeN n b0 b1 b2 b3 = (b0, 1) := by unfold decodeN; rw [if_pos h]
theorem dn_ext (n m b0 b1 b2 b3 c1 c2 c3 : Nat) (h : 128 ≤ b0) (hn : 1 ≤ n) (hm : n ≤ m) (h1 : 1 < n → c1 = b1) (h2 : 2 < n → c2 = b2) (h3 : 3 < n → c3 = b3) (hw : (decodeN n b0 b1 b2 b3).2 = n) (hx : n = 1 → m = 1 ∨ c1 < 128) :
    (decodeN m b0 c1 c2 c3).2 = n := by
  have hle : n ≤ 4 := by
    rw [← hw]; unfold decodeN
    repeat' split
    all_goals (simp only; omega)
  have hcs : n = 1 ∨ n = 2 ∨ n = 3 ∨ n = 4 := by omega
  rcases hcs with rfl | rfl | rfl | rfl
  · have := hx rfl
    unfold decodeN
    rw [if_neg (by omega), if_neg (by omega), if_neg (by omega), if_neg (by omega)]
  · obtain rfl := h1 (by omega)
    unfold decodeN at hw ⊢
    rw [if_neg (by omega)] at hw ⊢
    by_cases a : b0 / 32 = 6 ∧ (1 < 2 ∧ c1 / 64 = 2)
    · rw [if_pos a] at hw; rw [if_pos ⟨a.1, by omega, a.2.2⟩]; exact hw
    · rw [if_neg a, if_neg (by omega), if_neg (by omega)] at hw; simp at hw
  · obtain rfl := h1 (by omega)
    obtain rfl := h2 (by omega)
    unfold decodeN at hw ⊢
    rw [if_neg (by omega)] at hw ⊢
    by_cases a : b0 / 32 = 6 ∧ (1 < 3 ∧ c1 / 64 = 2)
    · rw [if_pos a] at hw; split at hw <;> simp at hw
    · rw [if_neg a] at hw
      rw [if_neg (by omega)]
      by_cases b : b0 / 16 = 14 ∧ (1 < 3 ∧ c1 / 64 = 2) ∧ (2 < 3 ∧ c2 / 64 = 2)
      · rw [if_pos b] at hw; rw [if_pos ⟨b.1, ⟨by omega, b.2.1.2⟩, by omega, b.2.2.2⟩]; exact hw
      · rw [if_neg b, if_neg (by omega)] at hw; simp at hw
  · obtain rfl := h1 (by omega)
    obtain rfl := h2 (by omega)
    obtain rfl := h3 (by omega)
    unfold decodeN at hw ⊢
    rw [if_neg (by omega)] at hw ⊢
    by_cases a : b0 / 32 = 6 ∧ (1 < 4 ∧ c1 / 64 = 2)
    · rw [if_pos a] at hw; split at hw <;> simp at hw
    · rw [if_neg a] at hw
      rw [if_neg (by omega)]
      by_cases b : b0 / 16 = 14 ∧ (1 < 4 ∧ c1 / 64 = 2) ∧ (2 < 4 ∧ c2 / 64 = 2)
      · rw [if_pos b] at hw; split at hw <;> simp at hw
      · rw [if_neg b] at hw
        rw [if_neg (by omega)]
        by_cases d : b0 / 8 = 30 ∧ (1 < 4 ∧ c1 / 64 = 2) ∧ (2 < 4 ∧ c2 / 64 = 2) ∧ (3 < 4 ∧ c3 / 64 = 2)
        · rw [if_pos d] at hw; rw [if_pos ⟨d.1, ⟨by omega, d.2.1.2⟩, ⟨by omega, d.2.2.1.2⟩, by omega, d.2.2.2.2⟩]; exact hw
        · rw [if_neg d] at hw; simp at hw
theorem B_get! (l : Bs) (i : Nat) : (B l).get! i = l.getD i 0 := by rw [← getD_get!, B_data]
theorem dec_at (l : Bs) (i : Nat) : Utf8.decode (B l) i = decodeN (l.length - i) (l.getD i 0).toNat (l.getD (i + 1) 0).toNat (l.getD (i + 2) 0).toNat (l.getD (i + 3) 0).toNat := by
  rw [decode_at, B_size, B_get!, B_get!, B_get!, B_get!]
def blankB (c : UInt8) : Bool := X.isBlank c.toNat
theorem blankB_low {c : UInt8} (h : blankB c = true) : c.toNat < 128 := by unfold blankB X.isBlank at h; simp at h; omega
theorem blank_high {n : Nat} (h : 128 ≤ n) : X.isBlank n = false := by unfold X.isBlank; simp; omega
/-- From the left. -/
theorem idx_from (l : Bs) : ∀ (f pos : Nat), l.length ≤ pos + f → idxFuncFrom X.isBlank false (B l) f pos = (if (l.drop pos).all blankB = true then -1 else ((pos + ((l.drop pos).takeWhile blankB).length : Nat) : Int)) := by
  intro f
  induction f with
  | zero =>
    intro pos h
    rw [List.drop_eq_nil_of_le (by omega)]; rfl
  | succ f ih =>
    intro pos h
    unfold idxFuncFrom
    rw [B_size]
    by_cases hp : pos < l.length
    · rw [if_pos hp, dec_at]
      have hg : l.getD pos 0 = l[pos] := by rw [List.getD_eq_getElem?_getD, List.getElem?_eq_getElem hp]; rfl
      rw [List.drop_eq_getElem_cons hp, hg]
      by_cases hb : blankB l[pos] = true
      · have hlow := blankB_low hb
        rw [dn_low _ _ _ _ _ hlow]
        have hbb : X.isBlank l[pos].toNat = true := hb
        simp only [hbb, Bool.true_eq_false, if_false]
        rw [ih (pos + 1) (by omega)]
        simp only [List.all_cons, hb, Bool.true_and, List.takeWhile_cons, if_true, List.length_cons]
        split
        · rfl
        · congr 1; omega
      · have hbf : blankB l[pos] = false := by simpa using hb
        have e : X.isBlank (decodeN (l.length - pos) l[pos].toNat (l.getD (pos + 1) 0).toNat (l.getD (pos + 2) 0).toNat (l.getD (pos + 3) 0).toNat).1 = false := by
          rcases Nat.lt_or_ge l[pos].toNat 128 with g | g
          · rw [dn_low _ _ _ _ _ g]; exact hbf
          · exact blank_high (dn_high _ _ _ _ _ g)
        rw [if_pos e]
        simp only [List.all_cons, hbf, Bool.false_and, List.takeWhile_cons, Bool.false_eq_true, if_false, List.length_nil, Nat.add_zero]
    · rw [if_neg hp, List.drop_eq_nil_of_le (by omega)]; rfl
theorem left_eq (l : Bs) : trimLeftF X.isBlank (B l) = B (l.dropWhile blankB) := by
  unfold trimLeftF idxFunc
  rw [B_size, idx_from l l.length 0 (by omega), List.drop_zero]
  by_cases h : l.all blankB = true
  · rw [if_pos h, if_pos rfl]
    have : l.dropWhile blankB = [] := by
      rw [List.all_eq_true] at h
      induction l with
      | nil => rfl
      | cons a l ih => rw [List.dropWhile_cons, if_pos (h a (by simp))]; exact ih (fun x hx => h x (by simp [hx]))
    rw [this]; rfl
  · rw [if_neg h, if_neg (by omega), Int.toNat_natCast, B_extract, List.take_of_length_le (by omega), Nat.zero_add]
    congr 1
    have e := (List.takeWhile_append_dropWhile (p := blankB) (l := l)).symm
    generalize l.takeWhile blankB = t at e ⊢
    generalize l.dropWhile blankB = d at e ⊢
    rw [e, List.drop_left]
/-- From the right: behind the last byte that is no blank. -/
def nbEnd (l : Bs) : Nat := ((l.reverse).dropWhile blankB).length
theorem last_high (l : Bs) (h0 : l ≠ []) (h : 128 ≤ (l.getD (l.length - 1) 0).toNat) : 128 ≤ (decodeLastL l).1 ∧ 1 ≤ (decodeLastL l).2 ∧ (decodeLastL l).2 ≤ l.length ∧
    ∀ R : Bs, (R = [] ∨ ∃ c r, R = c :: r ∧ c.toNat < 128) → (decodeGoB (B (l.drop (l.length - (decodeLastL l).2) ++ R))).2 = (decodeLastL l).2 := by
  have hpos : 0 < l.length := List.length_pos_iff.2 h0
  have hw := decodeLastL_width l hpos
  have hls := lastStart_lt l h0
  -- what the decoder tells of a list that begins with a high byte
  have dec : ∀ m : Bs, decodeL m = decodeN m.length (m.getD 0 0).toNat (m.getD 1 0).toNat (m.getD 2 0).toNat (m.getD 3 0).toNat := fun m => dec_at m 0
  have go : ∀ m : Bs, m ≠ [] → decodeGoB (B m) = decodeL m := by
    intro m hm
    unfold decodeGoB
    rw [B_size, if_neg (by have := List.length_pos_iff.2 hm; omega)]; rfl
  -- a piece that ends where it should: what follows it changes nothing
  have ext : ∀ (P R : Bs), P ≠ [] → 128 ≤ (P.getD 0 0).toNat → (decodeL P).2 = P.length → (R = [] ∨ ∃ c r, R = c :: r ∧ c.toNat < 128) → (decodeL (P ++ R)).2 = P.length := by
    intro P R hP hb hd hR
    have hPl := List.length_pos_iff.2 hP
    rw [dec] at hd ⊢
    have g : ∀ k, k < P.length → (P ++ R).getD k 0 = P.getD k 0 := by
      intro k hk
      rw [List.getD_eq_getElem?_getD, List.getD_eq_getElem?_getD, List.getElem?_append_left hk]
    rw [g 0 hPl]
    refine dn_ext P.length _ _ _ _ _ _ _ _ hb hPl (by rw [List.length_append]; omega) (fun h => by rw [g 1 h]) (fun h => by rw [g 2 h]) (fun h => by rw [g 3 h]) hd (fun h1 => ?_)
    rcases hR with rfl | ⟨c, r, rfl, hc⟩
    · left; simp [h1]
    · right
      rw [List.getD_eq_getElem?_getD, List.getElem?_append_right (by omega), h1]
      exact hc
  unfold decodeLastL
  rw [if_neg h0, if_neg (by omega)]
  simp only []
  by_cases hc : lastStart l + (decodeL (l.drop (lastStart l))).2 = l.length
  · rw [if_pos hc]
    have hPne : l.drop (lastStart l) ≠ [] := by
      intro e; have := congrArg List.length e; rw [List.length_drop, List.length_nil] at this; omega
    have hlen : (l.drop (lastStart l)).length = l.length - lastStart l := List.length_drop
    have hd : (decodeL (l.drop (lastStart l))).2 = (l.drop (lastStart l)).length := by omega
    have hb : 128 ≤ ((l.drop (lastStart l)).getD 0 0).toNat := by
      rcases Nat.lt_or_ge ((l.drop (lastStart l)).getD 0 0).toNat 128 with g | g
      · have e1 : (decodeL (l.drop (lastStart l))).2 = 1 := by rw [dec, dn_low _ _ _ _ _ g]
        have e2 : lastStart l = l.length - 1 := by omega
        rw [e2, List.getD_eq_getElem?_getD, List.getElem?_drop, Nat.add_zero, ← List.getD_eq_getElem?_getD] at g
        omega
      · exact g
    refine ⟨by rw [dec]; exact dn_high _ _ _ _ _ hb, by omega, by omega, fun R hR => ?_⟩
    rw [show l.length - (decodeL (l.drop (lastStart l))).2 = lastStart l by omega, go _ (by simp [hPne]), ext _ R hPne hb hd hR, hd]
  · rw [if_neg hc]
    refine ⟨by decide, Nat.le_refl _, hpos, fun R hR => ?_⟩
    have hlen : (l.drop (l.length - 1)).length = 1 := by rw [List.length_drop]; omega
    have hPne : l.drop (l.length - 1) ≠ [] := by intro e; rw [e] at hlen; cases hlen
    have hb : 128 ≤ ((l.drop (l.length - 1)).getD 0 0).toNat := by
      rw [List.getD_eq_getElem?_getD, List.getElem?_drop, Nat.add_zero, ← List.getD_eq_getElem?_getD]; exact h
    have hd : (decodeL (l.drop (l.length - 1))).2 = (l.drop (l.length - 1)).length := by
      rw [dec, hlen]
      unfold decodeN
      rw [if_neg (by omega), if_neg (by omega), if_neg (by omega), if_neg (by omega)]
    rw [go _ (by simp [hPne]), ext _ R hPne hb hd hR, hlen]
theorem drop_split (l : Bs) (a j : Nat) (h : j ≤ a) (ha : a ≤ l.length) : (l.take a).drop j ++ l.drop a = l.drop j := by
  rw [← List.drop_append_of_le_length (by rw [List.length_take]; omega), List.take_append_drop]
theorem take_succ' (l : Bs) (i : Nat) (hi : i < l.length) : l.take (i + 1) = l.take i ++ [l.getD i 0] := by
  rw [List.take_add_one, List.getElem?_eq_getElem hi, List.getD_eq_getElem?_getD, List.getElem?_eq_getElem hi]; rfl
theorem nbEnd_blank (l : Bs) (c : UInt8) (h : blankB c = true) : nbEnd (l ++ [c]) = nbEnd l := by
  unfold nbEnd; rw [List.reverse_append, List.reverse_cons, List.reverse_nil, List.nil_append, List.singleton_append, List.dropWhile_cons, if_pos h]
theorem nbEnd_stop (l : Bs) (c : UInt8) (h : blankB c = false) : nbEnd (l ++ [c]) = l.length + 1 := by
  unfold nbEnd; rw [List.reverse_append, List.reverse_cons, List.reverse_nil, List.nil_append, List.singleton_append, List.dropWhile_cons, h]; simp
theorem last_from (l : Bs) : ∀ (f i : Nat), i ≤ f → i ≤ l.length → (∀ c ∈ l.drop i, blankB c = true) →
    (lastIdxFuncFrom X.isBlank false (B l) f i = -1 ∧ nbEnd (l.take i) = 0) ∨ ∃ st : Nat, lastIdxFuncFrom X.isBlank false (B l) f i = st ∧ st + (decodeGoB ((B l).extract st l.length)).2 = nbEnd (l.take i) := by
  intro f
  induction f with
  | zero => intro i h1 _ _; obtain rfl : i = 0 := by omega
            exact .inl ⟨rfl, rfl⟩
  | succ f ih =>
    intro i hi hl hb
    cases i with
    | zero => left; unfold lastIdxFuncFrom; rw [if_neg (by omega)]; exact ⟨rfl, rfl⟩
    | succ i =>
      have hlt : i < l.length := by omega
      have hT := take_succ' l i hlt
      have hTl : (l.take (i + 1)).length = i + 1 := by rw [List.length_take]; omega
      have hlast : (l.take (i + 1)).getD ((l.take (i + 1)).length - 1) 0 = l.getD i 0 := by
        rw [hTl, Nat.add_sub_cancel, List.getD_eq_getElem?_getD, List.getD_eq_getElem?_getD, List.getElem?_take, if_pos (by omega)]
      have hTne : l.take (i + 1) ≠ [] := by intro e; rw [e] at hTl; cases hTl
      unfold lastIdxFuncFrom
      rw [if_pos (by omega), B_data]
      rcases Nat.lt_or_ge (l.getD i 0).toNat 128 with g | g
      · have hd : decodeLastL (l.take (i + 1)) = ((l.getD i 0).toNat, 1) := by
          unfold decodeLastL; rw [if_neg hTne, hlast, if_pos g]
        rw [hd]
        by_cases hbl : blankB (l.getD i 0) = true
        · have hbb : X.isBlank (l.getD i 0).toNat = true := hbl
          simp only [hbb, Bool.true_eq_false, if_false, Nat.add_sub_cancel]
          rw [hT, nbEnd_blank _ _ hbl]
          refine ih i (by omega) (by omega) ?_
          intro c hc
          rw [List.drop_eq_getElem_cons hlt] at hc
          rcases List.mem_cons.1 hc with rfl | hc
          · rw [List.getD_eq_getElem?_getD, List.getElem?_eq_getElem hlt] at hbl; exact hbl
          · exact hb c hc
        · have hbf : blankB (l.getD i 0) = false := by simpa using hbl
          have hbb : X.isBlank (l.getD i 0).toNat = false := hbf
          rw [if_pos hbb]
          right
          refine ⟨i, by simp, ?_⟩
          rw [hT, nbEnd_stop _ _ hbf, List.length_take, Nat.min_eq_left (by omega), B_extract, List.take_length, List.drop_eq_getElem_cons hlt]
          unfold decodeGoB
          rw [B_size, if_neg (by simp; omega), dec_at, dn_low]
          rw [List.getD_eq_getElem?_getD, List.getElem?_eq_getElem hlt] at g
          exact g
      · obtain ⟨a1, a2, a3, a4⟩ := last_high (l.take (i + 1)) hTne (by rw [hlast]; exact g)
        have hbf : blankB (l.getD i 0) = false := blank_high g
        rw [if_pos (blank_high a1)]
        right
        refine ⟨_, rfl, ?_⟩
        rw [hTl] at a3 a4
        have := a4 (l.drop (i + 1)) (by
          cases hR : l.drop (i + 1) with
          | nil => exact .inl rfl
          | cons c r => exact .inr ⟨c, r, rfl, blankB_low (hb c (by rw [hR]; simp))⟩)
        rw [drop_split l (i + 1) _ (by omega) (by omega)] at this
        rw [B_extract, List.take_length, this, hT, nbEnd_stop _ _ hbf, List.length_take, Nat.min_eq_left (by omega), ← hT]
        omega
theorem nbEnd_le (l : Bs) : nbEnd l ≤ l.length := by
  unfold nbEnd
  have h := (List.takeWhile_append_dropWhile (p := blankB) (l := l.reverse))
  have := congrArg List.length h
  rw [List.length_append, List.length_reverse] at this
  omega
theorem right_eq (l : Bs) : trimRightF X.isBlank (B l) = B (l.take (nbEnd l)) := by
  have h := last_from l l.length l.length (Nat.le_refl _) (Nat.le_refl _) (by rw [List.drop_length]; intro c hc; cases hc)
  rw [List.take_length] at h
  unfold trimRightF rightEndF lastIdxFunc
  rw [B_size]
  rcases h with ⟨h1, h2⟩ | ⟨st, h1, h2⟩
  · rw [h1, if_neg (by decide), h2, B_extract]; rfl
  · rw [h1, if_pos (by omega), Int.toNat_natCast, h2, B_extract, List.drop_zero]
def strip (l : Bs) : Bs := (l.dropWhile blankB).take (nbEnd (l.dropWhile blankB))
/-- What the library cuts off are the blanks. -/
theorem trim_eq (l : Bs) : trimF X.isBlank (B l) = B (strip l) := by
  unfold trimF; rw [left_eq, right_eq]; rfl
end Go.Proofs.YtmmbedlegmbppaaDoor.R
