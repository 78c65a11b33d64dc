/- Chunked bodies: what was written is read; cut off, it is too short. -/
import Derived.Test.YtmmbedlegmbppaaDoorPChk5
namespace Go.Proofs.YtmmbedlegmbppaaDoor.R
open Go Go.RowKit
set_option linter.unusedSimpArgs false
set_option linter.unusedVariables false
theorem hexd_B : ∀ m : Fin 16, hexB (hexd m.val) = some m.val ∧ hexd m.val ≠ 10 ∧ hexC (hexd m.val) = true := by decide +kernel
theorem hexS_all : ∀ (f n : Nat) (c : UInt8), c ∈ hexS f n → c ≠ 10 ∧ hexC c = true
  | 0, n, c, h => by cases h
  | f + 1, n, c, h => by
    unfold hexS at h
    split at h
    · rename_i h16
      rw [List.mem_singleton] at h
      subst h
      exact (hexd_B ⟨n, h16⟩).2
    · rw [List.mem_append, List.mem_singleton] at h
      rcases h with h | rfl
      · exact hexS_all f _ c h
      · exact (hexd_B ⟨n % 16, Nat.mod_lt _ (by omega)⟩).2
theorem hexS_short : ∀ (f n k : Nat), n < 16 ^ (k + 1) → (hexS f n).length ≤ k + 1
  | 0, n, k, h => by simp [hexS]
  | f + 1, n, k, h => by
    unfold hexS
    split
    · simp
    · cases k with
      | zero => simp only [Nat.zero_add, Nat.pow_one] at h; omega
      | succ k =>
        have := hexS_short f (n / 16) k (by rw [Nat.pow_succ] at h; omega)
        rw [List.length_append]; simpa using this
theorem hexS_pos (f n : Nat) : 1 ≤ (hexS (f + 1) n).length := by
  unfold hexS
  split <;> simp
theorem hexL_hexS : ∀ (f n : Nat), n < 16 ^ (f + 1) → hexL 0 (hexS (f + 1) n) = some n
  | 0, n, h => by
    have h16 : n < 16 := by simpa using h
    unfold hexS
    rw [if_pos h16]
    unfold hexL
    rw [(hexd_B ⟨n, h16⟩).1]
    show hexL (0 * 16 + n) [] = _
    unfold hexL
    rw [Nat.zero_mul, Nat.zero_add]
  | f + 1, n, h => by
    unfold hexS
    by_cases h16 : n < 16
    · rw [if_pos h16]
      unfold hexL
      rw [(hexd_B ⟨n, h16⟩).1]
      show hexL (0 * 16 + n) [] = _
      unfold hexL
      rw [Nat.zero_mul, Nat.zero_add]
    · rw [if_neg h16, hexL_snoc _ 0 (n / 16) (n % 16) _ (hexL_hexS f (n / 16) (by rw [Nat.pow_succ] at h; omega)) (hexd_B ⟨n % 16, Nat.mod_lt _ (by omega)⟩).1]
      congr 1; omega
theorem sizeM_hex (p : Nat) (hp : p ≤ 100000) : sizeM (hexS 9 p) = some p := by
  have ha : ∀ c ∈ hexS 9 p, hexC c = true := fun c h => (hexS_all 9 p c h).2
  have h1 : (hexS 9 p).takeWhile hexC = hexS 9 p := by
    have := List.takeWhile_append_of_pos (l₂ := []) ha
    simpa using this
  have h2 : (hexS 9 p).dropWhile hexC = [] := by
    have := List.dropWhile_append_of_pos (l₂ := []) ha
    simpa using this
  have h3 := hexS_short 9 p 7 (Nat.lt_of_le_of_lt hp (by decide))
  have h4 := hexS_pos 8 p
  unfold sizeM
  rw [h1, h2, if_pos ⟨h4, h3⟩, if_pos rfl]
  exact hexL_hexS 8 p (Nat.lt_of_le_of_lt hp (by decide))
def encB : Nat → Nat → Bs → Bs
  | 0, _, _ => []
  | f + 1, s, l => if l = [] then [] else (hexS 9 (min s l.length) ++ 13 :: 10 :: (l.take (min s l.length) ++ 13 :: 10 :: encB f s (l.drop (min s l.length))))
theorem encM_is (s : Nat) (hs : 1 ≤ s) : ∀ (f : Nat) (l out : Bs), l.length < f → encM f s l out = out ++ (encB f s l ++ [48, 13, 10, 13, 10])
  | 0, l, out, h => by omega
  | f + 1, l, out, h => by
    unfold encM encB
    by_cases h0 : l = []
    · rw [if_pos h0, if_pos h0]; rfl
    · have hpos : 1 ≤ l.length := by cases l with
        | nil => exact absurd rfl h0
        | cons c m => simp
      rw [if_neg h0, if_neg h0, encM_is s hs f _ _ (by rw [List.length_drop]; omega)]
      simp
theorem encB_len (s : Nat) (hs : 1 ≤ s) : ∀ (f : Nat) (l : Bs), (encB f s l).length ≤ 14 * l.length
  | 0, l => by simp [encB]
  | f + 1, l => by
    unfold encB
    by_cases h0 : l = []
    · rw [if_pos h0]; simp
    · have hpos : 1 ≤ l.length := by cases l with
        | nil => exact absurd rfl h0
        | cons c m => simp
      have hx := hexS_len 9 (min s l.length)
      have := encB_len s hs f (l.drop (min s l.length))
      rw [List.length_drop] at this
      rw [if_neg h0]
      simp only [List.length_append, List.length_cons, List.length_take]
      omega
/-- One chunk is read. -/
theorem dec_chunk (f L p : Nat) (t R body : Bs) (ht : t.length = p) (hp : 1 ≤ p) (hb : body.length + p ≤ 100000) :
    decM (f + 1) L (hexS 9 p ++ 13 :: 10 :: (t ++ 13 :: 10 :: R)) body = decM f L R (body ++ t) := by
  have hx := hexS_len 9 p
  conv => lhs; unfold decM
  rw [lineM_of _ _ (by omega) (fun d h => (hexS_all 9 p d h).1)]
  dsimp only
  rw [if_neg (by simp), sizeM_hex p (by omega)]
  dsimp only
  rw [if_neg (by omega), if_neg (by omega), if_neg (by simp only [List.length_append, List.length_cons]; omega)]
  have e1 : ((t ++ 13 :: 10 :: R).take (p + 2)).drop p = [13, 10] := by
    rw [show t ++ 13 :: 10 :: R = (t ++ [13, 10]) ++ R by simp, List.take_left' (by simp [ht]), List.drop_left' ht]
  have e2 : (t ++ 13 :: 10 :: R).drop (p + 2) = R := by
    rw [show t ++ 13 :: 10 :: R = (t ++ [13, 10]) ++ R by simp, List.drop_left' (by simp [ht])]
  rw [if_pos e1, e2, List.take_left' ht]
theorem dec_enc (s : Nat) (hs : 1 ≤ s) (L : Nat) (R : Bs) : ∀ (g : Nat) (l body : Bs) (f : Nat), l.length < g → (encB g s l ++ R).length < f → body.length + l.length ≤ 100000 → ∃ f', R.length < f' ∧ decM f L (encB g s l ++ R) body = decM f' L R (body ++ l)
  | 0, l, body, f, h, _, _ => by omega
  | g + 1, l, body, f, h, hf, hb => by
    unfold encB at hf ⊢
    by_cases h0 : l = []
    · rw [if_pos h0] at hf ⊢
      exact ⟨f, hf, by rw [h0, List.append_nil]; rfl⟩
    · have hpos : 1 ≤ l.length := by cases l with
        | nil => exact absurd rfl h0
        | cons c m => simp
      rw [if_neg h0] at hf ⊢
      have hp1 : 1 ≤ min s l.length := by omega
      have hp2 : min s l.length ≤ l.length := by omega
      generalize min s l.length = p at *
      have htk : (l.take p).length = p := by rw [List.length_take]; omega
      obtain ⟨f, rfl⟩ : ∃ j, f = j + 1 := ⟨f - 1, by omega⟩
      have ha : hexS 9 p ++ 13 :: 10 :: (l.take p ++ 13 :: 10 :: encB g s (l.drop p)) ++ R = hexS 9 p ++ 13 :: 10 :: (l.take p ++ 13 :: 10 :: (encB g s (l.drop p) ++ R)) := by simp
      rw [ha] at hf ⊢
      rw [dec_chunk f L p (l.take p) _ body htk hp1 (by omega)]
      obtain ⟨f', h1, h2⟩ := dec_enc s hs L R g (l.drop p) (body ++ l.take p) f (by rw [List.length_drop]; omega) (by simp only [List.length_append, List.length_cons] at hf ⊢; omega) (by rw [List.length_append, htk, List.length_drop]; omega)
      exact ⟨f', h1, by rw [h2, List.append_assoc, List.take_append_drop]⟩
theorem parse_none (more : Bs) : parseV (13 :: 10 :: more) = ([], 2, 0) := by
  unfold parseV
  have e : lineM (13 :: 10 :: more) = ([], more, 0) := lineM_of [] more (by simp) (by simp)
  unfold parseM
  rw [e]
  dsimp only
  rw [if_neg (by simp), if_pos rfl]
  unfold parseR
  dsimp only
  rw [if_pos rfl]
  simp only [List.length_cons]
  rw [show more.length + 1 + 1 - more.length = 2 by omega]
  rfl
theorem dec_end (f L : Nat) (more body : Bs) (hb : body.length ≤ 100000) : decM (f + 1) L (48 :: 13 :: 10 :: 13 :: 10 :: more) body = (B body, ((L - (more.length + 2) : Nat) : Int) + 2, 0) := by
  unfold decM
  have e : lineM (48 :: 13 :: 10 :: 13 :: 10 :: more) = ([48], 13 :: 10 :: more, 0) := lineM_of [48] (13 :: 10 :: more) (by simp) (by simp)
  rw [e]
  dsimp only
  rw [if_neg (by simp), show sizeM [48] = some 0 from rfl]
  dsimp only
  rw [if_neg (by omega), if_pos rfl, parse_none]
  dsimp only
  rw [if_neg (by simp)]
  simp
/-- A text without a line's end is too short. -/
theorem lineM_short (l : Bs) (h : ∀ d ∈ l, d ≠ 10) (hl : l.length ≤ 2002) : lineM l = ([], [], 3) := by
  unfold lineM
  rw [cutAt_no 10 l h]
  dsimp only
  rw [if_neg (by omega)]
theorem dec_short1 (f L : Nat) (l body : Bs) (h : ∀ d ∈ l, d ≠ 10) (hl : l.length ≤ 2002) : (decM (f + 1) L l body).2.2 = 3 := by
  unfold decM
  rw [lineM_short l h hl, if_pos (by simp)]
theorem parse_short (l : Bs) (h : ∀ d ∈ l, d ≠ 10) (hl : l.length ≤ 2002) : (parseV l).2.2 = 3 := by
  unfold parseV parseM
  rw [lineM_short l h hl, if_pos (by simp)]
  rfl
theorem dec_cut (s : Nat) (hs : 1 ≤ s) (L : Nat) : ∀ (g : Nat) (l body : Bs) (f n : Nat), l.length < g → n < (encB g s l ++ [48, 13, 10, 13, 10]).length → n < f → body.length + l.length ≤ 100000 → (decM f L ((encB g s l ++ [48, 13, 10, 13, 10]).take n) body).2.2 = 3
  | 0, l, body, f, n, h, _, _, _ => by omega
  | g + 1, l, body, f, n, h, hn, hf, hb => by
    obtain ⟨f, rfl⟩ : ∃ j, f = j + 1 := ⟨f - 1, by omega⟩
    unfold encB at hn ⊢
    by_cases h0 : l = []
    · rw [if_pos h0] at hn ⊢
      rw [List.nil_append] at hn ⊢
      simp only [List.length_cons, List.length_nil] at hn
      by_cases h2 : n < 3
      · refine dec_short1 f L _ body ?_ (by rw [List.length_take]; omega)
        obtain rfl | rfl | rfl : n = 0 ∨ n = 1 ∨ n = 2 := by omega
        all_goals simp
      · have e : lineM (([48, 13, 10, 13, 10] : Bs).take n) = ([48], ([13, 10] : Bs).take (n - 3), 0) := by
          obtain rfl | rfl : n = 3 ∨ n = 4 := by omega
          · exact lineM_of [48] [] (by simp) (by simp)
          · exact lineM_of [48] [13] (by simp) (by simp)
        unfold decM
        rw [e]
        dsimp only
        have hp : (parseV (([13, 10] : Bs).take (n - 3))).2.2 = 3 := by
          obtain rfl | rfl : n = 3 ∨ n = 4 := by omega
          · exact parse_short [] (by simp) (by simp)
          · exact parse_short [13] (by simp) (by simp)
        rw [if_neg (by simp), show sizeM [48] = some 0 from rfl]
        dsimp only
        rw [if_neg (by omega), if_pos rfl, hp, if_pos (by simp)]
    · have hpos : 1 ≤ l.length := by cases l with
        | nil => exact absurd rfl h0
        | cons c m => simp
      rw [if_neg h0] at hn ⊢
      have hp1 : 1 ≤ min s l.length := by omega
      have hp2 : min s l.length ≤ l.length := by omega
      generalize min s l.length = p at *
      have htk : (l.take p).length = p := by rw [List.length_take]; omega
      have hx := hexS_len 9 p
      have ha : hexS 9 p ++ 13 :: 10 :: (l.take p ++ 13 :: 10 :: encB g s (l.drop p)) ++ [48, 13, 10, 13, 10] = hexS 9 p ++ 13 :: 10 :: (l.take p ++ 13 :: 10 :: (encB g s (l.drop p) ++ [48, 13, 10, 13, 10])) := by simp
      rw [ha] at hn ⊢
      generalize hR : encB g s (l.drop p) ++ [48, 13, 10, 13, 10] = R at *
      have hall := fun d h => (hexS_all 9 p d h).1
      by_cases h2 : n < (hexS 9 p).length + 2
      · refine dec_short1 f L _ body ?_ (by rw [List.length_take]; omega)
        intro d hd
        rw [List.take_append, List.mem_append] at hd
        rcases hd with hd | hd
        · exact hall d (List.mem_of_mem_take hd)
        · obtain hk | hk : n - (hexS 9 p).length = 0 ∨ n - (hexS 9 p).length = 1 := by omega
          · rw [hk] at hd; cases hd
          · rw [hk, List.take_succ_cons, List.take_zero, List.mem_singleton] at hd
            subst hd; decide
      · obtain ⟨q, rfl⟩ : ∃ q, n = (hexS 9 p).length + (q + 2) := ⟨n - (hexS 9 p).length - 2, by omega⟩
        have e : (hexS 9 p ++ 13 :: 10 :: (l.take p ++ 13 :: 10 :: R)).take ((hexS 9 p).length + (q + 2)) = hexS 9 p ++ 13 :: 10 :: (l.take p ++ 13 :: 10 :: R).take q := by
          rw [List.take_length_add_append]; rfl
        rw [e]
        by_cases hq : q < p + 2
        · unfold decM
          rw [lineM_of _ _ (by omega) hall]
          dsimp only
          rw [if_neg (by simp), sizeM_hex p (by omega)]
          dsimp only
          rw [if_neg (by omega), if_neg (by omega), if_pos (by rw [List.length_take]; omega)]
        · obtain ⟨z, rfl⟩ : ∃ z, q = p + 2 + z := ⟨q - (p + 2), by omega⟩
          have e2 : (l.take p ++ 13 :: 10 :: R).take (p + 2 + z) = l.take p ++ 13 :: 10 :: R.take z := by
            rw [show p + 2 + z = (l.take p).length + (z + 2) by omega, List.take_length_add_append]; rfl
          rw [e2, dec_chunk f L p (l.take p) _ body htk hp1 (by omega)]
          subst hR
          refine dec_cut s hs L g (l.drop p) (body ++ l.take p) f z (by rw [List.length_drop]; omega) ?_ (by omega) (by rw [List.length_append, htk, List.length_drop]; omega)
          simp only [List.length_append, List.length_cons, htk] at hn ⊢
          omega
end Go.Proofs.YtmmbedlegmbppaaDoor.R
