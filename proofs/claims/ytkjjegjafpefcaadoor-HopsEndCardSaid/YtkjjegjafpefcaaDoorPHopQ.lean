/- What tells of networks, and is of the right form, ends outside of quotes: what is put behind it is a part of its own. -/
import Derived.Test.YtkjjegjafpefcaaDoorPHop3
import Derived.Test.YtkjjegjafpefcaaDoorPJoin
namespace Go.Proofs.YtkjjegjafpefcaaDoor.R
open Go Go.RowKit
set_option linter.unusedSimpArgs false
set_option linter.unusedVariables false
/-- Does the text end outside of quotes, read from i on? -/
def scanQ (l : Bs) (i : Nat) : Bool :=
  if h : i < l.length then
    if l[i] = 34 then (if endAt l (i + 1) < l.length then scanQ l (endAt l (i + 1) + 1) else false)
    else scanQ l (i + 1)
  else true
termination_by l.length - i
decreasing_by
  all_goals first
    | omega
    | (have := endAt_bd l (i + 1) h; omega)
theorem scanQ_end (l : Bs) (i : Nat) (h : l.length ≤ i) : scanQ l i = true := by unfold scanQ; rw [dif_neg (by omega)]
theorem scanQ_step (l : Bs) (i : Nat) (h : i < l.length) : scanQ l i = if l[i] = 34 then (if endAt l (i + 1) < l.length then scanQ l (endAt l (i + 1) + 1) else false) else scanQ l (i + 1) := by
  conv => lhs; unfold scanQ
  rw [dif_pos h]
theorem scanQ_skip (l : Bs) : ∀ (m : Bs) (i : Nat) (y : Bs), l.drop i = m ++ y → (∀ c ∈ m, c ≠ 34) → scanQ l i = scanQ l (i + m.length) ∧ l.drop (i + m.length) = y
  | [], i, y, h, _ => ⟨rfl, h⟩
  | c :: m, i, y, h, hm => by
    obtain ⟨hi, hc, hd⟩ := drop_head h
    have := scanQ_skip l m (i + 1) y hd (fun d hd => hm d (by simp [hd]))
    rw [scanQ_step l i hi, hc, if_neg (hm c (by simp)), List.length_cons, show i + (m.length + 1) = i + 1 + m.length by omega]
    exact this
theorem scanQ_plain (l : Bs) (i : Nat) (h : ∀ c ∈ l.drop i, c ≠ 34) : scanQ l i = true := by
  rcases Nat.lt_or_ge i l.length with g | g
  · obtain ⟨h1, _⟩ := scanQ_skip l (l.drop i) i [] (by simp) h
    rw [h1, List.length_drop]
    exact scanQ_end _ _ (by omega)
  · exact scanQ_end _ _ g
theorem getElem_app {l z : Bs} {i : Nat} (h : i < l.length) (h' : i < (l ++ z).length) : (l ++ z)[i] = l[i] := List.getElem_append_left h
/-- The end of a quoted part that ends is where it was, whatever follows. -/
theorem endAt_app (l z : Bs) : ∀ (n j : Nat), l.length - j ≤ n → endAt l j < l.length → endAt (l ++ z) j = endAt l j := by
  intro n
  induction n with
  | zero =>
    intro j h1 h2
    rw [endAt_end (by omega)] at h2
    omega
  | succ n ih =>
    intro j h1 h2
    rcases Nat.lt_or_ge j l.length with h | h
    · have h' : j < (l ++ z).length := by rw [List.length_append]; omega
      have hg : (l ++ z)[j] = l[j] := getElem_app h h'
      by_cases c92 : l[j] = 92
      · rw [endAt_esc h c92] at h2 ⊢
        rw [endAt_esc h' (by rw [hg]; exact c92)]
        exact ih (j + 2) (by omega) h2
      by_cases c34 : l[j] = 34
      · rw [endAt_quote h c34, endAt_quote h' (by rw [hg]; exact c34)]
      · rw [endAt_more h c92 c34] at h2 ⊢
        rw [endAt_more h' (by rw [hg]; exact c92) (by rw [hg]; exact c34)]
        exact ih (j + 1) (by omega) h2
    · rw [endAt_end h] at h2; omega
/-- The same, told of a text's end. -/
theorem endAt_drop (l : Bs) (f : Nat) : ∀ (n j : Nat), l.length - j ≤ n → f ≤ l.length → f ≤ j → endAt (l.drop f) (j - f) + f = endAt l j := by
  intro n
  induction n with
  | zero =>
    intro j h1 h2 h3
    rw [endAt_end (show l.length ≤ j by omega), endAt_end (by rw [List.length_drop]; omega), List.length_drop]; omega
  | succ n ih =>
    intro j h1 h2 h3
    rcases Nat.lt_or_ge j l.length with h | h
    · have h' : j - f < (l.drop f).length := by rw [List.length_drop]; omega
      have hg : (l.drop f)[j - f] = l[j] := by rw [List.getElem_drop]; congr 1; omega
      by_cases c92 : l[j] = 92
      · rw [endAt_esc h c92, endAt_esc h' (by rw [hg]; exact c92), show j - f + 2 = (j + 2) - f by omega]
        exact ih (j + 2) (by omega) h2 (by omega)
      by_cases c34 : l[j] = 34
      · rw [endAt_quote h c34, endAt_quote h' (by rw [hg]; exact c34)]; omega
      · rw [endAt_more h c92 c34, endAt_more h' (by rw [hg]; exact c92) (by rw [hg]; exact c34), show j - f + 1 = (j + 1) - f by omega]
        exact ih (j + 1) (by omega) h2 (by omega)
    · rw [endAt_end h, endAt_end (by rw [List.length_drop]; omega), List.length_drop]; omega
theorem scanQ_drop (l : Bs) (f : Nat) : ∀ (n i : Nat), l.length - i ≤ n → f ≤ l.length → f ≤ i → scanQ (l.drop f) (i - f) = scanQ l i := by
  intro n
  induction n with
  | zero =>
    intro i h1 h2 h3
    rw [scanQ_end l i (by omega), scanQ_end _ _ (by rw [List.length_drop]; omega)]
  | succ n ih =>
    intro i h1 h2 h3
    rcases Nat.lt_or_ge i l.length with h | h
    · have h' : i - f < (l.drop f).length := by rw [List.length_drop]; omega
      have hg : (l.drop f)[i - f] = l[i] := by rw [List.getElem_drop]; congr 1; omega
      have hb := endAt_bd l (i + 1) h
      have he := endAt_drop l f _ (i + 1) (Nat.le_refl _) h2 (by omega)
      rw [scanQ_step l i h, scanQ_step _ _ h', hg, show i - f + 1 = i + 1 - f by omega]
      by_cases c34 : l[i] = 34
      · rw [if_pos c34, if_pos c34]
        by_cases hlt : endAt l (i + 1) < l.length
        · rw [if_pos hlt, if_pos (by rw [List.length_drop]; omega), show endAt (l.drop f) (i + 1 - f) + 1 = endAt l (i + 1) + 1 - f by omega]
          exact ih _ (by omega) h2 (by omega)
        · rw [if_neg hlt, if_neg (by rw [List.length_drop]; omega)]
      · rw [if_neg c34, if_neg c34]
        exact ih _ (by omega) h2 (by omega)
    · rw [scanQ_end l i h, scanQ_end _ _ (by rw [List.length_drop]; omega)]
theorem scanQ_app (l z : Bs) : ∀ (n i : Nat), l.length - i ≤ n → i ≤ l.length → scanQ l i = true → scanQ (l ++ z) i = scanQ (l ++ z) l.length := by
  intro n
  induction n with
  | zero => intro i h1 h2 _; rw [show i = l.length by omega]
  | succ n ih =>
    intro i h1 h2 h3
    rcases Nat.lt_or_ge i l.length with h | h
    · have h' : i < (l ++ z).length := by rw [List.length_append]; omega
      have hg : (l ++ z)[i] = l[i] := getElem_app h h'
      have hb := endAt_bd l (i + 1) h
      rw [scanQ_step l i h] at h3
      rw [scanQ_step _ i h', hg]
      by_cases c34 : l[i] = 34
      · rw [if_pos c34] at h3 ⊢
        by_cases hlt : endAt l (i + 1) < l.length
        · rw [if_pos hlt] at h3
          have he := endAt_app l z _ (i + 1) (Nat.le_refl _) hlt
          rw [he, if_pos (by rw [List.length_append]; omega)]
          exact ih _ (by omega) (by omega) h3
        · rw [if_neg hlt] at h3; cases h3
      · rw [if_neg c34] at h3 ⊢
        exact ih _ (by omega) (by omega) h3
    · rw [show i = l.length by omega]
/-- A comma behind such a text parts it from what follows. -/
theorem C_app (l y : Bs) : ∀ (n fr i : Nat) (acc : List ByteArray), l.length - i ≤ n → fr ≤ i → i ≤ l.length → scanQ l i = true →
    C (l ++ 44 :: y) fr i acc = C (l ++ 44 :: y) (l.length + 1) (l.length + 1) (C l fr i acc) := by
  have base : ∀ (fr : Nat) (acc : List ByteArray), fr ≤ l.length → C (l ++ 44 :: y) fr l.length acc = C (l ++ 44 :: y) (l.length + 1) (l.length + 1) (C l fr l.length acc) := by
    intro fr acc hf
    have h' : l.length < (l ++ 44 :: y).length := by simp
    have hg : (l ++ 44 :: y)[l.length] = 44 := by simp
    rw [C_step _ _ _ _ h', hg, if_neg (by decide), if_pos (by decide), C_end l _ _ _ (Nat.le_refl _), B_extract, B_extract, List.take_left' rfl, List.take_length]
  intro n
  induction n with
  | zero => intro fr i acc h1 h2 h3 _; obtain rfl : i = l.length := by omega
            exact base fr acc h2
  | succ n ih =>
    intro fr i acc h1 h2 h3 h4
    rcases Nat.lt_or_ge i l.length with h | h
    · have h' : i < (l ++ 44 :: y).length := by rw [List.length_append]; omega
      have hg : (l ++ 44 :: y)[i] = l[i] := getElem_app h h'
      have hb := endAt_bd l (i + 1) h
      rw [scanQ_step l i h] at h4
      rw [C_step _ _ _ _ h', C_step _ _ _ _ h, hg]
      by_cases c34 : l[i] = 34
      · rw [if_pos c34] at h4
        rw [if_pos (by rw [c34]; rfl), if_pos (by rw [c34]; rfl)]
        by_cases hlt : endAt l (i + 1) < l.length
        · rw [if_pos hlt] at h4
          rw [endAt_app l _ _ (i + 1) (Nat.le_refl _) hlt]
          exact ih _ _ _ (by omega) (by omega) (by omega) h4
        · rw [if_neg hlt] at h4; cases h4
      · rw [if_neg c34] at h4
        rw [if_neg (show ¬ l[i].toNat = 34 from ne_toNat (d := 34) c34), if_neg (show ¬ l[i].toNat = 34 from ne_toNat (d := 34) c34)]
        by_cases c44 : l[i].toNat = 44
        · rw [if_pos c44, if_pos c44, B_extract, B_extract, List.take_append_of_le_length (by omega)]
          exact ih _ _ _ (by omega) (Nat.le_refl _) (by omega) h4
        · rw [if_neg c44, if_neg c44]
          exact ih _ _ _ (by omega) (by omega) (by omega) h4
    · obtain rfl : i = l.length := by omega
      exact base fr acc h2
/-- Behind a comma and a blank: a part of its own. -/
theorem C_more (l u : Bs) (h : scanQ l 0 = true) (hu : GoodQ u) : C (l ++ 44 :: 32 :: u) 0 0 [] = C l 0 0 [] ++ [B u] := by
  rw [C_app l (32 :: u) _ 0 0 [] (Nat.le_refl _) (Nat.le_refl _) (Nat.zero_le _) h]
  rw [C_parts (l ++ 44 :: 32 :: u) [] [] (fun c hc => by cases hc) (fun c hc => by cases hc) [] u [32] (l.length + 1) _ (fun c hc => by rw [List.mem_singleton.1 hc]; decide) hu (fun v hv => by cases hv) (by
    rw [show l ++ 44 :: 32 :: u = (l ++ [44]) ++ 32 :: u by simp, List.drop_left' (by simp)]
    simp [joinTail])]
  rfl
theorem C_alone (u : Bs) (hu : GoodQ u) : C u 0 0 [] = [B u] := by
  rw [C_parts u [] [] (fun c hc => by cases hc) (fun c hc => by cases hc) [] u [] 0 [] (fun c hc => by cases hc) hu (fun v hv => by cases hv) (by simp [joinTail])]
  rfl
theorem C_none : C [] 0 0 [] = [] := by
  rw [C_end [] 0 0 [] (Nat.le_refl _), B_extract, takeP_B]
  rfl
/-! ### what ends inside of quotes is of no form -/
theorem tw_mem (p : UInt8 → Bool) : ∀ (l : Bs) (c : UInt8), c ∈ l.takeWhile p → p c = true
  | [], c, h => by cases h
  | d :: l, c, h => by
    rw [List.takeWhile_cons] at h
    by_cases hd : p d = true
    · rw [if_pos hd] at h
      rcases List.mem_cons.1 h with rfl | h
      · exact hd
      · exact tw_mem p l c h
    · rw [if_neg hd] at h; cases h
theorem dw_split (l : Bs) : ∃ a, l = a ++ l.dropWhile blankB ∧ ∀ c ∈ a, blankB c = true := by
  refine ⟨l.takeWhile blankB, (List.takeWhile_append_dropWhile (p := blankB) (l := l)).symm, fun c hc => ?_⟩
  exact tw_mem blankB l c hc
theorem blank_ne {c : UInt8} (h : blankB c = true) : c ≠ 34 := fun e => (blank_is c h).1 (by rw [e]; rfl)
theorem strip_split (l : Bs) : ∃ a b, l = a ++ (strip l ++ b) ∧ (∀ c ∈ a, blankB c = true) ∧ ∀ c ∈ b, blankB c = true := by
  obtain ⟨a, ha, hb⟩ := dw_split l
  refine ⟨a, (l.dropWhile blankB).drop (nbEnd (l.dropWhile blankB)), ?_, hb, ?_⟩
  · unfold strip
    rw [List.take_append_drop]
    exact ha
  · generalize l.dropWhile blankB = m
    obtain ⟨x, hx, hy⟩ := dw_split m.reverse
    have e : m = (m.reverse.dropWhile blankB).reverse ++ x.reverse := by
      have := congrArg List.reverse hx
      rw [List.reverse_reverse, List.reverse_append] at this
      exact this
    intro c hc
    have hl : nbEnd m = (m.reverse.dropWhile blankB).reverse.length := by unfold nbEnd; rw [List.length_reverse]
    rw [hl] at hc
    have hd : ((m.reverse.dropWhile blankB).reverse ++ x.reverse).drop (m.reverse.dropWhile blankB).reverse.length = x.reverse := List.drop_left' rfl
    rw [← e] at hd
    rw [hd] at hc
    exact hy c (List.mem_reverse.1 hc)
theorem scanQ_strip (l : Bs) (h : scanQ l 0 = false) : scanQ (strip l) 0 = false := by
  obtain ⟨a, b, e, ha, hb⟩ := strip_split l
  cases hs : scanQ (strip l) 0 with
  | false => rfl
  | true =>
    exfalso
    have h1 := scanQ_app (strip l) b _ 0 (Nat.le_refl _) (Nat.zero_le _) hs
    have h2 : scanQ (strip l ++ b) (strip l).length = true := scanQ_plain _ _ (by
      rw [List.drop_left' rfl]
      exact fun c hc => blank_ne (hb c hc))
    rw [h2] at h1
    have h3 : l.drop a.length = strip l ++ b := by
      conv => lhs; rw [e]
      exact List.drop_left' rfl
    obtain ⟨h4, _⟩ := scanQ_skip l a 0 (strip l ++ b) (by rw [List.drop_zero]; exact e) (fun c hc => blank_ne (ha c hc))
    have hle : a.length ≤ l.length := by rw [e, List.length_append]; omega
    have h5 := scanQ_drop l a.length _ a.length (Nat.le_refl _) hle (Nat.le_refl _)
    rw [Nat.sub_self, h3, h1] at h5
    rw [Nat.zero_add, ← h5] at h4
    rw [h4] at h; cases h
theorem C_open (l : Bs) : ∀ (n fr i : Nat) (acc : List ByteArray), l.length - i ≤ n → fr ≤ i → i ≤ l.length → scanQ (l.drop fr) 0 = scanQ l i → scanQ l i = false →
    ∃ acc' fr', C l fr i acc = takeP acc' (B (l.drop fr')) ∧ scanQ (l.drop fr') 0 = false := by
  intro n
  induction n with
  | zero => intro fr i acc h1 h2 h3 _ h5; rw [scanQ_end l i (by omega)] at h5; cases h5
  | succ n ih =>
    intro fr i acc h1 h2 h3 h4 h5
    rcases Nat.lt_or_ge i l.length with h | h
    · have hb := endAt_bd l (i + 1) h
      have hst := scanQ_step l i h
      rw [C_step _ _ _ _ h]
      by_cases c34 : l[i] = 34
      · rw [if_pos c34] at hst
        rw [if_pos (by rw [c34]; rfl)]
        by_cases hlt : endAt l (i + 1) < l.length
        · rw [if_pos hlt] at hst
          exact ih _ _ _ (by omega) (by omega) (by omega) (h4.trans hst) (hst ▸ h5)
        · refine ⟨acc, fr, ?_, h4.trans h5⟩
          rw [C_end _ _ _ _ (by omega), B_extract, List.take_length]
      · rw [if_neg c34] at hst
        rw [if_neg (show ¬ l[i].toNat = 34 from ne_toNat (d := 34) c34)]
        by_cases c44 : l[i].toNat = 44
        · rw [if_pos c44]
          refine ih _ _ _ (by omega) (Nat.le_refl _) (by omega) ?_ (hst ▸ h5)
          have := scanQ_drop l (i + 1) _ (i + 1) (Nat.le_refl _) (by omega) (Nat.le_refl _)
          rw [Nat.sub_self] at this
          exact this
        · rw [if_neg c44]
          exact ih _ _ _ (by omega) (by omega) (by omega) (h4.trans hst) (hst ▸ h5)
    · rw [scanQ_end l i h] at h5; cases h5
theorem PP_open (l : Bs) : ∀ (n fr i : Nat) (acc : List ByteArray), l.length - i ≤ n → fr ≤ i → i ≤ l.length → scanQ (l.drop fr) 0 = scanQ l i → scanQ l i = false →
    ∃ acc' fr', PP l fr i acc = acc' ++ [B (strip (l.drop fr'))] ∧ scanQ (l.drop fr') 0 = false := by
  intro n
  induction n with
  | zero => intro fr i acc h1 h2 h3 _ h5; rw [scanQ_end l i (by omega)] at h5; cases h5
  | succ n ih =>
    intro fr i acc h1 h2 h3 h4 h5
    rcases Nat.lt_or_ge i l.length with h | h
    · have hb := endAt_bd l (i + 1) h
      have hst := scanQ_step l i h
      rw [PP_step _ _ _ _ h]
      by_cases c59 : l[i] = 59
      · rw [if_pos c59]
        rw [if_neg (by rw [c59]; decide)] at hst
        refine ih _ _ _ (by omega) (Nat.le_refl _) (by omega) ?_ (hst ▸ h5)
        have := scanQ_drop l (i + 1) _ (i + 1) (Nat.le_refl _) (by omega) (Nat.le_refl _)
        rw [Nat.sub_self] at this
        exact this
      rw [if_neg c59]
      by_cases c34 : l[i] = 34
      · rw [if_pos c34] at hst ⊢
        by_cases hlt : endAt l (i + 1) < l.length
        · rw [if_pos hlt] at hst
          exact ih _ _ _ (by omega) (by omega) (by omega) (h4.trans hst) (hst ▸ h5)
        · refine ⟨acc, fr, ?_, h4.trans h5⟩
          rw [PP_end _ _ _ _ (by omega)]
      · rw [if_neg c34] at hst ⊢
        exact ih _ _ _ (by omega) (by omega) (by omega) (h4.trans hst) (hst ▸ h5)
    · rw [scanQ_end l i h] at h5; cases h5
theorem idB_ne {c : UInt8} (h : idB c = true) : c ≠ 34 := by
  intro e
  rw [e] at h
  revert h
  decide
theorem tch_ne {c : UInt8} (h : X.isTchar c = true) : c ≠ 34 := idB_ne (by unfold idB; rw [h]; rfl)
theorem scanQ_id (l : Bs) (h : idM l = true) : scanQ l 0 = true := by
  unfold idM at h
  rw [Bool.and_eq_true] at h
  exact scanQ_plain l 0 (by rw [List.drop_zero]; exact fun c hc => idB_ne (List.all_eq_true.1 h.2 c hc))
theorem tokB_all {l : Bs} (h : tokB l = true) : ∀ c ∈ l, c ≠ 34 := by
  intro c hc
  cases l with
  | nil => cases hc
  | cons d t =>
    rw [tokB_one, Bool.and_eq_true] at h
    rcases List.mem_cons.1 hc with rfl | hc
    · exact tch_ne h.1
    · exact tch_ne (List.all_eq_true.1 h.2 c hc)
/-- What is quoted ends where it ends. -/
theorem unq_ends : ∀ (n : Nat) (r acc : Bs), r.length ≤ n → (unqM r acc).2 = true → qe r + 1 = r.length := by
  intro n
  induction n with
  | zero => intro r acc h hu; match r, h with
                              | [], _ => simp [unqM] at hu
  | succ n ih =>
    intro r acc h hu
    match r, h with
    | [], _ => simp [unqM] at hu
    | [c], _ =>
      by_cases c34 : c = 34
      · rw [c34]; rfl
      · by_cases c92 : c = 92
        · rw [c92] at hu; simp [unqM] at hu
        · simp [unqM, c34, c92] at hu
    | c :: d :: t, h =>
      simp only [List.length_cons] at h
      by_cases c34 : c = 34
      · rw [c34] at hu; simp [unqM] at hu
      · by_cases c92 : c = 92
        · have hu' : (unqM t (acc ++ [d])).2 = true := by
            rw [c92] at hu
            simpa [unqM] using hu
          have := ih t _ (by omega) hu'
          rw [c92]
          unfold qe
          rw [if_pos (by decide)]
          simp only [List.length_cons]
          omega
        · have hu' : (unqM (d :: t) (acc ++ [c])).2 = true := by
            have e : unqM (c :: d :: t) acc = unqM (d :: t) (acc ++ [c]) := by
              conv => lhs; unfold unqM
              rw [if_neg c34, if_neg c92]
            rw [← e]; exact hu
          have := ih (d :: t) _ (by simp; omega) hu'
          have e : qe (c :: d :: t) = 1 + qe (d :: t) := by
            conv => lhs; unfold qe
            rw [if_neg (show ¬ c.toNat = 92 from ne_toNat (d := 92) c92), if_neg (show ¬ c.toNat = 34 from ne_toNat (d := 34) c34)]
          rw [e]
          simp only [List.length_cons] at *
          omega
theorem dir_closed (x : Bs) (h : (dirM x).2 = true) : scanQ x 0 = true := by
  unfold dirM at h
  cases hc : cutAt 61 x with
  | none =>
    rw [hc] at h
    exact scanQ_plain x 0 (by rw [List.drop_zero]; exact tokB_all h)
  | some p =>
    obtain ⟨a, b⟩ := p
    rw [hc] at h
    obtain ⟨e, _⟩ := cutAt_some hc
    simp only at h
    have plain : tokB a = true → (∀ c ∈ b, c ≠ 34) → scanQ x 0 = true := by
      intro h1 h2
      refine scanQ_plain x 0 ?_
      rw [List.drop_zero, e]
      intro c hc
      rcases List.mem_append.1 hc with hc | hc
      · exact tokB_all h1 c hc
      · rcases List.mem_cons.1 hc with rfl | hc
        · decide
        · exact h2 c hc
    by_cases htb : tokB b = true
    · rw [if_pos htb] at h
      exact plain h (tokB_all htb)
    · rw [if_neg htb] at h
      simp only [Bool.and_eq_true] at h
      obtain ⟨hu, hta⟩ := h
      cases b with
      | nil => simp [unqV] at hu
      | cons c r =>
        rw [unqV_cons] at hu
        by_cases c34 : c = 34
        · rw [if_pos c34] at hu
          have hq := unq_ends _ r [] (Nat.le_refl _) hu
          obtain ⟨s1, s2⟩ := scanQ_skip x (a ++ [61]) 0 (c :: r) (by rw [List.drop_zero, e]; simp) (fun d hd => by
            rcases List.mem_append.1 hd with hd | hd
            · exact tokB_all hta d hd
            · rw [List.mem_singleton.1 hd]; decide)
          rw [Nat.zero_add] at s1 s2
          obtain ⟨hi, hci, hd⟩ := drop_head s2
          have hlen : x.length = (a ++ [61]).length + 1 + r.length := by rw [e]; simp; omega
          have hr0 : 0 < r.length := by omega
          have hend : endAt x ((a ++ [61]).length + 1) = (a ++ [61]).length + 1 + qe r := by
            unfold endAt
            rw [if_pos (by omega), hd]
          rw [s1, scanQ_step x _ hi, hci, if_pos c34, hend, if_pos (by omega)]
          exact scanQ_end _ _ (by omega)
        · rw [if_neg c34] at hu; cases hu
theorem par_closed (x : ByteArray) (h : parM x = true) : scanQ x.data.toList 0 = true := by
  unfold parM at h
  rw [Bool.and_eq_true, decide_eq_true_eq, decide_eq_true_eq] at h
  obtain ⟨h1, h2⟩ := h
  unfold parseD at h2
  rw [h1] at h2
  unfold pickD at h2
  refine dir_closed _ ?_
  cases hd : (dirM x.data.toList).2 with
  | true => rfl
  | false => simp [hd] at h2
/-- The name that a part tells of, and whether the part is of the right form. -/
def okO (o : ByteArray) : Bool := match PP o.data.toList 0 0 [] with
  | [] => false
  | p :: r => idM p.data.toList && r.all parM
def nmO (o : ByteArray) : Bs := match PP o.data.toList 0 0 [] with
  | [] => []
  | p :: _ => lowL p.data.toList
theorem oneM_is (id : Bs) (o : ByteArray) : oneM id o = if okO o = true then some (decide (nmO o = lowL id)) else none := by
  unfold oneM okO nmO
  cases PP o.data.toList 0 0 [] with
  | nil => rfl
  | cons p r => rfl
theorem loopL_is (id : Bs) : ∀ (xs : List ByteArray) (met : Bool), loopL id xs met = if xs.all okO = true then (met || xs.any fun o => decide (nmO o = lowL id), 0) else (false, 2)
  | [], met => by simp [loopL]
  | o :: r, met => by
    unfold loopL
    rw [oneM_is]
    cases ho : okO o with
    | false => simp [ho]
    | true =>
      rw [if_pos rfl]
      simp only
      rw [loopL_is id r]
      simp [ho, Bool.or_assoc]
theorem ok_closed (o : ByteArray) (h : okO o = true) : scanQ o.data.toList 0 = true := by
  cases hs : scanQ o.data.toList 0 with
  | true => rfl
  | false =>
    exfalso
    obtain ⟨acc, fr, h1, h2⟩ := PP_open o.data.toList _ 0 0 [] (Nat.le_refl _) (Nat.le_refl _) (Nat.zero_le _) (by rw [List.drop_zero]) hs
    have h3 := scanQ_strip _ h2
    unfold okO at h
    rw [h1] at h
    cases acc with
    | nil =>
      simp only [List.nil_append, List.all_nil, Bool.and_true] at h
      rw [B_data] at h
      rw [scanQ_id _ h] at h3; cases h3
    | cons p a =>
      simp only [List.cons_append, Bool.and_eq_true, List.all_append, List.all_cons, List.all_nil, Bool.and_true] at h
      have := par_closed _ h.2.2
      rw [B_data, h3] at this; cases this
theorem strip_ne (l : Bs) (h : scanQ l 0 = false) : strip l ≠ [] := by
  intro e
  have := scanQ_strip l h
  rw [e, scanQ_end [] 0 (Nat.le_refl _)] at this; cases this
theorem all_closed (l : Bs) (h : (C l 0 0 []).all okO = true) : scanQ l 0 = true := by
  cases hs : scanQ l 0 with
  | true => rfl
  | false =>
    exfalso
    obtain ⟨acc, fr, h1, h2⟩ := C_open l _ 0 0 [] (Nat.le_refl _) (Nat.le_refl _) (Nat.zero_le _) (by rw [List.drop_zero]) hs
    rw [h1, takeP_B, if_neg (strip_ne _ h2), List.all_append] at h
    simp only [List.all_cons, List.all_nil, Bool.and_true, Bool.and_eq_true] at h
    have := ok_closed _ h.2
    rw [B_data, scanQ_strip _ h2] at this; cases this
/-! ### a name alone -/
set_option maxRecDepth 100000 in
theorem idB_all : ∀ n : Fin 256, idB (UInt8.ofNat n.val) = true → blankB (UInt8.ofNat n.val) = false ∧ n.val ≠ 34 ∧ n.val ≠ 44 ∧ n.val ≠ 59 := by decide +kernel
theorem idB_is (c : UInt8) (h : idB c = true) : blankB c = false ∧ c.toNat ≠ 34 ∧ c.toNat ≠ 44 ∧ c.toNat ≠ 59 := by
  have := idB_all ⟨c.toNat, c.toNat_lt⟩
  simp only [UInt8.ofNat_toNat] at this
  exact this h
theorem id_good (u : Bs) (h : idM u = true) : GoodQ u := by
  unfold idM at h
  rw [Bool.and_eq_true, decide_eq_true_eq] at h
  exact ⟨h.1, fun c hc => by have := idB_is c (List.all_eq_true.1 h.2 c hc); exact ⟨this.1, this.2.1, this.2.2.1⟩⟩
theorem PP_skip (l : Bs) (fr : Nat) (acc : List ByteArray) : ∀ (m : Bs) (i : Nat) (y : Bs), l.drop i = m ++ y → (∀ c ∈ m, c ≠ 34 ∧ c ≠ 59) → PP l fr i acc = PP l fr (i + m.length) acc
  | [], i, y, h, _ => rfl
  | c :: m, i, y, h, hm => by
    obtain ⟨hi, hc, hd⟩ := drop_head h
    have h2 := hm c (by simp)
    have := PP_skip l fr acc m (i + 1) y hd (fun d hd => hm d (by simp [hd]))
    rw [PP_step l fr i acc hi, hc, if_neg h2.2, if_neg h2.1, List.length_cons, show i + (m.length + 1) = i + 1 + m.length by omega]
    exact this
theorem PP_id (u : Bs) (h : idM u = true) : PP u 0 0 [] = [B u] := by
  have hg := id_good u h
  have h' := h
  unfold idM at h'
  rw [Bool.and_eq_true, decide_eq_true_eq] at h'
  rw [PP_skip u 0 [] u 0 [] (by simp) (fun c hc => by
    have := idB_is c (List.all_eq_true.1 h'.2 c hc)
    exact ⟨fun e => this.2.1 (by rw [e]; rfl), fun e => this.2.2.2 (by rw [e]; rfl)⟩), Nat.zero_add, PP_end _ _ _ _ (Nat.le_refl _), List.drop_zero]
  have := strip_mid [] u [] h'.1 (fun c hc => by cases hc) (fun c hc => (hg.2 c hc).1) (fun c hc => by cases hc)
  rw [List.nil_append, List.append_nil] at this
  rw [this]; rfl
theorem okO_id (u : Bs) (h : idM u = true) : okO (B u) = true ∧ nmO (B u) = lowL u := by
  unfold okO nmO
  rw [B_data, PP_id u h]
  simp only [B_data, List.all_nil, Bool.and_true]
  exact ⟨h, trivial⟩
end Go.Proofs.YtkjjegjafpefcaaDoor.R
