import Derived.Test.YtpddbfodjeoofaaDateE
/- date.Parse and date.Print, told by one another: a date in three forms. -/
namespace Go.Proofs.Ytpddbfodjeoofaa.Pure
open Go.RowKit Go.Proofs.Ytpddbfodjeoofaa.PDate Go.Proofs.YtpddbfodjeoofaaW.PrintWords Go.Proofs.YtpddbfodjeoofaaW.PrintLast
set_option linter.unusedSimpArgs false
set_option linter.unusedVariables false

/-- A day and a time that are. -/
structure Vd (y m d h mi s : Nat) : Prop where
  ok : Ok3 y m d
  hh : h ≤ 23
  hm : mi ≤ 59
  hs : s ≤ 59
def sec (y m d h mi s : Nat) : Int := Dn y m d * 86400 + (3600 * (h : Int) + 60 * mi + s)
def wdy (y m d : Nat) : Nat := ((Dn y m d % 7 + 4) % 7).toNat
theorem wdy_lt (y m d : Nat) : wdy y m d < 7 := by unfold wdy; omega
def F1 (y m d h mi s : Nat) : Bs := (wdn (wdy y m d)).take 3 ++ t1 y m d h mi s []
def F2 (y m d h mi s : Nat) : Bs := wdn (wdy y m d) ++ t2 (y % 100) m d h mi s []
def F3 (y m d h mi s : Nat) : Bs := (wdn (wdy y m d)).take 3 ++ t3 y m d h mi s []
theorem suc_iff (p : Bs → Option (Day × Bs)) (full : Bool) (l : Bs) (w : Nat) (a : Int) : suc p full l w = some a ↔ ∃ y m d s l1, l = wname full w ++ l1 ∧ p l1 = some ((y, m, d, s), []) ∧ Ok3 y m d ∧ (Dn y m d % 7 + 4) % 7 = (w : Int) ∧ a = Dn y m d * 86400 + s := by
  unfold suc
  constructor
  · intro h
    obtain ⟨⟨_, l1⟩, h1, h⟩ := Option.bind_eq_some_iff.1 h
    obtain ⟨⟨⟨y, m, d, s⟩, r⟩, h2, h⟩ := Option.bind_eq_some_iff.1 h
    simp only at h h2
    split at h
    · rename_i hc
      obtain ⟨rfl, hc2, hc3⟩ := hc
      injection h with h
      exact ⟨y, m, d, s, l1, (pw_iff _ _ _).1 h1, h2, hc2, hc3, h.symm⟩
    · cases h
  · rintro ⟨y, m, d, s, l1, rfl, h2, h3, h4, rfl⟩
    rw [(pw_iff _ _ _).2 rfl]; simp only [Option.bind_some]
    rw [h2]; simp only [Option.bind_some]
    rw [if_pos ⟨trivial, h3, h4⟩]
theorem ok_nat {y m d : Int} (h : Ok3 y m d) : 0 ≤ y ∧ 0 ≤ m ∧ 0 ≤ d ∧ d ≤ 31 := by
  obtain ⟨h1, h2, h3, h4, h5, h6⟩ := h; have := Lg_bd y m; omega
theorem wdy_eq {y m d : Nat} {w : Nat} (h : Ok3 y m d) : (Dn y m d % 7 + 4) % 7 = (w : Int) ↔ w = wdy y m d := by unfold wdy; omega
theorem suc1_iff (l : Bs) (w : Nat) (a : Int) : suc p1 false l w = some a ↔ ∃ y m d h mi s, Vd y m d h mi s ∧ w = wdy y m d ∧ l = F1 y m d h mi s ∧ a = sec y m d h mi s := by
  rw [suc_iff]
  constructor
  · rintro ⟨y, m, d, s, l1, rfl, h2, h3, h4, rfl⟩
    obtain ⟨Y, M, D, h, mi, sc, b1, b2, b3, b4, b5, b6, b7, rfl, rfl, rfl, rfl, rfl⟩ := (p1_iff _ _ _ _ _ _).1 h2
    have hw := (wdy_eq h3).1 h4
    refine ⟨Y, M, D, h, mi, sc, ⟨h3, b5, b6, b7⟩, hw, ?_, rfl⟩
    rw [hw]; rfl
  · rintro ⟨Y, M, D, h, mi, sc, hv, rfl, rfl, rfl⟩
    have ho := hv.ok
    have hn := ok_nat ho
    obtain ⟨o1, o2, o3, o4, o5, o6⟩ := ho
    exact ⟨Y, M, D, _, _, rfl, (p1_iff _ _ _ _ _ _).2 ⟨Y, M, D, h, mi, sc, by omega, by omega, by omega, by omega, hv.hh, hv.hm, hv.hs, rfl, rfl, rfl, rfl, rfl⟩, hv.ok, (wdy_eq hv.ok).2 rfl, rfl⟩
theorem suc3_iff (l : Bs) (w : Nat) (a : Int) : suc p3 false l w = some a ↔ ∃ y m d h mi s, Vd y m d h mi s ∧ w = wdy y m d ∧ l = F3 y m d h mi s ∧ a = sec y m d h mi s := by
  rw [suc_iff]
  constructor
  · rintro ⟨y, m, d, s, l1, rfl, h2, h3, h4, rfl⟩
    obtain ⟨Y, M, D, h, mi, sc, b1, b2, b3, b4, b5, b6, b7, rfl, rfl, rfl, rfl, rfl⟩ := (p3_iff _ _ _ _ _ _).1 h2
    have hw := (wdy_eq h3).1 h4
    refine ⟨Y, M, D, h, mi, sc, ⟨h3, b5, b6, b7⟩, hw, ?_, rfl⟩
    rw [hw]; rfl
  · rintro ⟨Y, M, D, h, mi, sc, hv, rfl, rfl, rfl⟩
    have ho := hv.ok
    have hn := ok_nat ho
    obtain ⟨o1, o2, o3, o4, o5, o6⟩ := ho
    exact ⟨Y, M, D, _, _, rfl, (p3_iff _ _ _ _ _ _).2 ⟨Y, M, D, h, mi, sc, by omega, by omega, by omega, by omega, hv.hh, hv.hm, hv.hs, rfl, rfl, rfl, rfl, rfl⟩, hv.ok, (wdy_eq hv.ok).2 rfl, rfl⟩
theorem suc2_iff (l : Bs) (w : Nat) (a : Int) : suc p2 true l w = some a ↔ ∃ y m d h mi s, Vd y m d h mi s ∧ y ≤ 2069 ∧ w = wdy y m d ∧ l = F2 y m d h mi s ∧ a = sec y m d h mi s := by
  rw [suc_iff]
  constructor
  · rintro ⟨y, m, d, s, l1, rfl, h2, h3, h4, rfl⟩
    obtain ⟨Y, M, D, h, mi, sc, b1, b2, b3, b4, b5, b6, b7, hy, rfl, rfl, rfl, rfl⟩ := (p2_iff _ _ _ _ _ _).1 h2
    obtain ⟨Y', rfl, hY, hY2⟩ : ∃ Y' : Nat, y = Y' ∧ Y' % 100 = Y ∧ Y' ≤ 2069 := by
      by_cases g : Y < 70
      · rw [if_pos g] at hy; exact ⟨Y + 2000, by omega, by omega, by omega⟩
      · rw [if_neg g] at hy; exact ⟨Y + 1900, by omega, by omega, by omega⟩
    have hw := (wdy_eq h3).1 h4
    refine ⟨Y', M, D, h, mi, sc, ⟨h3, b5, b6, b7⟩, hY2, hw, ?_, rfl⟩
    rw [hw]; unfold F2; rw [hY]; rfl
  · rintro ⟨Y, M, D, h, mi, sc, hv, hY, rfl, rfl, rfl⟩
    have ho := hv.ok
    have hn := ok_nat ho
    obtain ⟨o1, o2, o3, o4, o5, o6⟩ := ho
    refine ⟨Y, M, D, _, _, rfl, (p2_iff _ _ _ _ _ _).2 ⟨Y % 100, M, D, h, mi, sc, by omega, by omega, by omega, by omega, hv.hh, hv.hm, hv.hs, ?_, rfl, rfl, rfl, rfl⟩, hv.ok, (wdy_eq hv.ok).2 rfl, rfl⟩
    split <;> omega
theorem take3_inj : ∀ i, i < 7 → ∀ j, j < 7 → (wdn i).take 3 = (wdn j).take 3 → i = j := by decide
theorem wname_inj (full : Bool) (i j : Nat) (hi : i < 7) (hj : j < 7) (a b : Bs) (h : wname full i ++ a = wname full j ++ b) : i = j := by
  have li := wdn_len i hi
  have lj := wdn_len j hj
  have e : ∀ (k : Nat) (c : Bs), k < 7 → (wname full k ++ c).take 3 = (wdn k).take 3 := by
    intro k c hk
    have lk := wdn_len k hk
    unfold wname
    cases full
    · rw [if_neg (by decide), List.take_append_of_le_length (by rw [List.length_take]; omega), List.take_take]; rfl
    · rw [if_pos rfl, List.take_append_of_le_length (by omega)]
  have := congrArg (List.take 3) h
  rw [e i a hi, e j b hj] at this
  exact take3_inj i hi j hj this
theorem suc_one (p : Bs → Option (Day × Bs)) (full : Bool) (l : Bs) (w w' : Nat) (a a' : Int) (hw : w < 7) (hw' : w' < 7) (h : suc p full l w = some a) (h' : suc p full l w' = some a') : w = w' := by
  obtain ⟨_, _, _, _, l1, e, _⟩ := (suc_iff _ _ _ _ _).1 h
  obtain ⟨_, _, _, _, l2, e', _⟩ := (suc_iff _ _ _ _ _).1 h'
  exact wname_inj full w w' hw hw' l1 l2 (e.symm.trans e')
theorem sl_iff (p : Bs → Option (Day × Bs)) (full : Bool) (l : Bs) (a : Int) : ∀ d w, w + d = 7 → (sl p full l d w = some a ↔ ∃ v, w ≤ v ∧ v < 7 ∧ suc p full l v = some a) := by
  intro d
  induction d with
  | zero =>
    intro w hw
    simp only [sl]
    constructor
    · intro h; cases h
    · rintro ⟨v, h1, h2, _⟩; omega
  | succ d ih =>
    intro w hw
    simp only [sl]
    cases e : suc p full l w with
    | some b =>
      simp only
      constructor
      · intro h; exact ⟨w, Nat.le_refl _, by omega, by rw [e]; exact h⟩
      · rintro ⟨v, h1, h2, h3⟩
        obtain rfl := suc_one p full l v w a b h2 (by omega) h3 e
        rw [← e]; exact h3
    | none =>
      simp only
      rw [ih (w + 1) (by omega)]
      constructor
      · rintro ⟨v, h1, h2, h3⟩; exact ⟨v, by omega, h2, h3⟩
      · rintro ⟨v, h1, h2, h3⟩
        refine ⟨v, ?_, h2, h3⟩
        rcases Nat.lt_or_ge w v with g | g
        · exact g
        · obtain rfl : v = w := by omega
          rw [e] at h3; cases h3
theorem wdn3 : ∀ i, i < 7 → 97 ≤ ((wdn i).getD 3 0).toNat := by decide
theorem at3_short (i : Nat) (hi : i < 7) (c : UInt8) (r : Bs) : ((wdn i).take 3 ++ c :: r).getD 3 0 = c := by
  have := wdn_len i hi
  have hl : ((wdn i).take 3).length = 3 := by rw [List.length_take]; omega
  rw [List.getD_eq_getElem?_getD, List.getElem?_append_right (by omega), hl]; rfl
theorem F1_at (y m d h mi s : Nat) : (F1 y m d h mi s).getD 3 0 = 44 := at3_short _ (wdy_lt _ _ _) _ _
theorem F3_at (y m d h mi s : Nat) : (F3 y m d h mi s).getD 3 0 = 32 := at3_short _ (wdy_lt _ _ _) _ _
theorem F2_at (y m d h mi s : Nat) : 97 ≤ ((F2 y m d h mi s).getD 3 0).toNat := by
  have h1 := wdn_len _ (wdy_lt y m d)
  have h2 := wdn3 _ (wdy_lt y m d)
  unfold F2
  rw [List.getD_eq_getElem?_getD, List.getElem?_append_left (by omega), ← List.getD_eq_getElem?_getD]; exact h2
/-- The seconds of a text: it is a date in one of the three forms. -/
theorem found_iff (l : Bs) (a : Int) : found l = some a ↔ ∃ y m d h mi s, Vd y m d h mi s ∧ a = sec y m d h mi s ∧ (l = F1 y m d h mi s ∨ (y ≤ 2069 ∧ l = F2 y m d h mi s) ∨ l = F3 y m d h mi s) := by
  have S1 : ∀ b, sl p1 false l 7 0 = some b ↔ ∃ y m d h mi s, Vd y m d h mi s ∧ l = F1 y m d h mi s ∧ b = sec y m d h mi s := by
    intro b
    rw [sl_iff _ _ _ _ 7 0 rfl]
    constructor
    · rintro ⟨v, _, _, h⟩
      obtain ⟨y, m, d, h, mi, s, h1, _, h2, h3⟩ := (suc1_iff _ _ _).1 h
      exact ⟨y, m, d, h, mi, s, h1, h2, h3⟩
    · rintro ⟨y, m, d, h, mi, s, h1, h2, h3⟩
      exact ⟨wdy y m d, Nat.zero_le _, wdy_lt _ _ _, (suc1_iff _ _ _).2 ⟨y, m, d, h, mi, s, h1, rfl, h2, h3⟩⟩
  have S2 : ∀ b, sl p2 true l 7 0 = some b ↔ ∃ y m d h mi s, Vd y m d h mi s ∧ y ≤ 2069 ∧ l = F2 y m d h mi s ∧ b = sec y m d h mi s := by
    intro b
    rw [sl_iff _ _ _ _ 7 0 rfl]
    constructor
    · rintro ⟨v, _, _, h⟩
      obtain ⟨y, m, d, h, mi, s, h1, h0, _, h2, h3⟩ := (suc2_iff _ _ _).1 h
      exact ⟨y, m, d, h, mi, s, h1, h0, h2, h3⟩
    · rintro ⟨y, m, d, h, mi, s, h1, h0, h2, h3⟩
      exact ⟨wdy y m d, Nat.zero_le _, wdy_lt _ _ _, (suc2_iff _ _ _).2 ⟨y, m, d, h, mi, s, h1, h0, rfl, h2, h3⟩⟩
  have S3 : ∀ b, sl p3 false l 7 0 = some b ↔ ∃ y m d h mi s, Vd y m d h mi s ∧ l = F3 y m d h mi s ∧ b = sec y m d h mi s := by
    intro b
    rw [sl_iff _ _ _ _ 7 0 rfl]
    constructor
    · rintro ⟨v, _, _, h⟩
      obtain ⟨y, m, d, h, mi, s, h1, _, h2, h3⟩ := (suc3_iff _ _ _).1 h
      exact ⟨y, m, d, h, mi, s, h1, h2, h3⟩
    · rintro ⟨y, m, d, h, mi, s, h1, h2, h3⟩
      exact ⟨wdy y m d, Nat.zero_le _, wdy_lt _ _ _, (suc3_iff _ _ _).2 ⟨y, m, d, h, mi, s, h1, rfl, h2, h3⟩⟩
  unfold found
  constructor
  · intro h
    cases e1 : sl p1 false l 7 0 with
    | some b =>
      rw [e1] at h; injection h with h; subst h
      obtain ⟨y, m, d, h, mi, s, h1, h2, h3⟩ := (S1 _).1 e1
      exact ⟨y, m, d, h, mi, s, h1, h3, .inl h2⟩
    | none =>
      rw [e1] at h; simp only at h
      cases e2 : sl p2 true l 7 0 with
      | some b =>
        rw [e2] at h; injection h with h; subst h
        obtain ⟨y, m, d, h, mi, s, h1, h0, h2, h3⟩ := (S2 _).1 e2
        exact ⟨y, m, d, h, mi, s, h1, h3, .inr (.inl ⟨h0, h2⟩)⟩
      | none =>
        rw [e2] at h; simp only at h
        obtain ⟨y, m, d, h, mi, s, h1, h2, h3⟩ := (S3 _).1 h
        exact ⟨y, m, d, h, mi, s, h1, h3, .inr (.inr h2)⟩
  · rintro ⟨y, m, d, h, mi, s, h1, rfl, h2⟩
    have n1 : l.getD 3 0 ≠ 44 → sl p1 false l 7 0 = none := by
      intro g
      cases e1 : sl p1 false l 7 0 with
      | none => rfl
      | some b =>
        obtain ⟨y', m', d', h', mi', s', _, e, _⟩ := (S1 _).1 e1
        rw [e] at g; exact absurd (F1_at _ _ _ _ _ _) g
    have n2 : (l.getD 3 0).toNat < 97 → sl p2 true l 7 0 = none := by
      intro g
      cases e1 : sl p2 true l 7 0 with
      | none => rfl
      | some b =>
        obtain ⟨y', m', d', h', mi', s', _, _, e, _⟩ := (S2 _).1 e1
        have := F2_at y' m' d' h' mi' s'
        rw [e] at g; omega
    rcases h2 with h2 | ⟨h0, h2⟩ | h2
    · rw [(S1 _).2 ⟨y, m, d, h, mi, s, h1, h2, rfl⟩]
    · have := F2_at y m d h mi s
      rw [n1 (by rw [h2]; intro e; rw [e] at this; revert this; decide), (S2 _).2 ⟨y, m, d, h, mi, s, h1, h0, h2, rfl⟩]
    · have := F3_at y m d h mi s
      rw [n1 (by rw [h2, this]; decide), n2 (by rw [h2, this]; decide)]
      exact (S3 _).2 ⟨y, m, d, h, mi, s, h1, h2, rfl⟩
end Go.Proofs.Ytpddbfodjeoofaa.Pure
