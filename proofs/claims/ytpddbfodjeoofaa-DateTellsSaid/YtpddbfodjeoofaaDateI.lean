import Derived.Test.YtpddbfodjeoofaaDateH
/- The document's reading of a date: its digits, its month and its guess, and that what it finds is what the program finds. -/
namespace Go.Proofs.Ytpddbfodjeoofaa.Pure
open Go.RowKit Go.Proofs.Ytpddbfodjeoofaa.PDate Go.Proofs.YtpddbfodjeoofaaW.PrintWords Go.Proofs.YtpddbfodjeoofaaW.PrintLast
set_option linter.unusedSimpArgs false
set_option linter.unusedVariables false

def dgt : Nat → Int → Bs → Int
  | 0, n, _ => n
  | _ + 1, _, [] => -1
  | m + 1, n, c :: r => if dig c = true then dgt m (10 * n + c.toNat - 48) r else -1
def bd (m : Nat) : Int := if m = 4 then 0 else if m = 3 then 9 else if m = 2 then 99 else if m = 1 then 999 else 9999
theorem bd_step (m : Nat) (n x : Int) (h : n ≤ bd (m + 1)) (hx : x ≤ 9) (hm : m + 1 ≤ 4) : 10 * n + x ≤ bd m := by
  unfold bd at *
  have : m = 0 ∨ m = 1 ∨ m = 2 ∨ m = 3 := by omega
  rcases this with rfl | rfl | rfl | rfl <;> simp at h ⊢ <;> omega
theorem bd_le (m : Nat) : bd m ≤ 9999 := by unfold bd; split <;> (try split) <;> (try split) <;> (try split) <;> omega
theorem dig_iff (c : UInt8) : dig c = true ↔ 48 ≤ c.toNat ∧ c.toNat ≤ 57 := by unfold dig; simp
theorem dgt_bd : ∀ (m : Nat) (n : Int) (l : Bs), m ≤ 4 → 0 ≤ n → n ≤ bd m → -1 ≤ dgt m n l ∧ dgt m n l ≤ 9999 := by
  intro m
  induction m with
  | zero => intro n l _ h h'; have := bd_le 0; simp only [dgt]; omega
  | succ m ih =>
    intro n l hm h h'
    cases l with
    | nil => simp only [dgt]; omega
    | cons c r =>
      simp only [dgt]
      by_cases hc : dig c = true
      · rw [if_pos hc]
        have hd := (dig_iff c).1 hc
        exact ih _ r (by omega) (by omega) (by have := bd_step m n (c.toNat - 48) h' (by omega) hm; omega)
      · rw [if_neg hc]; omega
theorem rdig_l0 (l : Bs) (a M : Nat) (ha : a ≤ 100) (hM : M ≤ 4) : ∀ (m j k : Nat) (n : Int), j + m = a + M → m + 1 ≤ k → 0 ≤ n → n ≤ bd m → m ≤ 4 →
    sculleryref05_digits.l0 k (B l) a M n j = some (dgt m n (l.drop j)) := by
  intro m
  induction m with
  | zero =>
    intro j k n hj hk h0 hb _
    obtain ⟨k, rfl⟩ : ∃ n, k = n + 1 := ⟨k - 1, by omega⟩
    simp only [sculleryref05_digits.l0, dgt]
    rw [w64 (by omega) (by omega), if_neg (by omega)]
  | succ m ih =>
    intro j k n hj hk h0 hb hm
    obtain ⟨k, rfl⟩ : ∃ n, k = n + 1 := ⟨k - 1, by omega⟩
    simp only [sculleryref05_digits.l0]
    rw [w64 (x := (a : Int) + M) (by omega) (by omega), if_pos (by omega), if_neg (by omega), B_size]
    by_cases hl : j < l.length
    · rw [if_neg (by omega), if_pos (by omega), if_pos (by omega), B_get l j hl, List.drop_eq_getElem_cons hl]
      simp only [dgt]
      have hbl := bd_le (m + 1)
      by_cases hc : dig l[j] = true
      · have hd := (dig_iff _).1 hc
        rw [if_neg (by omega), if_neg (by omega), if_pos hc, w64 (x := 10 * n) (by omega) (by omega), w64 (x := (l[j].toNat : Int)) (by omega) (by omega), w64 (x := 10 * n + (l[j].toNat : Int)) (by omega) (by omega), w64 (x := 10 * n + (l[j].toNat : Int) - 48) (by omega) (by omega), w64 (x := (j : Int) + 1) (by omega) (by omega)]
        exact ih (j + 1) k _ (by omega) (by omega) (by omega) (by have := bd_step m n ((l[j].toNat : Int) - 48) hb (by omega) hm; omega) (by omega)
      · rw [if_neg hc]
        have hd : ¬ (48 ≤ l[j].toNat ∧ l[j].toNat ≤ 57) := fun h => hc ((dig_iff _).2 h)
        by_cases h1 : (l[j].toNat : Int) < 48
        · rw [if_pos h1]
        · rw [if_neg h1, if_pos (by omega)]
    · rw [if_pos (by omega), List.drop_eq_nil_of_le (by omega)]; rfl
theorem rdig (l : Bs) (a M : Nat) (x z : Int) (hx : x = a) (hz : z = M) (ha : a ≤ 100) (hM : M ≤ 4) (k : Nat) (hk : 5 ≤ k) : sculleryref05_digits.f k (B l) x z = some (dgt M 0 (l.drop a)) := by
  subst hx hz
  unfold sculleryref05_digits.f
  exact rdig_l0 l a M ha hM M a k 0 rfl (by omega) (by decide) (by unfold bd; split <;> (try split) <;> (try split) <;> (try split) <;> omega) hM
theorem dgt_n (M : Nat) (l : Bs) (hM : M ≤ 4) : -1 ≤ dgt M 0 l ∧ dgt M 0 l ≤ 9999 := dgt_bd M 0 l hM (by decide) (by unfold bd; split <;> (try split) <;> (try split) <;> (try split) <;> omega)
theorem dgt_cons (m : Nat) (n : Int) (d : Nat) (hd : d < 10) (r : Bs) : dgt (m + 1) n (UInt8.ofNat (48 + d) :: r) = dgt m (10 * n + d) r := by
  simp only [dgt]; rw [if_pos (dig_of d hd), un _ (by omega)]; congr 1; omega
theorem dgt2 (n : Nat) (h : n < 100) (r : Bs) : dgt 2 0 (D2 n ++ r) = n := by
  unfold D2
  show dgt 2 0 (UInt8.ofNat (48 + n / 10) :: UInt8.ofNat (48 + n % 10) :: r) = n
  rw [dgt_cons _ _ _ (by omega), dgt_cons _ _ _ (by omega)]; simp only [dgt]; omega
theorem dgt1 (n : Nat) (h : n < 10) (r : Bs) : dgt 1 0 (D1 n ++ r) = n := by
  unfold D1
  show dgt 1 0 (UInt8.ofNat (48 + n) :: r) = n
  rw [dgt_cons _ _ _ (by omega)]; simp only [dgt]; omega
theorem dgt4 (n : Nat) (h : n < 10000) (r : Bs) : dgt 4 0 (D4 n ++ r) = n := by
  unfold D4
  show dgt 4 0 (UInt8.ofNat (48 + n / 1000) :: UInt8.ofNat (48 + n / 100 % 10) :: UInt8.ofNat (48 + n / 10 % 10) :: UInt8.ofNat (48 + n % 10) :: r) = n
  rw [dgt_cons _ _ _ (by omega), dgt_cons _ _ _ (by omega), dgt_cons _ _ _ (by omega), dgt_cons _ _ _ (by omega)]; simp only [dgt]; omega
/-- The month whose name a text begins with. -/
def wh (l : Bs) : Nat → Nat → Int
  | 0, _ => 0
  | d + 1, m => if 3 ≤ l.length ∧ l.take 3 = nm (m - 1) then m else wh l d (m + 1)
theorem rwh_l0 (l : Bs) (a : Nat) (ha : a ≤ 100) : ∀ (d m k : Nat), m + d = 13 → 1 ≤ m → d + 1 ≤ k → sculleryref05_which.l0 k (B l) a m = some (wh (l.drop a) d m) := by
  intro d
  induction d with
  | zero =>
    intro m k hm h1 hk
    obtain ⟨k, rfl⟩ : ∃ n, k = n + 1 := ⟨k - 1, by omega⟩
    simp only [sculleryref05_which.l0, wh]; rw [if_neg (by omega)]
  | succ d ih =>
    intro m k hm h1 hk
    obtain ⟨k, rfl⟩ : ∃ n, k = n + 1 := ⟨k - 1, by omega⟩
    have hi := ih (m + 1) k (by omega) (by omega) (by omega)
    rw [show ((m + 1 : Nat) : Int) = wrap64 ((m : Int) + 1) by rw [w64 (by omega) (by omega)]; rfl] at hi
    simp only [sculleryref05_which.l0, wh]
    rw [if_pos (by omega), if_pos (by omega), w64 (x := (a : Int) + 3) (by omega) (by omega), B_size, hi]
    by_cases h3 : (a : Int) + 3 ≤ l.length
    · rw [if_pos h3, if_pos (by omega), if_pos (by omega), rmonth m h1 (by omega)]
      simp only [Option.bind_some]
      rw [show ((a : Int) + 3).toNat = a + 3 by omega, Int.toNat_natCast, B_extract, B_toList, B_toList, List.drop_take, show a + 3 - a = 3 by omega]
      by_cases he : (l.drop a).take 3 = nm (m - 1)
      · rw [if_pos he, if_pos ⟨by rw [List.length_drop]; omega, he⟩]
      · rw [if_neg he, if_neg (fun h => he h.2)]
    · rw [if_neg h3, if_neg (fun h => by have := h.1; rw [List.length_drop] at this; omega)]
theorem wh_bd (l : Bs) : ∀ d m, m + d = 13 → 0 ≤ wh l d m ∧ wh l d m ≤ 12 := by
  intro d
  induction d with
  | zero => intro m _; simp only [wh]; omega
  | succ d ih => intro m h; simp only [wh]; split
                 · omega
                 · exact ih (m + 1) (by omega)
theorem wh_nm (j : Nat) (hj : j < 12) (r : Bs) : ∀ d m, m + d = 13 → 1 ≤ m → m ≤ j + 1 → wh (nm j ++ r) d m = ((j + 1 : Nat) : Int) := by
  have hl := nm_len j hj
  intro d
  induction d with
  | zero => intro m _; omega
  | succ d ih =>
    intro m h h1 h2
    simp only [wh]
    rw [List.take_append_of_le_length (by omega), List.take_of_length_le (by omega)]
    by_cases e : nm j = nm (m - 1)
    · rw [if_pos ⟨by rw [List.length_append]; omega, e⟩]; have := nm_inj j hj (m - 1) (by omega) e; omega
    · rw [if_neg (fun h => e h.2)]
      exact ih (m + 1) (by omega) (by omega) (by
        have : j ≠ m - 1 := fun g => e (by rw [g])
        omega)
/-- What the document guesses. -/
def gs (l : Bs) (y d : Int) (mon c : Nat) : Int :=
  if d < 0 then -1 else if Ok3 y (wh (l.drop mon) 12 1) d ∧ (0 ≤ dgt 2 0 (l.drop c) ∧ dgt 2 0 (l.drop c) ≤ 23) ∧ (0 ≤ dgt 2 0 (l.drop (c + 3)) ∧ dgt 2 0 (l.drop (c + 3)) ≤ 59) ∧ (0 ≤ dgt 2 0 (l.drop (c + 6)) ∧ dgt 2 0 (l.drop (c + 6)) ≤ 59)
    then Dn y (wh (l.drop mon) 12 1) d * 86400 + (3600 * dgt 2 0 (l.drop c) + 60 * dgt 2 0 (l.drop (c + 3)) + dgt 2 0 (l.drop (c + 6))) else -1
theorem rguess (l : Bs) (y d : Int) (mon c : Nat) (xm xc : Int) (hxm : xm = mon) (hxc : xc = c) (hmon : mon ≤ 90) (hc : c ≤ 90) (k : Nat) (hk : 8200 ≤ k) : sculleryref05_guess.f k (B l) y xm d xc = some (gs l y d mon c) := by
  subst hxm hxc
  unfold sculleryref05_guess.f gs
  by_cases hd : d < 0
  · rw [if_pos hd, if_pos hd]
  rw [if_neg hd, if_neg hd]
  have hw : sculleryref05_which.f k (B l) mon = some (wh (l.drop mon) 12 1) := by unfold sculleryref05_which.f; exact rwh_l0 l mon (by omega) 12 1 k rfl (by decide) (by omega)
  rw [hw]
  simp only [Option.bind_some]
  rw [rdig l c 2 _ 2 rfl rfl (by omega) (by decide) k (by omega), w64 (x := (c : Int) + 3) (by omega) (by omega), w64 (x := (c : Int) + 6) (by omega) (by omega), rdig l (c + 3) 2 ((c : Int) + 3) 2 (by omega) rfl (by omega) (by decide) k (by omega), rdig l (c + 6) 2 ((c : Int) + 6) 2 (by omega) rfl (by omega) (by decide) k (by omega)]
  generalize wh (l.drop mon) 12 1 = m
  generalize dgt 2 0 (l.drop c) = h
  generalize dgt 2 0 (l.drop (c + 3)) = mi
  generalize dgt 2 0 (l.drop (c + 6)) = s
  by_cases ho : Ok3 y m d
  · rw [rdays_yes y m d ho k (by omega)]
    simp only [Option.bind_some]
    have hn := Dn_nonneg y m d ho
    rw [if_pos trivial]
    by_cases h1 : h < 0
    · rw [if_pos h1, if_neg (by omega)]
    by_cases h2 : h > 23
    · rw [if_neg h1, if_pos h2, if_neg (by omega)]
    by_cases h3 : mi < 0
    · rw [if_neg h1, if_neg h2, if_pos h3, if_neg (by omega)]
    by_cases h4 : mi > 59
    · rw [if_neg h1, if_neg h2, if_neg h3, if_pos h4, if_neg (by omega)]
    by_cases h5 : s < 0
    · rw [if_neg h1, if_neg h2, if_neg h3, if_neg h4, if_pos h5, if_neg (by omega)]
    by_cases h6 : s > 59
    · rw [if_neg h1, if_neg h2, if_neg h3, if_neg h4, if_neg h5, if_pos h6, if_neg (by omega)]
    rw [if_neg h1, if_neg h2, if_neg h3, if_neg h4, if_neg h5, if_neg h6, if_pos ⟨ho, by omega, by omega, by omega⟩]
    rw [w64 (x := 3600 * h) (by omega) (by omega), w64 (x := 60 * mi) (by omega) (by omega), w64 (x := 3600 * h + 60 * mi) (by omega) (by omega), w64 (x := 3600 * h + 60 * mi + s) (by omega) (by omega), w64 (x := 86400 * Dn y m d) (by omega) (by omega), w64 (by omega) (by omega)]
    congr 1; omega
  · rw [rdays_no y m d ho k (by omega)]
    simp only [Option.bind_some]
    rw [if_neg (by decide), if_neg (fun h => ho h.1)]
theorem gs_some (l : Bs) (y d : Int) (mon c : Nat) (h : 0 ≤ gs l y d mon c) : ∃ Y M D H Mi S : Nat, Vd Y M D H Mi S ∧ gs l y d mon c = sec Y M D H Mi S := by
  unfold gs at h ⊢
  by_cases hd : d < 0
  · rw [if_pos hd] at h; omega
  rw [if_neg hd] at h ⊢
  generalize wh (l.drop mon) 12 1 = m at *
  generalize dgt 2 0 (l.drop c) = hh at *
  generalize dgt 2 0 (l.drop (c + 3)) = mi at *
  generalize dgt 2 0 (l.drop (c + 6)) = s at *
  by_cases hc : Ok3 y m d ∧ (0 ≤ hh ∧ hh ≤ 23) ∧ (0 ≤ mi ∧ mi ≤ 59) ∧ (0 ≤ s ∧ s ≤ 59)
  · rw [if_pos hc]
    obtain ⟨ho, h1, h2, h3⟩ := hc
    have hn := ok_nat ho
    obtain ⟨Y, rfl⟩ : ∃ n : Nat, y = n := ⟨y.toNat, by omega⟩
    obtain ⟨M, rfl⟩ : ∃ n : Nat, m = n := ⟨m.toNat, by omega⟩
    obtain ⟨D, rfl⟩ : ∃ n : Nat, d = n := ⟨d.toNat, by omega⟩
    obtain ⟨H, rfl⟩ : ∃ n : Nat, hh = n := ⟨hh.toNat, by omega⟩
    obtain ⟨Mi, rfl⟩ : ∃ n : Nat, mi = n := ⟨mi.toNat, by omega⟩
    obtain ⟨S, rfl⟩ : ∃ n : Nat, s = n := ⟨s.toNat, by omega⟩
    exact ⟨Y, M, D, H, Mi, S, ⟨ho, by omega, by omega, by omega⟩, rfl⟩
  · rw [if_neg hc] at h; omega
theorem gs_of (l : Bs) (y d : Int) (mon c : Nat) (Y M D H Mi S : Nat) (v : Vd Y M D H Mi S) (hy : y = Y) (hd : d = D) (hm : ∃ r, l.drop mon = nm (M - 1) ++ r) (hc : ∃ r, l.drop c = clk H Mi S r) : gs l y d mon c = sec Y M D H Mi S := by
  subst hy hd
  obtain ⟨r, hm⟩ := hm
  obtain ⟨q, hc⟩ := hc
  have hb := v.ok
  obtain ⟨b1, b2, b3, b4, b5, b6⟩ := hb
  obtain ⟨o, h1, h2, h3⟩ := v
  have e1 : wh (l.drop mon) 12 1 = (M : Int) := by rw [hm, wh_nm (M - 1) (by omega) r 12 1 rfl (by decide) (by omega)]; omega
  have e2 : dgt 2 0 (l.drop c) = (H : Int) := by rw [hc]; unfold clk; exact dgt2 H (by omega) _
  have d3 : l.drop (c + 3) = D2 Mi ++ ([58] ++ (D2 S ++ q)) := by rw [← List.drop_drop, hc]; rfl
  have d6 : l.drop (c + 6) = D2 S ++ q := by rw [← List.drop_drop, hc]; rfl
  have e3 : dgt 2 0 (l.drop (c + 3)) = (Mi : Int) := by rw [d3]; exact dgt2 Mi (by omega) _
  have e4 : dgt 2 0 (l.drop (c + 6)) = (S : Int) := by rw [d6]; exact dgt2 S (by omega) _
  unfold gs
  rw [e1, e2, e3, e4, if_neg (by omega), if_pos ⟨o, by omega, by omega, by omega⟩]
  rfl
end Go.Proofs.Ytpddbfodjeoofaa.Pure
