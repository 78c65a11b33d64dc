import Derived.Test.YtpddbfodjeoofaaDateF
/- The day of a number, and date.Print. -/
namespace Go.Proofs.Ytpddbfodjeoofaa.Pure
open Go.RowKit Go.Proofs.Ytpddbfodjeoofaa.PDate Go.Proofs.YtpddbfodjeoofaaW.PrintWords Go.Proofs.YtpddbfodjeoofaaW.PrintLast
set_option linter.unusedSimpArgs false
set_option linter.unusedVariables false

theorem Ah_mono (y : Int) (n : Nat) : Ah y + 365 * n ≤ Ah (y + n) ∧ Ah (y + n) ≤ Ah y + 366 * n := by
  induction n with
  | zero => simp
  | succ n ih =>
    have e := Ah_succ (y + n)
    rw [show y + (n : Int) + 1 = y + ((n + 1 : Nat) : Int) by push_cast; omega] at e
    rw [e]
    split <;> omega
theorem Cm_mono (y : Int) (i n : Nat) : Cm y i ≤ Cm y (i + n) := by
  induction n with
  | zero => exact Int.le_refl _
  | succ n ih => have := Lg_bd y (i + n + 1); have e : Cm y (i + (n + 1)) = Cm y (i + n) + Lg y ((i + n : Nat) + 1) := rfl; rw [e]; push_cast; omega
theorem Cm_12 (y : Int) : Cm y 12 = 365 + (if Lp y = true then 1 else 0) := by
  simp only [Cm, Lg]
  cases Lp y <;> simp
theorem Dn_lt {y m d : Int} (h : Ok3 y m d) : Ah y - Ah 1970 ≤ Dn y m d ∧ Dn y m d < Ah (y + 1) - Ah 1970 := by
  obtain ⟨h1, h2, h3, h4, h5, h6⟩ := h
  have hc := Cm_bd y (m - 1).toNat
  have e : Cm y ((m - 1).toNat + 1) = Cm y (m - 1).toNat + Lg y m := by simp only [Cm]; rw [show (((m - 1).toNat : Int) + 1) = m by omega]
  have hm := Cm_mono y ((m - 1).toNat + 1) (12 - ((m - 1).toNat + 1))
  rw [show (m - 1).toNat + 1 + (12 - ((m - 1).toNat + 1)) = 12 by omega, Cm_12] at hm
  have ha := Ah_succ y
  unfold Dn
  omega
theorem of_l1 (Y M D : Int) (h : Ok3 Y M D) : ∀ (e j k : Nat), (j : Int) + e = M - 1 → e + 2 ≤ k → date_of.l1 k (D - 1 + Cm Y (M - 1).toNat - Cm Y j) Y ((j : Int) + 1) = some (Y, M, D) := by
  obtain ⟨h1, h2, h3, h4, h5, h6⟩ := id h
  intro e
  induction e with
  | zero =>
    intro j k hj hk
    obtain ⟨k, rfl⟩ : ∃ n, k = n + 1 := ⟨k - 1, by omega⟩
    have hjm : j = (M - 1).toNat := by omega
    have hL := Lg_bd Y M
    simp only [date_of.l1]
    rw [long_eq Y _ (by omega) k (by omega)]; simp only [Option.bind_some]
    rw [show (j : Int) + 1 = M by omega, ← hjm, show D - 1 + Cm Y j - Cm Y j = D - 1 by omega, if_neg (by omega), w64 (by omega) (by omega)]
    congr 3; omega
  | succ e ih =>
    intro j k hj hk
    obtain ⟨k, rfl⟩ : ∃ n, k = n + 1 := ⟨k - 1, by omega⟩
    have hL := Lg_bd Y (j + 1)
    have hLM := Lg_bd Y M
    have hc := Cm_bd Y (M - 1).toNat
    have hcj := Cm_bd Y j
    have hm := Cm_mono Y (j + 1) ((M - 1).toNat - (j + 1))
    rw [show j + 1 + ((M - 1).toNat - (j + 1)) = (M - 1).toNat by omega] at hm
    have ec : Cm Y (j + 1) = Cm Y j + Lg Y ((j : Int) + 1) := rfl
    simp only [date_of.l1]
    rw [long_eq Y _ (by omega) k (by omega)]; simp only [Option.bind_some]
    rw [if_pos (by omega), w64 (x := D - 1 + Cm Y (M - 1).toNat - Cm Y j - Lg Y (j + 1)) (by omega) (by omega), w64 (x := (j : Int) + 1 + 1) (by omega) (by omega)]
    have := ih (j + 1) k (by push_cast; omega) (by omega)
    rw [ec] at this
    rw [show D - 1 + Cm Y (M - 1).toNat - Cm Y j - Lg Y (↑j + 1) = D - 1 + Cm Y (M - 1).toNat - (Cm Y j + Lg Y (↑j + 1)) by omega]
    exact this
theorem of_l0 (Y M D : Int) (h : Ok3 Y M D) : ∀ (e k : Nat) (y : Int), y + e = Y → 1970 ≤ y → e + 30 ≤ k → date_of.l0 k (Dn Y M D) y = some (Y, M, D) := by
  obtain ⟨h1, h2, h3, h4, h5, h6⟩ := id h
  have hd := Dn_lt h
  have hb := Dn_nonneg Y M D h
  intro e
  induction e with
  | zero =>
    intro k y hy hy0 hk
    obtain ⟨k, rfl⟩ : ∃ n, k = n + 1 := ⟨k - 1, by omega⟩
    obtain rfl : y = Y := by omega
    have a1 := Ah_bd (y + 1) (by omega) (by omega)
    have a2 := Ah_bd y (by omega) (by omega)
    simp only [date_of.l0]
    rw [w64 (x := y + 1) (by omega) (by omega), ahead_eq (y + 1) (by omega) (by omega), ahead_eq 1970 (by decide) (by decide), ahead_eq y (by omega) (by omega)]
    simp only [Option.bind_some]
    rw [w64 (x := Ah (y + 1) - Ah 1970) (by omega) (by omega), if_neg (by omega), w64 (x := Ah y - Ah 1970) (by omega) (by omega), w64 (x := Dn y M D - (Ah y - Ah 1970)) (by omega) (by omega)]
    have := of_l1 y M D h (M - 1).toNat 0 k (by omega) (by omega)
    simp only [Cm] at this
    rw [show D - 1 + Cm y (M - 1).toNat - 0 = Dn y M D - (Ah y - Ah 1970) by unfold Dn; omega] at this
    exact this
  | succ e ih =>
    intro k y hy hy0 hk
    obtain ⟨k, rfl⟩ : ∃ n, k = n + 1 := ⟨k - 1, by omega⟩
    have a1 := Ah_bd (y + 1) (by omega) (by omega)
    have a3 := Ah_mono (y + 1) e
    rw [show y + 1 + (e : Int) = Y by push_cast at hy; omega] at a3
    simp only [date_of.l0]
    rw [w64 (x := y + 1) (by omega) (by omega), ahead_eq (y + 1) (by omega) (by omega), ahead_eq 1970 (by decide) (by decide)]
    simp only [Option.bind_some]
    rw [w64 (x := Ah (y + 1) - Ah 1970) (by omega) (by omega), if_pos (by omega)]
    exact ih k (y + 1) (by push_cast at hy; omega) (by omega) (by omega)
theorem of_eq (Y M D : Int) (h : Ok3 Y M D) (k : Nat) (hk : 9000 ≤ k) : date_of.f k (Dn Y M D) = some (Y, M, D) := by
  obtain ⟨h1, h2, h3, h4, h5, h6⟩ := id h
  have hd := Dn_lt h
  have hb := Dn_nonneg Y M D h
  have a1 := Ah_mono 1970 (Y + 1 - 1970).toNat
  rw [show (1970 : Int) + ((Y + 1 - 1970).toNat : Int) = Y + 1 by omega] at a1
  unfold date_of.f
  rw [Int.tdiv_eq_ediv_of_nonneg hb.1, w64 (x := Dn Y M D / 366) (by omega) (by omega), w64 (by omega) (by omega)]
  exact of_l0 Y M D h (Y - (1970 + Dn Y M D / 366)).toNat k _ (by omega) (by omega) (by omega)
theorem day_ex (N : Int) (h0 : 0 ≤ N) (h1 : N < 2932897) : ∃ y m d : Nat, Ok3 y m d ∧ Dn y m d = N := by
  have ey : ∀ n : Nat, N < Ah (1970 + (n : Int)) - Ah 1970 → ∃ i : Nat, i < n ∧ Ah (1970 + (i : Int)) - Ah 1970 ≤ N ∧ N < Ah (1970 + (i : Int) + 1) - Ah 1970 := by
    intro n
    induction n with
    | zero => intro h; simp at h; omega
    | succ n ih =>
      intro h
      by_cases g : N < Ah (1970 + (n : Int)) - Ah 1970
      · obtain ⟨i, hi, a⟩ := ih g; exact ⟨i, by omega, a⟩
      · refine ⟨n, by omega, by omega, ?_⟩
        rw [show (1970 : Int) + (n : Int) + 1 = 1970 + ((n + 1 : Nat) : Int) by push_cast; omega]; exact h
  obtain ⟨i, hi, ha, hb⟩ := ey 8030 (by unfold Ah; omega)
  have em : ∀ n : Nat, N - (Ah (1970 + (i : Int)) - Ah 1970) < Cm (1970 + (i : Int)) n → ∃ j : Nat, j < n ∧ Cm (1970 + (i : Int)) j ≤ N - (Ah (1970 + (i : Int)) - Ah 1970) ∧ N - (Ah (1970 + (i : Int)) - Ah 1970) < Cm (1970 + (i : Int)) (j + 1) := by
    intro n
    induction n with
    | zero => intro h; simp only [Cm] at h; omega
    | succ n ih =>
      intro h
      by_cases g : N - (Ah (1970 + (i : Int)) - Ah 1970) < Cm (1970 + (i : Int)) n
      · obtain ⟨j, hj, a⟩ := ih g; exact ⟨j, by omega, a⟩
      · exact ⟨n, by omega, by omega, h⟩
  have e1 := Ah_succ (1970 + (i : Int))
  obtain ⟨j, hj, hc, hd⟩ := em 12 (by rw [Cm_12]; omega)
  have ec : Cm (1970 + (i : Int)) (j + 1) = Cm (1970 + (i : Int)) j + Lg (1970 + (i : Int)) ((j : Int) + 1) := rfl
  refine ⟨1970 + i, j + 1, (N - (Ah (1970 + (i : Int)) - Ah 1970) - Cm (1970 + (i : Int)) j).toNat + 1, ?_, ?_⟩
  · have g1 : ((1970 + i : Nat) : Int) = 1970 + (i : Int) := by omega
    have g2 : ((j + 1 : Nat) : Int) = (j : Int) + 1 := by omega
    rw [g1, g2]
    refine ⟨by omega, by omega, by omega, by omega, by omega, ?_⟩
    omega
  · have g1 : ((1970 + i : Nat) : Int) = 1970 + (i : Int) := by omega
    have g2 : ((j + 1 : Nat) : Int) = (j : Int) + 1 := by omega
    rw [g1, g2]
    unfold Dn
    rw [show ((j : Int) + 1 - 1).toNat = j by omega]
    omega
theorem Dn_inj {y m d y' m' d' : Nat} (h : Ok3 y m d) (h' : Ok3 y' m' d') (e : Dn y m d = Dn y' m' d') : y = y' ∧ m = m' ∧ d = d' := by
  obtain ⟨k, hk⟩ : ∃ k : Nat, 9000 ≤ k := ⟨9000, Nat.le_refl _⟩
  have a := of_eq _ _ _ h k hk
  have b := of_eq _ _ _ h' k hk
  rw [e, b] at a
  simp only [Option.some.injEq, Prod.mk.injEq] at a
  omega
theorem sec_inj {y m d h mi s y' m' d' h' mi' s' : Nat} (v : Vd y m d h mi s) (v' : Vd y' m' d' h' mi' s') (e : sec y m d h mi s = sec y' m' d' h' mi' s') : y = y' ∧ m = m' ∧ d = d' ∧ h = h' ∧ mi = mi' ∧ s = s' := by
  have := v.hh; have := v.hm; have := v.hs; have := v'.hh; have := v'.hm; have := v'.hs
  unfold sec at e
  have ed : Dn y m d = Dn y' m' d' := by omega
  have := Dn_inj v.ok v'.ok ed
  omega
set_option maxRecDepth 100000 in
theorem sec_bd {y m d h mi s : Nat} (v : Vd y m d h mi s) : 0 ≤ sec y m d h mi s ∧ sec y m d h mi s < 253402300800 ∧ sec y m d h mi s / 86400 = Dn y m d ∧ sec y m d h mi s % 86400 = 3600 * (h : Int) + 60 * mi + s := by
  have := v.hh; have := v.hm; have := v.hs
  have hb := Dn_nonneg _ _ _ v.ok
  have hd := Dn_lt v.ok
  have ho := v.ok
  obtain ⟨h1, h2, h3, h4, h5, h6⟩ := ho
  have a1 := Ah_mono ((y : Int) + 1) (10000 - ((y : Int) + 1)).toNat
  rw [show (y : Int) + 1 + ((10000 - ((y : Int) + 1)).toNat : Int) = 10000 by omega] at a1
  have : Ah 10000 - Ah 1970 = 2932897 := by unfold Ah; omega
  unfold sec
  omega
theorem sec_ex (n : Int) (h0 : 0 ≤ n) (h1 : n < 253402300800) : ∃ y m d h mi s, Vd y m d h mi s ∧ n = sec y m d h mi s := by
  obtain ⟨y, m, d, ho, hd⟩ := day_ex (n / 86400) (by omega) (by omega)
  refine ⟨y, m, d, (n % 86400 / 3600).toNat, (n % 86400 / 60 % 60).toNat, (n % 86400 % 60).toNat, ⟨ho, by omega, by omega, by omega⟩, ?_⟩
  unfold sec
  rw [hd]
  omega
theorem digits2_all : ∀ n : Fin 100, date_digits.f 4 (n.val : Int) 2 = some (B (D2 n.val)) := by decide +kernel
theorem digits2 (n : Nat) (h : n < 100) (k : Nat) (hk : 4 ≤ k) : date_digits.f k n 2 = some (B (D2 n)) := at_rounds (date_digits.mono n 2) hk (digits2_all ⟨n, h⟩)
theorem digits_step (k n M i : Nat) (xs : List Int) (hi : i < M) (hl : xs.length = M) (hM : M ≤ 10) (hn : n ≤ 1000000) :
    date_digits.l0 (k + 1) n M xs M i = date_digits.l0 k ((n / 10 : Nat) : Int) M (xs.set (M - 1 - i) (((48 + n % 10 : Nat) : Int))) M ((i + 1 : Nat) : Int) := by
  simp only [date_digits.l0]
  rw [if_pos (by omega), w64 (x := (M : Int) - 1) (by omega) (by omega), w64 (x := (M : Int) - 1 - i) (by omega) (by omega), if_pos (by omega), hl, if_pos (by omega), w64 (x := (i : Int) + 1) (by omega) (by omega)]
  rw [Int.tmod_eq_emod_of_nonneg (by omega), Int.tdiv_eq_ediv_of_nonneg (by omega)]
  rw [show wrap64 ((n : Int) / 10) = ((n / 10 : Nat) : Int) by rw [w64 (by omega) (by omega)]; omega]
  rw [w64 (x := 48 + (n : Int) % 10) (by omega) (by omega)]
  congr 1
  · congr 1
    · omega
    · omega
theorem digits4 (n : Nat) (h : n < 10000) (k : Nat) (hk : 6 ≤ k) : date_digits.f k n 4 = some (B (D4 n)) := by
  obtain ⟨k, rfl⟩ : ∃ j, k = j + 1 + 1 + 1 + 1 + 1 := ⟨k - 5, by omega⟩
  unfold date_digits.f
  rw [if_pos (by decide), if_pos (by decide)]
  simp only [Option.bind_some]
  rw [show List.replicate (4 : Int).toNat (0 : Int) = [0, 0, 0, 0] from rfl, show (([0, 0, 0, 0] : List Int).length : Int) = ((4 : Nat) : Int) from rfl, show (4 : Int) = ((4 : Nat) : Int) from rfl, show (0 : Int) = ((0 : Nat) : Int) from rfl]
  rw [digits_step _ n 4 0 _ (by decide) rfl (by decide) (by omega), digits_step _ _ 4 1 _ (by decide) rfl (by decide) (by omega), digits_step _ _ 4 2 _ (by decide) rfl (by decide) (by omega), digits_step _ _ 4 3 _ (by decide) rfl (by decide) (by omega)]
  simp only [date_digits.l0]
  rw [if_neg (by decide), B_nums]
  show some (B [UInt8.ofNat (48 + n / 10 / 10 / 10 % 10), UInt8.ofNat (48 + n / 10 / 10 % 10), UInt8.ofNat (48 + n / 10 % 10), UInt8.ofNat (48 + n % 10)]) = _
  unfold D4
  rw [show n / 10 / 10 / 10 % 10 = n / 1000 by omega, show n / 10 / 10 % 10 = n / 100 % 10 by omega]
theorem nm_eq (m : Nat) (h : 1 ≤ m) (h' : m ≤ 12) : (wrap64 ((m : Int) - 1)) = ((m - 1 : Nat) : Int) := by rw [w64 (by omega) (by omega)]; omega
theorem F1_len (y m d h mi s : Nat) (v : Vd y m d h mi s) : (F1 y m d h mi s).length = 29 := by
  have := wdn_len _ (wdy_lt y m d)
  obtain ⟨h1, h2, h3, h4, h5, h6⟩ := v.ok
  unfold F1 t1 clk
  simp only [List.length_append, List.length_take, nm_len (m - 1) (by omega), D2, D4, List.length_cons, List.length_nil]
  omega
theorem print_no (n : Int) (h : n < 0 ∨ 253402300800 ≤ n) (k : Nat) (hk : 1 ≤ k) : date_Print.f k n = some (B [], 6) := by
  obtain ⟨k, rfl⟩ : ∃ j, k = j + 1 := ⟨k - 1, by omega⟩
  have J : date_Print.j0 (k + 1) n true = some (B [], 6) := by simp only [date_Print.j0]; rw [if_pos trivial]; rfl
  unfold date_Print.f
  rcases h with h | h
  · rw [if_pos h, J]
  · rw [if_neg (by omega), decide_eq_true h, J]
theorem print_yes (y m d h mi s : Nat) (v : Vd y m d h mi s) (k : Nat) (hk : 9001 ≤ k) : date_Print.f k (sec y m d h mi s) = some (B (F1 y m d h mi s), 0) := by
  obtain ⟨k, rfl⟩ : ∃ j, k = j + 1 := ⟨k - 1, by omega⟩
  have hb := sec_bd v
  have hn := Dn_nonneg _ _ _ v.ok
  have hw := wdn_len _ (wdy_lt y m d)
  obtain ⟨b1, b2, b3⟩ := v
  have b0 := b1
  obtain ⟨h1, h2, h3, h4, h5, h6⟩ := b0
  have hL := Lg_bd y m
  unfold date_Print.f
  rw [if_neg (by omega), decide_eq_false (by omega)]
  simp only [date_Print.j0]
  rw [if_neg (by decide), Int.tdiv_eq_ediv_of_nonneg hb.1, Int.tmod_eq_emod_of_nonneg hb.1, Int.tmod_eq_emod_of_nonneg hb.1, hb.2.2.1, hb.2.2.2, w64 (x := Dn y m d) (by omega) (by omega), of_eq _ _ _ b1 k (by omega)]
  simp only [Option.bind_some]
  rw [Int.tdiv_eq_ediv_of_nonneg (by omega), Int.tdiv_eq_ediv_of_nonneg (by omega)]
  rw [w64 (x := (3600 * (h : Int) + 60 * mi + s) / 3600) (by omega) (by omega), w64 (x := (3600 * (h : Int) + 60 * mi + s) / 60) (by omega) (by omega), Int.tmod_eq_emod_of_nonneg (by omega)]
  rw [show (3600 * (h : Int) + 60 * mi + s) / 3600 = (h : Int) by omega, show (3600 * (h : Int) + 60 * mi + s) / 60 % 60 = (mi : Int) by omega, show sec y m d h mi s % 60 = (s : Int) by omega]
  rw [digits2 h (by omega) k (by omega), digits2 mi (by omega) k (by omega), digits2 s (by omega) k (by omega), digits2 d (by omega) k (by omega), digits4 y (by omega) k (by omega), wd_eq _ hn.1]
  unfold date_weekdays.f date_names.f
  simp only [Option.bind_some]
  rw [nm_eq m (by omega) (by omega), arr_nm (m - 1) (by omega), show (Dn y m d % 7 + 4) % 7 = ((wdy y m d : Nat) : Int) by unfold wdy; omega, arr_wd _ (wdy_lt y m d)]
  have ln := nm_len (m - 1) (by omega)
  simp only [B_lit, B_extract, B_append, B_size, List.drop_zero]
  have hwl := wdy_lt y m d
  have lw : ((wdn (wdy y m d)).take 3).length = 3 := by rw [List.length_take]; omega
  repeat rw [if_pos (by first | omega | (simp only [List.length_append, lw, ln, D2, D4, List.length_cons, List.length_nil]; omega))]
  congr 3
  unfold F1 t1 clk
  simp only [List.append_assoc, List.append_nil]
end Go.Proofs.Ytpddbfodjeoofaa.Pure
