import Derived.Test.YtpddbfodjeoofaaPDatex11
import Derived.Test.YtpddbfodjeoofaaDateG
/- The document's dates: its days, its forms, its guess and its search are the program's. -/
namespace Go.Proofs.Ytpddbfodjeoofaa.Pure
open Go.RowKit Go.Proofs.Ytpddbfodjeoofaa.PDate Go.Proofs.YtpddbfodjeoofaaW.PrintWords Go.Proofs.YtpddbfodjeoofaaW.PrintLast
set_option linter.unusedSimpArgs false
set_option linter.unusedVariables false

theorem rleap_eq (y : Int) (h : 0 ≤ y) : sculleryref05_leap.f y = some (Lp y) := by have := leap_eq y h; unfold date_leap.f at this; unfold sculleryref05_leap.f; exact this
theorem rlong_eq (y m : Int) (h : 0 ≤ y) (h1 : 1 ≤ m) (h2 : m ≤ 12) : sculleryref05_long.f y m = some (Lg y m) := by
  unfold sculleryref05_long.f Lg
  simp only [Option.bind_some]
  have : m = 1 ∨ m = 2 ∨ m = 3 ∨ m = 4 ∨ m = 5 ∨ m = 6 ∨ m = 7 ∨ m = 8 ∨ m = 9 ∨ m = 10 ∨ m = 11 ∨ m = 12 := by omega
  rw [rleap_eq y h]
  rcases this with rfl | rfl | rfl | rfl | rfl | rfl | rfl | rfl | rfl | rfl | rfl | rfl <;> first | rfl | (simp only [Option.bind_some]; cases Lp y <;> rfl)
theorem rdays_l1 (y m d : Int) (hy : 0 ≤ y) (hm : m ≤ 12) : ∀ (e j k : Nat) (x : Int), (j : Int) + e = m - 1 → e + 2 ≤ k → 0 ≤ x → x + 31 * e ≤ 100000000 → 0 ≤ d → d ≤ 31 →
    sculleryref05_Days.l1 k y m d x ((j : Int) + 1) = some (x + (Cm y (m - 1).toNat - Cm y j) + d - 1, 0) := by
  intro e
  induction e with
  | zero =>
    intro j k x hj hk h0 hb hd hd'
    obtain ⟨k, rfl⟩ : ∃ n, k = n + 1 := ⟨k - 1, by omega⟩
    simp only [sculleryref05_Days.l1]
    rw [if_neg (by omega), w64 (x := x + d) (by omega) (by omega), w64 (by omega) (by omega), show (m - 1).toNat = j by omega]
    congr 2; omega
  | succ e ih =>
    intro j k x hj hk h0 hb hd hd'
    obtain ⟨k, rfl⟩ : ∃ n, k = n + 1 := ⟨k - 1, by omega⟩
    have hL := Lg_bd y (j + 1)
    simp only [sculleryref05_Days.l1]
    rw [if_pos (by omega), rlong_eq y (j + 1) hy (by omega) (by omega)]
    simp only [Option.bind_some]
    rw [w64 (x := x + Lg y (j + 1)) (by omega) (by omega), w64 (x := (j : Int) + 1 + 1) (by omega) (by omega)]
    have := ih (j + 1) k (x + Lg y (j + 1)) (by push_cast; omega) (by omega) (by omega) (by push_cast at hb; omega) hd hd'
    rw [show (((j + 1 : Nat) : Int) + 1) = (j : Int) + 1 + 1 from by push_cast; rfl] at this
    rw [this]
    simp only [Cm]
    congr 2; omega
theorem rdays_l0 (y m d : Int) (hy' : y ≤ 9999) (h1 : 1 ≤ m) (hm : m ≤ 12) (hd : 0 ≤ d) (hd' : d ≤ 31) : ∀ (e k : Nat) (z x : Int), z + e = y → 1970 ≤ z → e + 20 ≤ k → 0 ≤ x → x + 366 * e ≤ 10000000 →
    sculleryref05_Days.l0 k y m d x z = some (x + (Ah y - Ah z) + Cm y (m - 1).toNat + d - 1, 0) := by
  intro e
  induction e with
  | zero =>
    intro k z x hz hz0 hk h0 hb
    obtain ⟨k, rfl⟩ : ∃ n, k = n + 1 := ⟨k - 1, by omega⟩
    obtain rfl : z = y := by omega
    simp only [sculleryref05_Days.l0]
    rw [if_neg (by omega)]
    have := rdays_l1 z m d (by omega) hm (m - 1).toNat 0 k x (by omega) (by omega) h0 (by omega) hd hd'
    simp only [Cm] at this
    rw [show (((0 : Nat) : Int) + 1) = 1 from rfl] at this
    rw [this]
    congr 2; omega
  | succ e ih =>
    intro k z x hz hz0 hk h0 hb
    obtain ⟨k, rfl⟩ : ∃ n, k = n + 1 := ⟨k - 1, by omega⟩
    have hA := Ah_succ z
    simp only [sculleryref05_Days.l0]
    rw [if_pos (by omega), rleap_eq z (by omega)]
    simp only [Option.bind_some]
    rw [w64 (x := z + 1) (by omega) (by omega), w64 (x := x + 365) (by omega) (by omega), w64 (x := x + 365 + 1) (by omega) (by omega)]
    by_cases h : Lp z = true
    · rw [if_pos h] at hA ⊢
      rw [ih k (z + 1) (x + 365 + 1) (by push_cast at hz; omega) (by omega) (by omega) (by omega) (by push_cast at hb; omega)]
      congr 2; omega
    · rw [if_neg h] at hA ⊢
      rw [ih k (z + 1) (x + 365) (by push_cast at hz; omega) (by omega) (by omega) (by omega) (by push_cast at hb; omega)]
      congr 2; omega
theorem rdays_no (y m d : Int) (h : ¬ Ok3 y m d) (k : Nat) (hk : 1 ≤ k) : sculleryref05_Days.f k y m d = some (0, 1) := by
  obtain ⟨k, rfl⟩ : ∃ n, k = n + 1 := ⟨k - 1, by omega⟩
  have J : sculleryref05_Days.j0 (k + 1) y m d true = some (0, 1) := by simp only [sculleryref05_Days.j0]; rw [if_pos trivial]
  unfold sculleryref05_Days.f
  by_cases a : y < 1970
  · rw [if_pos a, J]
  by_cases b : y > 9999
  · rw [if_neg a, if_pos b, J]
  by_cases c : m < 1
  · rw [if_neg a, if_neg b, if_pos c, J]
  by_cases e : m > 12
  · rw [if_neg a, if_neg b, if_neg c, if_pos e, J]
  by_cases f : d < 1
  · rw [if_neg a, if_neg b, if_neg c, if_neg e, if_pos f, J]
  rw [if_neg a, if_neg b, if_neg c, if_neg e, if_neg f, rlong_eq y m (by omega) (by omega) (by omega)]
  simp only [Option.bind_some]
  have : d > Lg y m := by unfold Ok3 at h; omega
  rw [decide_eq_true this, J]
theorem rdays_yes (y m d : Int) (h : Ok3 y m d) (k : Nat) (hk : 8100 ≤ k) : sculleryref05_Days.f k y m d = some (Dn y m d, 0) := by
  obtain ⟨h1, h2, h3, h4, h5, h6⟩ := h
  have hL := Lg_bd y m
  obtain ⟨k, rfl⟩ : ∃ n, k = n + 1 := ⟨k - 1, by omega⟩
  unfold sculleryref05_Days.f
  rw [if_neg (by omega), if_neg (by omega), if_neg (by omega), if_neg (by omega), if_neg (by omega), rlong_eq y m (by omega) (by omega) (by omega)]
  simp only [Option.bind_some]
  rw [decide_eq_false (show ¬ d > Lg y m by omega)]
  simp only [sculleryref05_Days.j0]
  rw [if_neg (by decide), rdays_l0 y m d h2 h3 h4 (by omega) (by omega) (y - 1970).toNat k 1970 0 (by omega) (by decide) (by omega) (by decide) (by omega)]
  unfold Dn
  congr 2; omega
theorem rwd_eq (n : Int) : sculleryref05_Weekday.f n = date_Weekday.f n := rfl
theorem rtwo_all : ∀ n : Fin 100, sculleryref05_two.f (n.val : Int) = some (B (D2 n.val)) := by decide +kernel
theorem rtwo (n : Nat) (h : n < 100) : sculleryref05_two.f (n : Int) = some (B (D2 n)) := rtwo_all ⟨n, h⟩
theorem rmonth_all : ∀ n : Fin 12, sculleryref05_month.f ((n.val + 1 : Nat) : Int) = some (B (nm n.val)) := by decide +kernel
theorem rmonth (m : Nat) (h : 1 ≤ m) (h' : m ≤ 12) : sculleryref05_month.f (m : Int) = some (B (nm (m - 1))) := by
  have := rmonth_all ⟨m - 1, by omega⟩
  rwa [show (m - 1) + 1 = m by omega] at this
theorem rweekday_all : ∀ n : Fin 7, sculleryref05_weekday.f (n.val : Int) = some (B (wdn n.val)) := by decide +kernel
theorem rweekday (w : Nat) (h : w < 7) : sculleryref05_weekday.f (w : Int) = some (B (wdn w)) := rweekday_all ⟨w, h⟩
theorem rday_l1 (Y M D : Int) (h : Ok3 Y M D) : ∀ (e j k : Nat), (j : Int) + e = M - 1 → e + 2 ≤ k → sculleryref05_day.l1 k (D - 1 + Cm Y (M - 1).toNat - Cm Y j) Y ((j : Int) + 1) = some (Y, M, D) := by
  obtain ⟨h1, h2, h3, h4, h5, h6⟩ := id h
  intro e
  induction e with
  | zero =>
    intro j k hj hk
    obtain ⟨k, rfl⟩ : ∃ n, k = n + 1 := ⟨k - 1, by omega⟩
    have hjm : j = (M - 1).toNat := by omega
    have hL := Lg_bd Y M
    simp only [sculleryref05_day.l1]
    rw [rlong_eq Y _ (by omega) (by omega) (by omega)]; simp only [Option.bind_some]
    rw [show (j : Int) + 1 = M by omega, ← hjm, show D - 1 + Cm Y j - Cm Y j = D - 1 by omega, if_neg (by omega), w64 (by omega) (by omega)]
    congr 3; omega
  | succ e ih =>
    intro j k hj hk
    obtain ⟨k, rfl⟩ : ∃ n, k = n + 1 := ⟨k - 1, by omega⟩
    have hL := Lg_bd Y (j + 1)
    have hLM := Lg_bd Y M
    have hc := Cm_bd Y (M - 1).toNat
    have hcj := Cm_bd Y j
    have hm := Cm_mono Y (j + 1) ((M - 1).toNat - (j + 1))
    rw [show j + 1 + ((M - 1).toNat - (j + 1)) = (M - 1).toNat by omega] at hm
    have ec : Cm Y (j + 1) = Cm Y j + Lg Y ((j : Int) + 1) := rfl
    simp only [sculleryref05_day.l1]
    rw [rlong_eq Y _ (by omega) (by omega) (by omega)]; simp only [Option.bind_some]
    rw [if_pos (by omega), w64 (x := D - 1 + Cm Y (M - 1).toNat - Cm Y j - Lg Y (j + 1)) (by omega) (by omega), w64 (x := (j : Int) + 1 + 1) (by omega) (by omega)]
    have := ih (j + 1) k (by push_cast; omega) (by omega)
    rw [ec] at this
    rw [show D - 1 + Cm Y (M - 1).toNat - Cm Y j - Lg Y (↑j + 1) = D - 1 + Cm Y (M - 1).toNat - (Cm Y j + Lg Y (↑j + 1)) by omega]
    exact this
theorem rday_l0 (Y M D : Int) (h : Ok3 Y M D) : ∀ (e k : Nat) (y : Int), y + e = Y → 1970 ≤ y → e + 30 ≤ k → sculleryref05_day.l0 k (Dn Y M D - (Ah y - Ah 1970)) y = some (Y, M, D) := by
  obtain ⟨h1, h2, h3, h4, h5, h6⟩ := id h
  have hd := Dn_lt h
  have hb := Dn_nonneg Y M D h
  intro e
  induction e with
  | zero =>
    intro k y hy hy0 hk
    obtain ⟨k, rfl⟩ : ∃ n, k = n + 1 + 1 := ⟨k - 2, by omega⟩
    obtain rfl : y = Y := by omega
    have hA := Ah_succ y
    have := rday_l1 y M D h (M - 1).toNat 0 k (by omega) (by omega)
    simp only [Cm] at this
    rw [show D - 1 + Cm y (M - 1).toNat - 0 = Dn y M D - (Ah y - Ah 1970) by unfold Dn; omega, show (((0 : Nat) : Int) + 1) = 1 from rfl] at this
    simp only [sculleryref05_day.l0]
    rw [rleap_eq y (by omega)]
    simp only [Option.bind_some]
    by_cases hl : Lp y = true
    · rw [if_pos hl] at hA ⊢
      rw [if_pos (by omega)]; simp only [sculleryref05_day.j1]; exact this
    · rw [if_neg hl] at hA ⊢
      rw [if_pos (by omega)]; simp only [sculleryref05_day.j1]; exact this
  | succ e ih =>
    intro k y hy hy0 hk
    obtain ⟨k, rfl⟩ : ∃ n, k = n + 1 := ⟨k - 1, by omega⟩
    have hA := Ah_succ y
    have a1 := Ah_bd (y + 1) (by omega) (by omega)
    have a3 := Ah_mono (y + 1) e
    rw [show y + 1 + (e : Int) = Y by push_cast at hy; omega] at a3
    have a4 := Ah_bd y (by omega) (by omega)
    have hi := ih k (y + 1) (by push_cast at hy; omega) (by omega) (by omega)
    simp only [sculleryref05_day.l0]
    rw [rleap_eq y (by omega)]
    simp only [Option.bind_some]
    rw [w64 (x := y + 1) (by omega) (by omega)]
    by_cases hl : Lp y = true
    · rw [if_pos hl] at hA ⊢
      rw [if_neg (by omega), w64 (by omega) (by omega), show Dn Y M D - (Ah y - Ah 1970) - 366 = Dn Y M D - (Ah (y + 1) - Ah 1970) by omega]; exact hi
    · rw [if_neg hl] at hA ⊢
      rw [if_neg (by omega), w64 (by omega) (by omega), show Dn Y M D - (Ah y - Ah 1970) - 365 = Dn Y M D - (Ah (y + 1) - Ah 1970) by omega]; exact hi
theorem rday_eq (Y M D : Int) (h : Ok3 Y M D) (k : Nat) (hk : 9000 ≤ k) : sculleryref05_day.f k (Dn Y M D) = some (Y, M, D) := by
  obtain ⟨h1, h2, h3, h4, h5, h6⟩ := id h
  unfold sculleryref05_day.f
  have := rday_l0 Y M D h (Y - 1970).toNat k 1970 (by omega) (by decide) (by omega)
  rwa [show Dn Y M D - (Ah 1970 - Ah 1970) = Dn Y M D by omega] at this
theorem D4_D2 (y : Nat) (h : y < 10000) : D2 (y / 100) ++ D2 (y % 100) = D4 y := by
  unfold D2 D4
  simp only [List.cons_append, List.nil_append]
  rw [show y / 100 / 10 = y / 1000 by omega, show y % 100 / 10 = y / 10 % 10 by omega, show y % 100 % 10 = y % 10 by omega]
def F2x (y m d h mi s : Nat) : Bs := if y > 2069 then [] else F2 y m d h mi s
set_option maxHeartbeats 1000000 in
theorem rforms_eq (y m d h mi s : Nat) (v : Vd y m d h mi s) (k : Nat) (hk : 9001 ≤ k) : sculleryref05_forms.f k (sec y m d h mi s) = some (B (F1 y m d h mi s), B (F2x y m d h mi s), B (F3 y m d h mi s)) := by
  obtain ⟨k, rfl⟩ : ∃ j, k = j + 1 := ⟨k - 1, by omega⟩
  have hb := sec_bd v
  have hn := Dn_nonneg _ _ _ v.ok
  have hw := wdn_len _ (wdy_lt y m d)
  have hwl := wdy_lt y m d
  obtain ⟨b1, b2, b3⟩ := v
  have b0 := b1
  obtain ⟨h1, h2, h3, h4, h5, h6⟩ := b0
  have hL := Lg_bd y m
  have lw : ((wdn (wdy y m d)).take 3).length = 3 := by rw [List.length_take]; omega
  have ln := nm_len (m - 1) (by omega)
  unfold sculleryref05_forms.f
  rw [Int.tdiv_eq_ediv_of_nonneg hb.1, Int.tmod_eq_emod_of_nonneg hb.1, Int.tmod_eq_emod_of_nonneg hb.1, hb.2.2.1, hb.2.2.2, w64 (x := Dn y m d) (by omega) (by omega), rday_eq _ _ _ b1 (k + 1) (by omega)]
  simp only [Option.bind_some]
  rw [Int.tdiv_eq_ediv_of_nonneg (by omega), Int.tdiv_eq_ediv_of_nonneg (by omega), Int.tdiv_eq_ediv_of_nonneg (by omega)]
  rw [w64 (x := (3600 * (h : Int) + 60 * mi + s) / 3600) (by omega) (by omega), w64 (x := (3600 * (h : Int) + 60 * mi + s) / 60) (by omega) (by omega), w64 (x := (y : Int) / 100) (by omega) (by omega), Int.tmod_eq_emod_of_nonneg (by omega), Int.tmod_eq_emod_of_nonneg (by omega)]
  rw [show (3600 * (h : Int) + 60 * mi + s) / 3600 = (h : Int) by omega, show (3600 * (h : Int) + 60 * mi + s) / 60 % 60 = (mi : Int) by omega, show sec y m d h mi s % 60 = (s : Int) by omega, show (y : Int) / 100 = ((y / 100 : Nat) : Int) by omega, show (y : Int) % 100 = ((y % 100 : Nat) : Int) by omega]
  rw [rwd_eq, wd_eq _ hn.1]
  simp only [Option.bind_some]
  rw [show (Dn y m d % 7 + 4) % 7 = ((wdy y m d : Nat) : Int) by unfold wdy; omega, rweekday _ hwl, rtwo h (by omega), rtwo mi (by omega), rtwo s (by omega), rtwo d (by omega), rtwo (y / 100) (by omega), rtwo (y % 100) (by omega)]
  simp only [Option.bind_some, B_lit, B_extract, B_append, B_size, List.drop_zero]
  have e2 : ∀ n, (D2 n).length = 2 := fun n => rfl
  have et : ((D2 d).take 2).drop 1 = D1 (d % 10) := rfl
  have J : ∀ sg : Bs, sg.length = 2 → sculleryref05_forms.j0 (k + 1) y m d (B (wdn (wdy y m d))) (B (D2 h ++ ([58] ++ (D2 mi ++ ([58] ++ D2 s))))) (B (D4 y)) (B sg) =
      some (B (F1 y m d h mi s), B (F2x y m d h mi s), B ((wdn (wdy y m d)).take 3 ++ ([32] ++ (nm (m - 1) ++ ([32] ++ (sg ++ ([32] ++ clk h mi s ([32] ++ (D4 y ++ [])))))))) ) := by
    intro sg hsg
    have e4 : (D4 y).length = 4 := rfl
    simp only [sculleryref05_forms.j0]
    rw [rtwo d (by omega), rmonth m (by omega) (by omega), Int.tmod_eq_emod_of_nonneg (by omega), show (y : Int) % 100 = ((y % 100 : Nat) : Int) by omega, rtwo (y % 100) (by omega)]
    simp only [Option.bind_some, B_lit, B_extract, B_append, B_size, List.drop_zero, List.append_assoc]
    repeat rw [if_pos (by first | omega | (simp only [List.length_append, lw, ln, e2, e4, hsg, List.length_cons, List.length_nil]; omega))]
    by_cases hy : (y : Int) > 2069
    · rw [if_pos hy]
      repeat rw [if_pos (by first | omega | (simp only [List.length_append, lw, ln, e2, e4, hsg, List.length_cons, List.length_nil]; omega))]
      unfold F1 t1 F2x clk
      rw [if_pos (by omega)]
      simp only [List.append_assoc, List.append_nil]
    · rw [if_neg hy]
      repeat rw [if_pos (by first | omega | (simp only [List.length_append, lw, ln, e2, e4, hsg, List.length_cons, List.length_nil]; omega))]
      unfold F1 t1 F2x F2 t2 clk
      rw [if_neg (by omega)]
      simp only [List.append_assoc, List.append_nil]
  have e4 := D4_D2 y (by omega)
  have F3e : ∀ sg : Bs, sg = sd d → (wdn (wdy y m d)).take 3 ++ ([32] ++ (nm (m - 1) ++ ([32] ++ (sg ++ ([32] ++ clk h mi s ([32] ++ (D4 y ++ []))))))) = F3 y m d h mi s := by
    intro sg hsg; subst hsg; rfl
  simp only [e2, List.append_assoc, e4]
  repeat rw [if_pos (by first | omega | (simp only [List.length_append, lw, ln, e2, List.length_cons, List.length_nil]; omega))]
  by_cases hd : (d : Int) < 10
  · rw [if_pos hd]
    repeat rw [if_pos (by first | omega | (simp only [List.length_append, List.length_drop, List.length_take, lw, ln, e2, List.length_cons, List.length_nil]; omega))]
    rw [et, J _ (by simp [D1]), F3e]
    unfold sd; rw [if_pos (by omega), Nat.mod_eq_of_lt (by omega)]
  · rw [if_neg hd, J _ (e2 d), F3e]
    unfold sd; rw [if_neg (by omega)]
end Go.Proofs.Ytpddbfodjeoofaa.Pure
