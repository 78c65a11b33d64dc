/- The document's dates, told by reflection: its days, its forms, its guess and its search find what the program finds. -/
import Derived.Test.YtkjjegjafpefcaaDoorPDateQ
import Derived.Test.YtkjjegjafpefcaaDoorF3
namespace Go.Proofs.YtkjjegjafpefcaaDoor.R
open Go Go.RowKit
open Go.Proofs.YtkjjegjafpefcaaDoor.Pure (Lp Lg Cm Ah Dn Ok3 Lp_iff Lg_bd Cm_bd Cm_mono Ah_succ Ah_bd Ah_mono Dn_nonneg Dn_lt ok_nat found found_iff sec sec_bd Vd nm nm_len nm_inj wdn wdn_len wdy wdy_lt D1 D2 D4 F1 F2 F3 F2x t1 t2 t3 clk sd dig dig_iff dgt dgt_n dgt1 dgt2 dgt4 bd bd_step bd_le dgt_bd wh wh_bd wh_nm gs gs_some gs_of r2y d3 rp1 rp2 rp3 rp1_of rp2_of rp3_of Tell No3 No2 Tell.more no2_step no2_end D4_D2)
set_option linter.unusedSimpArgs false
set_option linter.unusedVariables false
theorem r5leap (y : Int) (h : 0 ≤ y) (k : Nat) : ref05_leap.f k y = some (Lp y) := by
  unfold ref05_leap.f remI Lp
  rw [Int.tmod_eq_emod_of_nonneg h, Int.tmod_eq_emod_of_nonneg h, Int.tmod_eq_emod_of_nonneg h]
  simp only [eqI_dec, neI_dec, ifO_dec]
  rw [if_pos (show (4 : Int) ≠ 0 by decide), if_pos (show (100 : Int) ≠ 0 by decide), if_pos (show (400 : Int) ≠ 0 by decide)]
  by_cases h4 : y % 4 = 0
  · rw [if_pos h4]
    by_cases h1 : y % 100 = 0
    · rw [if_neg (by omega)]
      by_cases h2 : y % 400 = 0
      · rw [decide_eq_true h2, decide_eq_true (by omega)]
      · rw [decide_eq_false h2, decide_eq_false (by omega)]
    · rw [if_pos h1, decide_eq_true (by omega)]
  · rw [if_neg h4, decide_eq_false (by omega)]
theorem r5long (y m : Int) (h : 0 ≤ y) (h1 : 1 ≤ m) (h2 : m ≤ 12) (k : Nat) : ref05_long.f k (y, m) = some (Lg y m) := by
  unfold ref05_long.f Lg
  have : m = 1 ∨ m = 2 ∨ m = 3 ∨ m = 4 ∨ m = 5 ∨ m = 6 ∨ m = 7 ∨ m = 8 ∨ m = 9 ∨ m = 10 ∨ m = 11 ∨ m = 12 := by omega
  simp only
  rw [r5leap y h k, bindO_some]
  generalize Lp y = b
  rcases this with rfl | rfl | rfl | rfl | rfl | rfl | rfl | rfl | rfl | rfl | rfl | rfl <;> cases b <;> rfl
theorem r5days4 (y m d : Int) (hy : 0 ≤ y) (hm : m ≤ 12) (K : Nat) : ∀ (e j k : Nat) (x : Int), (j : Int) + e = m - 1 → e + 2 ≤ k → 0 ≤ x → x + 31 * e ≤ 100000000 → 0 ≤ d → d ≤ 31 →
    iter (ref05_Days.l4b K) k (y, m, d, x, ((j : Int) + 1)) = some (x + (Cm y (m - 1).toNat - Cm y j) + d - 1, 0) := by
  intro e
  induction e with
  | zero =>
    intro j k x hj hk h0 hb hd hd'
    obtain ⟨k, rfl⟩ : ∃ n, k = n + 1 := ⟨k - 1, by omega⟩
    show ref05_Days.l4b K (iter (ref05_Days.l4b K) k) _ = _
    generalize hr : iter (ref05_Days.l4b K) k = r
    unfold ref05_Days.l4b
    simp only [ltD, ifO_dec]
    subst hr
    rw [if_neg (by omega), add64 (x := x) (y := d) (by omega) (by omega), sub64 (x := x + d) (y := 1) (by omega) (by omega), show (m - 1).toNat = j by omega, show x + d - 1 = x + (Cm y j - Cm y j) + d - 1 by omega]
  | succ e ih =>
    intro j k x hj hk h0 hb hd hd'
    obtain ⟨k, rfl⟩ : ∃ n, k = n + 1 := ⟨k - 1, by omega⟩
    have hL := Lg_bd y (j + 1)
    show ref05_Days.l4b K (iter (ref05_Days.l4b K) k) _ = _
    generalize hr : iter (ref05_Days.l4b K) k = r
    unfold ref05_Days.l4b
    simp only [ltD, ifO_dec]
    subst hr
    rw [if_pos (by omega), r5long y (j + 1) hy (by omega) (by omega), bindO_some]
    rw [add64 (x := x) (y := Lg y (j + 1)) (by omega) (by omega), add64 (x := (j : Int) + 1) (y := 1) (by omega) (by omega)]
    have := ih (j + 1) k (x + Lg y (j + 1)) (by push_cast; omega) (by omega) (by omega) (by push_cast at hb; omega) hd hd'
    rw [show (((j + 1 : Nat) : Int) + 1) = (j : Int) + 1 + 1 from by push_cast; rfl] at this
    refine this.trans ?_
    simp only [Cm]
    congr 2; omega
theorem r5days1 (y m d : Int) (hy' : y ≤ 9999) (h1 : 1 ≤ m) (hm : m ≤ 12) (hd : 0 ≤ d) (hd' : d ≤ 31) (K : Nat) (hK : 20 ≤ K) : ∀ (e k : Nat) (z x : Int), z + e = y → 1970 ≤ z → e + 1 ≤ k → 0 ≤ x → x + 366 * e ≤ 10000000 →
    iter (ref05_Days.l1b K) k (y, m, d, x, z) = some (x + (Ah y - Ah z) + Cm y (m - 1).toNat + d - 1, 0) := by
  intro e
  induction e with
  | zero =>
    intro k z x hz hz0 hk h0 hb
    obtain ⟨k, rfl⟩ : ∃ n, k = n + 1 := ⟨k - 1, by omega⟩
    obtain rfl : z = y := by omega
    show ref05_Days.l1b K (iter (ref05_Days.l1b K) k) _ = _
    generalize hr : iter (ref05_Days.l1b K) k = r
    unfold ref05_Days.l1b ref05_Days.l4
    simp only [ltD, ifO_dec]
    subst hr
    rw [if_neg (by omega)]
    have := r5days4 z m d (by omega) hm K (m - 1).toNat 0 K x (by omega) (by omega) h0 (by omega) hd hd'
    simp only [Cm] at this
    refine this.trans ?_
    congr 2; omega
  | succ e ih =>
    intro k z x hz hz0 hk h0 hb
    obtain ⟨k, rfl⟩ : ∃ n, k = n + 1 := ⟨k - 1, by omega⟩
    have hA := Ah_succ z
    show ref05_Days.l1b K (iter (ref05_Days.l1b K) k) _ = _
    generalize hr : iter (ref05_Days.l1b K) k = r
    unfold ref05_Days.l1b ref05_Days.j3
    simp only [ltD, ifO_dec]
    subst hr
    rw [if_pos (by omega), r5leap z (by omega), bindO_some]
    rw [add64 (x := z) (y := 1) (by omega) (by omega), add64 (x := x) (y := 365) (by omega) (by omega), add64 (x := x + 365) (y := 1) (by omega) (by omega)]
    by_cases h : Lp z = true
    · rw [if_pos h] at hA
      rw [ifO_yes h]
      refine (ih k (z + 1) (x + 365 + 1) (by push_cast at hz; omega) (by omega) (by omega) (by omega) (by push_cast at hb; omega)).trans ?_
      congr 2; omega
    · rw [if_neg h] at hA
      rw [ifO_no (Bool.eq_false_iff.2 h)]
      refine (ih k (z + 1) (x + 365) (by push_cast at hz; omega) (by omega) (by omega) (by omega) (by push_cast at hb; omega)).trans ?_
      congr 2; omega
theorem r5days_no (y m d : Int) (h : ¬ Ok3 y m d) (k : Nat) : ref05_Days.f k (y, m, d) = some (0, 1) := by
  have J : ref05_Days.j0 k (y, m, d, true) = some (0, 1) := rfl
  unfold ref05_Days.f
  simp only [ltD, ifO_dec]
  by_cases a : y < 1970
  · rw [if_pos a, J]
  by_cases b : 9999 < y
  · rw [if_neg a, if_pos b, J]
  by_cases c : m < 1
  · rw [if_neg a, if_neg b, if_pos c, J]
  by_cases e : 12 < m
  · rw [if_neg a, if_neg b, if_neg c, if_pos e, J]
  by_cases f : d < 1
  · rw [if_neg a, if_neg b, if_neg c, if_neg e, if_pos f, J]
  rw [if_neg a, if_neg b, if_neg c, if_neg e, if_neg f, r5long y m (by omega) (by omega) (by omega), bindO_some]
  have : Lg y m < d := by unfold Ok3 at h; omega
  rw [decide_eq_true this, J]
theorem r5days_yes (y m d : Int) (h : Ok3 y m d) (k : Nat) (hk : 8100 ≤ k) : ref05_Days.f k (y, m, d) = some (Dn y m d, 0) := by
  obtain ⟨h1, h2, h3, h4, h5, h6⟩ := h
  have hL := Lg_bd y m
  unfold ref05_Days.f
  simp only [ltD, ifO_dec]
  rw [if_neg (by omega), if_neg (by omega), if_neg (by omega), if_neg (by omega), if_neg (by omega), r5long y m (by omega) (by omega) (by omega), bindO_some]
  rw [decide_eq_false (show ¬ Lg y m < d by omega)]
  unfold ref05_Days.j0 ref05_Days.l1
  rw [ifO_false]
  refine (r5days1 y m d h2 h3 h4 (by omega) (by omega) k (by omega) (y - 1970).toNat k 1970 0 (by omega) (by decide) (by omega) (by decide) (by omega)).trans ?_
  unfold Dn
  congr 2; omega
theorem r5two_all : ∀ n : Fin 100, ref05_two.f 0 (n.val : Int) = some (B (D2 n.val)) := by decide +kernel
theorem r5two (n : Nat) (h : n < 100) (k : Nat) : ref05_two.f k (n : Int) = some (B (D2 n)) := r5two_all ⟨n, h⟩
theorem r5month_all : ∀ n : Fin 12, ref05_month.f 0 ((n.val + 1 : Nat) : Int) = some (B (nm n.val)) := by decide +kernel
theorem r5month (m : Nat) (h : 1 ≤ m) (h' : m ≤ 12) (k : Nat) : ref05_month.f k (m : Int) = some (B (nm (m - 1))) := by
  have : ref05_month.f k (((m - 1) + 1 : Nat) : Int) = some (B (nm (m - 1))) := r5month_all ⟨m - 1, by omega⟩
  rwa [show (m - 1) + 1 = m by omega] at this
theorem r5weekday_all : ∀ n : Fin 7, ref05_weekday.f 0 (n.val : Int) = some (B (wdn n.val)) := by decide +kernel
theorem r5weekday (w : Nat) (h : w < 7) (k : Nat) : ref05_weekday.f k (w : Int) = some (B (wdn w)) := r5weekday_all ⟨w, h⟩
theorem r5wd (n : Int) (h : 0 ≤ n) (h' : n ≤ 1000000000) (k : Nat) : ref05_Weekday.f k n = some ((n % 7 + 4) % 7) := by
  unfold ref05_Weekday.f remI
  simp only [ltD, neI_dec, ifO_dec]
  rw [if_neg (by omega), if_pos (by decide), if_pos (by decide), Int.tmod_eq_emod_of_nonneg h, add64 (by omega) (by omega), Int.tmod_eq_emod_of_nonneg (by omega)]
theorem r5day3 (Y M D : Int) (h : Ok3 Y M D) (K : Nat) : ∀ (e j k : Nat), (j : Int) + e = M - 1 → e + 2 ≤ k → iter (ref05_day.l3b K) k (D - 1 + Cm Y (M - 1).toNat - Cm Y j, Y, ((j : Int) + 1)) = some (Y, M, D) := by
  obtain ⟨h1, h2, h3, h4, h5, h6⟩ := id h
  intro e
  induction e with
  | zero =>
    intro j k hj hk
    obtain ⟨k, rfl⟩ : ∃ n, k = n + 1 := ⟨k - 1, by omega⟩
    have hjm : j = (M - 1).toNat := by omega
    have hL := Lg_bd Y M
    show ref05_day.l3b K (iter (ref05_day.l3b K) k) _ = _
    generalize hr : iter (ref05_day.l3b K) k = r
    unfold ref05_day.l3b
    simp only [leD, ifO_dec]
    subst hr
    rw [r5long Y _ (by omega) (by omega) (by omega), bindO_some]
    rw [show (j : Int) + 1 = M by omega, ← hjm, show D - 1 + Cm Y j - Cm Y j = D - 1 by omega, if_neg (by omega), add64 (x := D - 1) (y := 1) (by omega) (by omega), show D - 1 + 1 = D by omega]
  | succ e ih =>
    intro j k hj hk
    obtain ⟨k, rfl⟩ : ∃ n, k = n + 1 := ⟨k - 1, by omega⟩
    have hL := Lg_bd Y (j + 1)
    have hLM := Lg_bd Y M
    have hc := Cm_bd Y (M - 1).toNat
    have hcj := Cm_bd Y j
    have hm := Cm_mono Y (j + 1) ((M - 1).toNat - (j + 1))
    rw [show j + 1 + ((M - 1).toNat - (j + 1)) = (M - 1).toNat by omega] at hm
    have ec : Cm Y (j + 1) = Cm Y j + Lg Y ((j : Int) + 1) := rfl
    show ref05_day.l3b K (iter (ref05_day.l3b K) k) _ = _
    generalize hr : iter (ref05_day.l3b K) k = r
    unfold ref05_day.l3b
    simp only [leD, ifO_dec]
    subst hr
    rw [r5long Y _ (by omega) (by omega) (by omega), bindO_some, bindO_some]
    rw [if_pos (by omega), sub64 (x := D - 1 + Cm Y (M - 1).toNat - Cm Y j) (y := Lg Y (j + 1)) (by omega) (by omega), add64 (x := (j : Int) + 1) (y := 1) (by omega) (by omega)]
    have := ih (j + 1) k (by push_cast; omega) (by omega)
    rw [ec] at this
    rw [show D - 1 + Cm Y (M - 1).toNat - Cm Y j - Lg Y (↑j + 1) = D - 1 + Cm Y (M - 1).toNat - (Cm Y j + Lg Y (↑j + 1)) by omega]
    exact this
theorem r5day0 (Y M D : Int) (h : Ok3 Y M D) (K : Nat) (hK : 20 ≤ K) : ∀ (e k : Nat) (y : Int), y + e = Y → 1970 ≤ y → e + 1 ≤ k → iter (ref05_day.l0b K) k (Dn Y M D - (Ah y - Ah 1970), y) = some (Y, M, D) := by
  obtain ⟨h1, h2, h3, h4, h5, h6⟩ := id h
  have hd := Dn_lt h
  have hb := Dn_nonneg Y M D h
  intro e
  induction e with
  | zero =>
    intro k y hy hy0 hk
    obtain ⟨k, rfl⟩ : ∃ n, k = n + 1 := ⟨k - 1, by omega⟩
    obtain rfl : y = Y := by omega
    have hA := Ah_succ y
    have := r5day3 y M D h K (M - 1).toNat 0 K (by omega) (by omega)
    simp only [Cm] at this
    rw [show D - 1 + Cm y (M - 1).toNat - 0 = Dn y M D - (Ah y - Ah 1970) by unfold Dn; omega, show (((0 : Nat) : Int) + 1) = 1 from rfl] at this
    show ref05_day.l0b K (iter (ref05_day.l0b K) k) _ = _
    generalize hr : iter (ref05_day.l0b K) k = r
    unfold ref05_day.l0b ref05_day.j2 ref05_day.l3
    simp only [ltD, ifO_dec]
    subst hr
    rw [r5leap y (by omega), bindO_some]
    by_cases hl : Lp y = true
    · rw [if_pos hl] at hA
      rw [ifO_yes hl, if_pos (by omega)]; exact this
    · rw [if_neg hl] at hA
      rw [ifO_no (Bool.eq_false_iff.2 hl), if_pos (by omega)]; exact this
  | succ e ih =>
    intro k y hy hy0 hk
    obtain ⟨k, rfl⟩ : ∃ n, k = n + 1 := ⟨k - 1, by omega⟩
    have hA := Ah_succ y
    have a1 := Ah_bd (y + 1) (by omega) (by omega)
    have a3 := Ah_mono (y + 1) e
    rw [show y + 1 + (e : Int) = Y by push_cast at hy; omega] at a3
    have a4 := Ah_bd y (by omega) (by omega)
    have hi := ih k (y + 1) (by push_cast at hy; omega) (by omega) (by omega)
    show ref05_day.l0b K (iter (ref05_day.l0b K) k) _ = _
    generalize hr : iter (ref05_day.l0b K) k = r
    unfold ref05_day.l0b ref05_day.j2 ref05_day.l3
    simp only [ltD, ifO_dec]
    subst hr
    rw [r5leap y (by omega), bindO_some]
    rw [add64 (x := y) (y := 1) (by omega) (by omega)]
    by_cases hl : Lp y = true
    · rw [if_pos hl] at hA
      rw [ifO_yes hl, if_neg (by omega), sub64 (by omega) (by omega), show Dn Y M D - (Ah y - Ah 1970) - 366 = Dn Y M D - (Ah (y + 1) - Ah 1970) by omega]; exact hi
    · rw [if_neg hl] at hA
      rw [ifO_no (Bool.eq_false_iff.2 hl), if_neg (by omega), sub64 (by omega) (by omega), show Dn Y M D - (Ah y - Ah 1970) - 365 = Dn Y M D - (Ah (y + 1) - Ah 1970) by omega]; exact hi
theorem r5day (Y M D : Int) (h : Ok3 Y M D) (k : Nat) (hk : 8100 ≤ k) : ref05_day.f k (Dn Y M D) = some (Y, M, D) := by
  obtain ⟨h1, h2, h3, h4, h5, h6⟩ := id h
  unfold ref05_day.f ref05_day.l0
  have := r5day0 Y M D h k (by omega) (Y - 1970).toNat k 1970 (by omega) (by decide) (by omega)
  rwa [show Dn Y M D - (Ah 1970 - Ah 1970) = Dn Y M D by omega] at this
theorem Dn_inj {y m d y' m' d' : Nat} (h : Ok3 y m d) (h' : Ok3 y' m' d') (e : Dn y m d = Dn y' m' d') : y = y' ∧ m = m' ∧ d = d' := by
  obtain ⟨k, hk⟩ : ∃ k : Nat, 9000 ≤ k := ⟨9000, Nat.le_refl _⟩
  have a := r5day _ _ _ h k (by omega)
  have b := r5day _ _ _ h' k (by omega)
  rw [e, b] at a
  have a := Option.some.inj a
  simp only [Prod.mk.injEq] at a
  omega
theorem sec_inj {y m d h mi s y' m' d' h' mi' s' : Nat} (v : Vd y m d h mi s) (v' : Vd y' m' d' h' mi' s') (e : sec y m d h mi s = sec y' m' d' h' mi' s') : y = y' ∧ m = m' ∧ d = d' ∧ h = h' ∧ mi = mi' ∧ s = s' := by
  have := v.hh; have := v.hm; have := v.hs; have := v'.hh; have := v'.hm; have := v'.hs
  unfold sec at e
  have ed : Dn y m d = Dn y' m' d' := by omega
  have := Dn_inj v.ok v'.ok ed
  omega
theorem r5dig0 (l : Bs) (a M : Nat) (ha : a ≤ 100) (hM : M ≤ 4) (K : Nat) : ∀ (m j k : Nat) (n : Int), j + m = a + M → m + 1 ≤ k → 0 ≤ n → n ≤ bd m → m ≤ 4 →
    iter (ref05_digits.l0b K) k (B l, (a : Int), (M : Int), n, (j : Int)) = some (dgt m n (l.drop j)) := by
  intro m
  induction m with
  | zero =>
    intro j k n hj hk h0 hb _
    obtain ⟨k, rfl⟩ : ∃ n, k = n + 1 := ⟨k - 1, by omega⟩
    show ref05_digits.l0b K (iter (ref05_digits.l0b K) k) _ = _
    generalize hr : iter (ref05_digits.l0b K) k = r
    unfold ref05_digits.l0b
    simp only [ltD, ifO_dec, dgt]
    subst hr
    rw [add64 (x := (a : Int)) (y := (M : Int)) (by omega) (by omega), if_neg (by omega)]
  | succ m ih =>
    intro j k n hj hk h0 hb hm
    obtain ⟨k, rfl⟩ : ∃ n, k = n + 1 := ⟨k - 1, by omega⟩
    show ref05_digits.l0b K (iter (ref05_digits.l0b K) k) _ = _
    generalize hr : iter (ref05_digits.l0b K) k = r
    unfold ref05_digits.l0b ref05_digits.j1
    simp only [ltD, leD, ifO_dec, B_len, B_bt, inB_nat]
    subst hr
    rw [add64 (x := (a : Int)) (y := (M : Int)) (by omega) (by omega), if_pos (by omega), if_neg (by omega)]
    by_cases hl : j < l.length
    · rw [if_neg (by omega), if_pos hl, List.drop_eq_getElem_cons hl, show l.getD j 0 = l[j] by rw [List.getD_eq_getElem?_getD, List.getElem?_eq_getElem hl]; rfl]
      simp only [dgt]
      have hbl := bd_le (m + 1)
      have hu := l[j].toNat_lt
      by_cases hc : dig l[j] = true
      · have hd := (dig_iff _).1 hc
        rw [if_neg (by omega), if_pos hl, if_neg (by omega), if_pos hl, if_pos hc, mul64 (x := 10) (y := n) (by omega) (by omega), show convI .i64 (l[j].toNat : Int) = (l[j].toNat : Int) from w64 (by omega) (by omega), add64 (x := 10 * n) (y := (l[j].toNat : Int)) (by omega) (by omega), sub64 (x := 10 * n + (l[j].toNat : Int)) (y := 48) (by omega) (by omega), next64 (by omega)]
        exact ih (j + 1) k _ (by omega) (by omega) (by omega) (by have := bd_step m n ((l[j].toNat : Int) - 48) hb (by omega) hm; omega) (by omega)
      · rw [if_neg hc]
        have hd : ¬ (48 ≤ l[j].toNat ∧ l[j].toNat ≤ 57) := fun h => hc ((dig_iff _).2 h)
        by_cases h1 : (l[j].toNat : Int) < 48
        · rw [if_pos h1, ifO_true]
        · rw [if_neg h1, if_pos hl, if_pos (by omega)]
    · rw [if_pos (by omega), List.drop_eq_nil_of_le (by omega), ifO_true]; rfl
theorem r5dig (l : Bs) (a M : Nat) (x z : Int) (hx : x = a) (hz : z = M) (ha : a ≤ 100) (hM : M ≤ 4) (k : Nat) (hk : 5 ≤ k) : ref05_digits.f k (B l, x, z) = some (dgt M 0 (l.drop a)) := by
  subst hx hz
  unfold ref05_digits.f ref05_digits.l0
  exact r5dig0 l a M ha hM k M a k 0 rfl (by omega) (by decide) (by unfold bd; split <;> (try split) <;> (try split) <;> (try split) <;> omega) hM
theorem r5which0 (l : Bs) (a : Nat) (ha : a ≤ 100) (K : Nat) : ∀ (d m k : Nat), m + d = 13 → 1 ≤ m → d + 1 ≤ k → iter (ref05_which.l0b K) k (B l, (a : Int), (m : Int)) = some (wh (l.drop a) d m) := by
  intro d
  induction d with
  | zero =>
    intro m k hm h1 hk
    obtain ⟨k, rfl⟩ : ∃ n, k = n + 1 := ⟨k - 1, by omega⟩
    show ref05_which.l0b K (iter (ref05_which.l0b K) k) _ = _
    generalize hr : iter (ref05_which.l0b K) k = r
    unfold ref05_which.l0b
    simp only [leD, ifO_dec, wh]
    subst hr
    rw [if_neg (by omega)]
  | succ d ih =>
    intro m k hm h1 hk
    obtain ⟨k, rfl⟩ : ∃ n, k = n + 1 := ⟨k - 1, by omega⟩
    have hi := ih (m + 1) k (by omega) (by omega) (by omega)
    show ref05_which.l0b K (iter (ref05_which.l0b K) k) _ = _
    generalize hr : iter (ref05_which.l0b K) k = r
    unfold ref05_which.l0b ref05_which.j2
    simp only [leD, ifO_dec, wh, B_len]
    subst hr
    rw [if_pos (by omega), if_pos (by omega), add64 (x := (a : Int)) (y := 3) (by omega) (by omega), next64 (by omega), hi]
    by_cases h3 : (a : Int) + 3 ≤ l.length
    · rw [if_pos h3, show ((a : Int) + 3) = ((a + 3 : Nat) : Int) from rfl, boundB_yes (by omega), boundB_yes (by omega), show andB true true = true from rfl, ifO_true, r5month m h1 (by omega), bindO_some]
      rw [B_cut, B_eq, ifO_dec, List.drop_take, show a + 3 - a = 3 by omega]
      by_cases he : (l.drop a).take 3 = nm (m - 1)
      · rw [if_pos he, if_pos ⟨by rw [List.length_drop]; omega, he⟩]
      · rw [if_neg he, if_neg (fun h => he h.2)]
    · rw [if_neg h3, ifO_false, if_neg (fun h => by have := h.1; rw [List.length_drop] at this; omega)]
theorem r5which (l : Bs) (a : Nat) (ha : a ≤ 100) (k : Nat) (hk : 13 ≤ k) : ref05_which.f k (B l, (a : Int)) = some (wh (l.drop a) 12 1) := by
  unfold ref05_which.f ref05_which.l0; exact r5which0 l a ha k 12 1 k rfl (by decide) (by omega)
theorem r5guess (l : Bs) (y d : Int) (mon c : Nat) (xm xc : Int) (hxm : xm = mon) (hxc : xc = c) (hmon : mon ≤ 90) (hc : c ≤ 90) (k : Nat) (hk : 8100 ≤ k) : ref05_guess.f k (B l, y, xm, d, xc) = some (gs l y d mon c) := by
  subst hxm hxc
  unfold ref05_guess.f gs
  simp only [ltD, neI_dec, ifO_dec]
  by_cases hd : d < 0
  · rw [if_pos hd, if_pos hd]
  rw [if_neg hd, if_neg hd, r5which l mon (by omega) k (by omega), bindO_some]
  have F : ∀ h mi s n : Int, ref05_guess.j5 k (n, h, mi, s, true) = some (-1) := fun _ _ _ _ => rfl
  have G : ∀ h mi s n : Int, ref05_guess.j5 k (n, h, mi, s, false) = some (addI .i64 (mulI .i64 86400 n) (addI .i64 (addI .i64 (mulI .i64 3600 h) (mulI .i64 60 mi)) s)) := fun _ _ _ _ => rfl
  generalize wh (l.drop mon) 12 1 = m
  have T : ∀ (n e : Int), (bindO (some (n, e) : Option (Int × Int)) fun y1 => (bindO (ref05_digits.f k (B l, ((c : Int), 2))) fun y2 => (bindO (ref05_digits.f k (B l, ((addI .i64 (c : Int) 3), 2))) fun y3 => (bindO (ref05_digits.f k (B l, ((addI .i64 (c : Int) 6), 2))) fun y4 => (if y1.2 ≠ 0 then (ref05_guess.j5 k (y1.1, (y2, (y3, (y4, true))))) else (if y2 < 0 then (ref05_guess.j5 k (y1.1, (y2, (y3, (y4, true))))) else (if 23 < y2 then (ref05_guess.j5 k (y1.1, (y2, (y3, (y4, true))))) else (if y3 < 0 then (ref05_guess.j5 k (y1.1, (y2, (y3, (y4, true))))) else (if 59 < y3 then (ref05_guess.j5 k (y1.1, (y2, (y3, (y4, true))))) else (if y4 < 0 then (ref05_guess.j5 k (y1.1, (y2, (y3, (y4, true))))) else (ref05_guess.j5 k (y1.1, (y2, (y3, (y4, decide (59 < y4)))))))))))))))) =
      (if e ≠ 0 then some (-1) else if (0 ≤ dgt 2 0 (l.drop c) ∧ dgt 2 0 (l.drop c) ≤ 23) ∧ (0 ≤ dgt 2 0 (l.drop (c + 3)) ∧ dgt 2 0 (l.drop (c + 3)) ≤ 59) ∧ (0 ≤ dgt 2 0 (l.drop (c + 6)) ∧ dgt 2 0 (l.drop (c + 6)) ≤ 59) then some (addI .i64 (mulI .i64 86400 n) (addI .i64 (addI .i64 (mulI .i64 3600 (dgt 2 0 (l.drop c))) (mulI .i64 60 (dgt 2 0 (l.drop (c + 3))))) (dgt 2 0 (l.drop (c + 6))))) else some (-1)) := by
    intro n e
    rw [add64 (x := (c : Int)) (y := 3) (by omega) (by omega), add64 (x := (c : Int)) (y := 6) (by omega) (by omega), bindO_some, r5dig l c 2 _ 2 rfl rfl (by omega) (by decide) k (by omega), bindO_some, r5dig l (c + 3) 2 ((c : Int) + 3) 2 (by omega) rfl (by omega) (by decide) k (by omega), bindO_some, r5dig l (c + 6) 2 ((c : Int) + 6) 2 (by omega) rfl (by omega) (by decide) k (by omega), bindO_some]
    simp only [F]
    generalize dgt 2 0 (l.drop c) = h
    generalize dgt 2 0 (l.drop (c + 3)) = mi
    generalize dgt 2 0 (l.drop (c + 6)) = s
    by_cases h0 : e ≠ 0
    · rw [if_pos h0, if_pos h0]
    rw [if_neg h0, if_neg h0]
    by_cases h1 : h < 0
    · rw [if_pos h1, if_neg (by omega)]
    by_cases h2 : 23 < h
    · rw [if_neg h1, if_pos h2, if_neg (by omega)]
    by_cases h3 : mi < 0
    · rw [if_neg h1, if_neg h2, if_pos h3, if_neg (by omega)]
    by_cases h4 : 59 < mi
    · rw [if_neg h1, if_neg h2, if_neg h3, if_pos h4, if_neg (by omega)]
    by_cases h5 : s < 0
    · rw [if_neg h1, if_neg h2, if_neg h3, if_neg h4, if_pos h5, if_neg (by omega)]
    rw [if_neg h1, if_neg h2, if_neg h3, if_neg h4, if_neg h5]
    by_cases h6 : 59 < s
    · rw [decide_eq_true h6, F, if_neg (by omega)]
    · rw [decide_eq_false h6, G, if_pos (by omega)]
  by_cases ho : Ok3 y m d
  · have hn := Dn_nonneg y m d ho
    rw [r5days_yes y m d ho k hk]
    refine (T (Dn y m d) 0).trans ?_
    rw [if_neg (by decide)]
    generalize dgt 2 0 (l.drop c) = h
    generalize dgt 2 0 (l.drop (c + 3)) = mi
    generalize dgt 2 0 (l.drop (c + 6)) = s
    by_cases hh : (0 ≤ h ∧ h ≤ 23) ∧ (0 ≤ mi ∧ mi ≤ 59) ∧ (0 ≤ s ∧ s ≤ 59)
    · rw [if_pos hh, if_pos ⟨ho, hh⟩, mul64 (x := 3600) (y := h) (by omega) (by omega), mul64 (x := 60) (y := mi) (by omega) (by omega), add64 (x := 3600 * h) (y := 60 * mi) (by omega) (by omega), add64 (x := 3600 * h + 60 * mi) (y := s) (by omega) (by omega), mul64 (x := 86400) (y := Dn y m d) (by omega) (by omega), add64 (by omega) (by omega)]
      congr 1; omega
    · rw [if_neg hh, if_neg (fun g => hh g.2)]
  · rw [r5days_no y m d ho k]
    refine (T 0 1).trans ?_
    rw [if_pos (by decide), if_neg (fun h => ho h.1)]
end Go.Proofs.YtkjjegjafpefcaaDoor.R
