/- Texts of this session's own, as far as they are used here. -/
import Derived.Test.YtpddbfodjeoofaaKPDatex1
namespace Go.Proofs.Ytpddbfodjeoofaa.Pure
open Go.RowKit Go.Proofs.Ytpddbfodjeoofaa.PDate Go.Proofs.YtpddbfodjeoofaaW.PrintWords Go.Proofs.YtpddbfodjeoofaaW.PrintLast
set_option linter.unusedSimpArgs false
set_option linter.unusedVariables false

theorem w64 {x : Int} (h : -9223372036854775808 ≤ x) (h' : x ≤ 9223372036854775807) : wrap64 x = x := by unfold wrap64; omega

def Lp (y : Int) : Bool := decide (y % 4 = 0 ∧ (y % 100 ≠ 0 ∨ y % 400 = 0))
def Lg (y m : Int) : Int := if m = 2 then (if Lp y = true then 29 else 28) else if m = 4 ∨ m = 6 ∨ m = 9 ∨ m = 11 then 30 else 31
def Cm (y : Int) : Nat → Int
  | 0 => 0
  | n + 1 => Cm y n + Lg y (n + 1)
def Ah (y : Int) : Int := 365 * y + (y - 1) / 4 - (y - 1) / 100 + (y - 1) / 400

theorem Lg_bd (y m : Int) : 28 ≤ Lg y m ∧ Lg y m ≤ 31 := by unfold Lg; split <;> (try split) <;> omega
theorem Cm_bd (y : Int) (n : Nat) : 0 ≤ Cm y n ∧ Cm y n ≤ 31 * n := by
  induction n with
  | zero => simp [Cm]
  | succ n ih => have := Lg_bd y (n + 1); simp only [Cm]; omega
theorem leap_eq (y : Int) (h : 0 ≤ y) : date_leap.f y = some (Lp y) := by
  unfold date_leap.f
  rw [Int.tmod_eq_emod_of_nonneg h, Int.tmod_eq_emod_of_nonneg h, Int.tmod_eq_emod_of_nonneg h]
  by_cases h4 : y % 4 = 0
  · rw [if_pos h4]
    by_cases h1 : y % 100 = 0
    · rw [if_pos h1]; unfold Lp; congr 1; rw [Bool.eq_iff_iff, beq_iff_eq, decide_eq_true_iff]; omega
    · rw [if_neg h1]; unfold Lp; congr 1; simp [h4, h1]
  · rw [if_neg h4]; unfold Lp; congr 1; simp [h4]
theorem long_eq (y m : Int) (h : 0 ≤ y) (k : Nat) (hk : 1 ≤ k) : date_long.f k y m = some (Lg y m) := by
  obtain ⟨k, rfl⟩ : ∃ n, k = n + 1 := ⟨k - 1, by omega⟩
  unfold date_long.f Lg
  by_cases h2 : m = 2
  · rw [if_pos h2, if_pos h2, leap_eq y h]
    simp only [Option.bind_some, date_long.j0, h2, if_true]
    split <;> rfl
  · rw [if_neg h2, if_neg h2]
    simp only [date_long.j0]
    rw [if_neg (by decide), if_neg h2]
    by_cases a : m = 4
    · rw [if_pos a, if_pos (by omega)]
    by_cases b : m = 6
    · rw [if_neg a, if_pos b, if_pos (by omega)]
    by_cases c : m = 9
    · rw [if_neg a, if_neg b, if_pos c, if_pos (by omega)]
    by_cases d : m = 11
    · rw [if_neg a, if_neg b, if_neg c, if_pos d, if_pos (by omega)]
    · rw [if_neg a, if_neg b, if_neg c, if_neg d, if_neg (by omega)]
theorem ahead_eq (y : Int) (h : 1 ≤ y) (h' : y ≤ 1000000000000) : date_ahead.f y = some (Ah y) := by
  unfold date_ahead.f Ah
  have e1 : wrap64 (y - 1) = y - 1 := w64 (by omega) (by omega)
  have e2 : wrap64 (365 * y) = 365 * y := w64 (by omega) (by omega)
  rw [e1, e2, Int.tdiv_eq_ediv_of_nonneg (by omega), Int.tdiv_eq_ediv_of_nonneg (by omega), Int.tdiv_eq_ediv_of_nonneg (by omega)]
  rw [w64 (x := (y - 1) / 4) (by omega) (by omega), w64 (x := (y - 1) / 100) (by omega) (by omega), w64 (x := (y - 1) / 400) (by omega) (by omega)]
  rw [w64 (x := 365 * y + (y - 1) / 4) (by omega) (by omega), w64 (x := 365 * y + (y - 1) / 4 - (y - 1) / 100) (by omega) (by omega), w64 (by omega) (by omega)]
theorem days_l0 (y : Int) (hy : 0 ≤ y) (M : Nat) : ∀ (d j k : Nat) (x : Int), j + d = M → d + 2 ≤ k → M ≤ 12 → 0 ≤ x → x + 31 * d ≤ 1000000000000 →
    date_Days.l0 k y (M + 1) x (j + 1) = some (x + (Cm y M - Cm y j), 0) := by
  intro d
  induction d with
  | zero =>
    intro j k x hj hk hM hx hb
    obtain ⟨k, rfl⟩ : ∃ n, k = n + 1 := ⟨k - 1, by omega⟩
    obtain rfl : j = M := by omega
    simp only [date_Days.l0]
    rw [if_neg (by omega)]
    congr 2; omega
  | succ d ih =>
    intro j k x hj hk hM hx hb
    obtain ⟨k, rfl⟩ : ∃ n, k = n + 1 := ⟨k - 1, by omega⟩
    have hL := Lg_bd y (j + 1)
    simp only [date_Days.l0]
    rw [if_pos (by omega), long_eq y (j + 1) hy k (by omega)]
    simp only [Option.bind_some]
    rw [w64 (x := x + Lg y (j + 1)) (by omega) (by omega), w64 (x := (j : Int) + 1 + 1) (by omega) (by omega)]
    have := ih (j + 1) k (x + Lg y (j + 1)) (by omega) (by omega) hM (by omega) (by push_cast at hb; omega)
    rw [show (((j + 1 : Nat) : Int) + 1) = (j : Int) + 1 + 1 from by push_cast; rfl] at this
    rw [this]
    congr 2
    simp only [Cm]
    omega
def Ok3 (y m d : Int) : Prop := 1970 ≤ y ∧ y ≤ 9999 ∧ 1 ≤ m ∧ m ≤ 12 ∧ 1 ≤ d ∧ d ≤ Lg y m
instance (y m d : Int) : Decidable (Ok3 y m d) := by unfold Ok3; infer_instance
def Dn (y m d : Int) : Int := Ah y - Ah 1970 + d - 1 + Cm y (m - 1).toNat
theorem days_no (y m d : Int) (h : ¬ Ok3 y m d) (k : Nat) (hk : 1 ≤ k) : date_Days.f k y m d = some (0, 1) := by
  obtain ⟨k, rfl⟩ : ∃ n, k = n + 1 := ⟨k - 1, by omega⟩
  have J : date_Days.j0 (k + 1) y m d true = some (0, 1) := by simp only [date_Days.j0]; rw [if_pos trivial]
  unfold date_Days.f
  by_cases a : y < 1970
  · rw [if_pos a, J]
  by_cases b : y > 9999
  · rw [if_neg a, if_pos b, J]
  by_cases c : m < 1
  · rw [if_neg a, if_neg b, if_pos c, J]
  by_cases e : m > 12
  · rw [if_neg a, if_neg b, if_neg c, if_pos e, J]
  by_cases f : d < 1
  · rw [if_neg a, if_neg b, if_neg c, if_neg e, if_pos f, J]
  rw [if_neg a, if_neg b, if_neg c, if_neg e, if_neg f, long_eq y m (by omega) (k + 1) (by omega)]
  simp only [Option.bind_some]
  have : d > Lg y m := by unfold Ok3 at h; omega
  rw [decide_eq_true this, J]
theorem Ah_bd (y : Int) (h : 1970 ≤ y) (h' : y ≤ 20000) : Ah 1970 ≤ Ah y ∧ Ah y ≤ 10000000 ∧ Ah 1970 = 719527 := by unfold Ah; omega
theorem days_yes (y m d : Int) (h : Ok3 y m d) (k : Nat) (hk : 20 ≤ k) : date_Days.f k y m d = some (Dn y m d, 0) := by
  obtain ⟨h1, h2, h3, h4, h5, h6⟩ := h
  have hL := Lg_bd y m
  have hA := Ah_bd y h1 (by omega)
  obtain ⟨k, rfl⟩ : ∃ n, k = n + 1 := ⟨k - 1, by omega⟩
  unfold date_Days.f
  rw [if_neg (by omega), if_neg (by omega), if_neg (by omega), if_neg (by omega), if_neg (by omega), long_eq y m (by omega) (k + 1) (by omega)]
  simp only [Option.bind_some]
  rw [decide_eq_false (show ¬ d > Lg y m by omega)]
  simp only [date_Days.j0]
  rw [if_neg (by decide), ahead_eq y (by omega) (by omega), ahead_eq 1970 (by decide) (by decide)]
  simp only [Option.bind_some]
  rw [w64 (x := Ah y - Ah 1970) (by omega) (by omega), w64 (x := Ah y - Ah 1970 + d) (by omega) (by omega), w64 (x := Ah y - Ah 1970 + d - 1) (by omega) (by omega)]
  have := days_l0 y (by omega) (m - 1).toNat (m - 1).toNat 0 k (Ah y - Ah 1970 + d - 1) (by omega) (by omega) (by omega) (by omega) (by omega)
  rw [show (((m - 1).toNat : Int) + 1) = m from by omega] at this
  rw [show (((0 : Nat) : Int) + 1) = 1 from rfl] at this
  rw [this]
  unfold Dn
  simp only [Cm]
  congr 2; omega
theorem wd_eq (n : Int) (h : 0 ≤ n) : date_Weekday.f n = some ((n % 7 + 4) % 7) := by
  unfold date_Weekday.f
  rw [if_neg (by omega), Int.tmod_eq_emod_of_nonneg h, w64 (by omega) (by omega), Int.tmod_eq_emod_of_nonneg (by omega)]
theorem Dn_nonneg (y m d : Int) (h : Ok3 y m d) : 0 ≤ Dn y m d ∧ Dn y m d ≤ 20000000 := by
  obtain ⟨h1, h2, h3, h4, h5, h6⟩ := h
  have hL := Lg_bd y m
  have hA := Ah_bd y h1 (by omega)
  have hC := Cm_bd y (m - 1).toNat
  unfold Dn; omega
end Go.Proofs.Ytpddbfodjeoofaa.Pure

