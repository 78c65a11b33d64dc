/- DateNext: for every year, month and day the law's function returns true: a day more is the next weekday and the next number, and 400 years are 146097 days. No condition. -/
import Derived.Test.YtpddbfodjeoofaaPDatex13
import Derived.Test.YtpddbfodjeoofaaDateA
namespace Go.Proofs.Ytpddbfodjeoofaa.Pure
open Go.RowKit Go.Proofs.Ytpddbfodjeoofaa.PDate Go.Proofs.YtpddbfodjeoofaaW.PrintWords Go.Proofs.YtpddbfodjeoofaaW.PrintLast

set_option maxRecDepth 100000 in
theorem awake05 : scullerylaw05_awake.f 60 = some true := by decide +kernel
theorem awake05_ev (k : Nat) (h : 60 ≤ k) : scullerylaw05_awake.f k = some true := at_rounds scullerylaw05_awake.mono h awake05
theorem Lp_400 (y : Int) : Lp (y + 400) = Lp y := by
  rw [Bool.eq_iff_iff, Lp_iff, Lp_iff]; omega
theorem Lg_400 (y m : Int) : Lg (y + 400) m = Lg y m := by unfold Lg; rw [Lp_400]
theorem Cm_400 (y : Int) (n : Nat) : Cm (y + 400) n = Cm y n := by
  induction n with
  | zero => rfl
  | succ n ih => simp only [Cm, ih, Lg_400]
theorem Dn_400 (y m d : Int) : Dn (y + 400) m d = Dn y m d + 146097 := by
  unfold Dn; rw [Cm_400]; unfold Ah; omega
/-- The law's last piece: once more 400 years on. -/
theorem next_rest (y m d n : Int) (h : Ok3 y m d) (hn : n = Dn y m d) (k : Nat) (hk : 60 ≤ k) (hx : wrap64 (y + 400) = y + 400) :
    ((date_Days.f k (wrap64 (y + 400)) m d).bind fun b => (if true = true then (if b.2 = 0 then (some (b.1 == (wrap64 (n + 146097)))) else (some true)) else (some false))) = some true := by
  have hb := Dn_nonneg y m d h
  rw [hx]
  by_cases g : Ok3 (y + 400) m d
  · rw [days_yes _ _ _ g k (by omega)]
    simp only [Option.bind_some, if_true]
    rw [w64 (by omega) (by omega), Dn_400, hn, beq_self_eq_true]
  · rw [days_no _ _ _ g k (by omega)]
    simp only [Option.bind_some, if_true]
    rw [if_neg (by decide)]
theorem DateNext : scullerylaw05_DateNext.Pure := by
  intro y m d wy wm wd
  refine ⟨100, ?_⟩
  unfold scullerylaw05_DateNext.f
  rw [awake05_ev 100 (by decide)]
  simp only [Option.bind_some]
  by_cases h : Ok3 y m d
  · have hb := Dn_nonneg y m d h
    obtain ⟨h1, h2, h3, h4, h5, h6⟩ := id h
    have hL := Lg_bd y m
    rw [days_yes _ _ _ h 100 (by decide)]
    simp only [Option.bind_some, if_true]
    rw [w64 (x := Dn y m d + 1) (by omega) (by omega), wd_eq _ (by omega)]
    simp only [Option.bind_some]
    rw [wd_eq _ (by omega)]
    simp only [Option.bind_some]
    rw [w64 (x := (Dn y m d % 7 + 4) % 7 + 1) (by omega) (by omega), Int.tmod_eq_emod_of_nonneg (by omega), if_pos (by omega), decide_eq_false (show ¬ Dn y m d < 0 by omega)]
    simp only [scullerylaw05_DateNext.j0]
    rw [if_neg (by simp), w64 (x := d + 1) (by omega) (by omega)]
    by_cases g : Ok3 y m (d + 1)
    · rw [days_yes _ _ _ g 99 (by decide)]
      simp only [Option.bind_some, if_true]
      rw [w64 (x := Dn y m d + 1) (by omega) (by omega), if_pos (by unfold Dn; omega)]
      exact next_rest y m d _ h rfl 99 (by decide) (w64 (by omega) (by omega))
    · rw [days_no _ _ _ g 99 (by decide)]
      simp only [Option.bind_some]
      rw [if_neg (by decide)]
      exact next_rest y m d _ h rfl 99 (by decide) (w64 (by omega) (by omega))
  · rw [days_no _ _ _ h 100 (by decide)]
    simp only [Option.bind_some]
    rw [if_neg (by decide), if_pos trivial]
    rfl
end Go.Proofs.Ytpddbfodjeoofaa.Pure
