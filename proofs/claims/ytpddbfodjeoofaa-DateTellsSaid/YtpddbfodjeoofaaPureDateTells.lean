/- DateTells: for every day, all seconds and every text of up to 60 bytes the program answers as the document does; longer texts are let pass. No condition. -/
import Derived.Test.YtpddbfodjeoofaaPDatex12
import Derived.Test.YtpddbfodjeoofaaDateJ
namespace Go.Proofs.Ytpddbfodjeoofaa.Pure
open Go.RowKit Go.Proofs.Ytpddbfodjeoofaa.PDate Go.Proofs.YtpddbfodjeoofaaW.PrintWords Go.Proofs.YtpddbfodjeoofaaW.PrintLast
set_option linter.unusedSimpArgs false
set_option linter.unusedVariables false

theorem wd_some (n : Int) : ∃ r, date_Weekday.f n = some r ∧ sculleryref05_Weekday.f n = some r := by
  rw [rwd_eq n]
  by_cases h : 0 ≤ n
  · exact ⟨_, wd_eq n h, wd_eq n h⟩
  · refine ⟨0, ?_, ?_⟩ <;> (unfold date_Weekday.f; rw [if_pos (by omega)])
theorem days_some (y m d : Int) (k : Nat) (hk : 8100 ≤ k) : ∃ r, date_Days.f k y m d = some r := by
  by_cases h : Ok3 y m d
  · exact ⟨_, days_yes y m d h k (by omega)⟩
  · exact ⟨_, days_no y m d h k (by omega)⟩
theorem print_some (n : Int) (k : Nat) (hk : 9001 ≤ k) : ∃ r, date_Print.f k n = some r := by
  by_cases h : 0 ≤ n ∧ n < 253402300800
  · obtain ⟨y, m, d, hh, mi, s, v, rfl⟩ := sec_ex n h.1 h.2
    exact ⟨_, print_yes _ _ _ _ _ _ v k hk⟩
  · exact ⟨_, print_no n (by omega) k (by omega)⟩
theorem parse_same (l : Bs) (hl : l.length ≤ 60) (k : Nat) (hk : 9300 ≤ k) : sculleryref05_Parse.f k (B l) = date_Parse.f k (B l) := by
  rw [rparse_eq l hl k hk, parse_eq l k (by omega)]
  cases found l <;> rfl
theorem DateTells (a b c n : Int) (s : ByteArray) : ∃ k, scullerylaw05_DateTells.f k a b c n s = some true := by
  obtain ⟨k, hk⟩ : ∃ k : Nat, 9400 ≤ k := ⟨9400, Nat.le_refl _⟩
  refine ⟨k, ?_⟩
  rw [B_of s]
  generalize s.data.toList = l
  unfold scullerylaw05_DateTells.f
  rw [at_rounds scullerylaw05_awake.mono (show 400 ≤ k by omega) scullerylaw05_awake.up, B_size]
  simp only [Option.bind_some]
  by_cases h : (l.length : Int) > 60
  · rw [if_pos h]
  rw [if_neg h, rdays_eq a b c k (by omega), rprint_eq n k (by omega), parse_same l (by omega) k (by omega)]
  obtain ⟨r1, e1⟩ := days_some a b c k (by omega)
  obtain ⟨r2, e2⟩ := print_some n k (by omega)
  obtain ⟨r3, e3, e4⟩ := wd_some a
  obtain ⟨r4, e5⟩ : ∃ r, date_Parse.f k (B l) = some r := ⟨_, parse_eq l k (by omega)⟩
  rw [e1, e2, e5]
  simp only [Option.bind_some]
  simp only [if_true]
  rw [e3, e4]
  simp only [Option.bind_some, beq_self_eq_true]
end Go.Proofs.Ytpddbfodjeoofaa.Pure
