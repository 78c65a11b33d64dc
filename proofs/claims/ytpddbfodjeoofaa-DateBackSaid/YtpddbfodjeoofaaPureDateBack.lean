/- DateBack: for all seconds and every text the law's function returns true: what was printed is parsed to the same seconds; what is parsed is printed and parsed as the same seconds, and where it stood in the first form it is printed as it stood. No condition. -/
import Derived.Test.YtpddbfodjeoofaaPDatex13
import Derived.Test.YtpddbfodjeoofaaDateG
namespace Go.Proofs.Ytpddbfodjeoofaa.Pure
open Go.RowKit Go.Proofs.Ytpddbfodjeoofaa.PDate Go.Proofs.YtpddbfodjeoofaaW.PrintWords Go.Proofs.YtpddbfodjeoofaaW.PrintLast
set_option linter.unusedSimpArgs false
set_option linter.unusedVariables false

set_option maxRecDepth 100000 in
theorem awake05b : scullerylaw05_awake.f 60 = some true := by decide +kernel
theorem awake05b_ev (k : Nat) (h : 60 ≤ k) : scullerylaw05_awake.f k = some true := at_rounds scullerylaw05_awake.mono h awake05b
theorem parse_F1 (y m d h mi s : Nat) (v : Vd y m d h mi s) (k : Nat) (hk : 200 ≤ k) : date_Parse.f k (B (F1 y m d h mi s)) = some (sec y m d h mi s, 0) := by
  rw [parse_eq _ k hk, (found_iff _ _).2 ⟨y, m, d, h, mi, s, v, rfl, .inl rfl⟩]
theorem back_j0 (l : Bs) (k : Nat) (hk : 9001 ≤ k) : scullerylaw05_DateBack.j0 (k + 1) (B l) true = some true := by
  simp only [scullerylaw05_DateBack.j0]
  rw [parse_eq l k (by omega)]
  cases hf : found l with
  | none =>
    simp only [Option.bind_some]
    rw [if_neg (by decide), if_pos trivial]
    rfl
  | some a =>
    obtain ⟨y, m, d, h, mi, s, v, rfl, hl⟩ := (found_iff _ _).1 hf
    simp only [Option.bind_some]
    rw [if_pos trivial, print_yes y m d h mi s v k hk]
    simp only [Option.bind_some]
    rw [parse_F1 y m d h mi s v k (by omega)]
    simp only [Option.bind_some]
    rw [if_pos trivial, if_pos trivial, if_pos trivial, if_pos trivial, B_size]
    by_cases h29 : (l.length : Int) = 29
    · rw [if_pos h29, if_pos (by omega), B_bt]
      by_cases h44 : ((l.getD (3 : Int).toNat 0).toNat : Int) = 44
      · rw [if_pos h44, B_toList, B_toList]
        rw [show (3 : Int).toNat = 3 from rfl] at h44
        rcases hl with rfl | ⟨_, rfl⟩ | rfl
        · rw [beq_self_eq_true]
        · have := F2_at y m d h mi s; omega
        · rw [F3_at] at h44; exact absurd h44 (by decide)
      · rw [if_neg h44]
    · rw [if_neg h29]
theorem DateBack : scullerylaw05_DateBack.Pure := by
  intro n s wn ws
  obtain ⟨k, hk⟩ : ∃ k : Nat, 9100 ≤ k := ⟨9100, Nat.le_refl _⟩
  refine ⟨k + 1, ?_⟩
  rw [B_of s]
  unfold scullerylaw05_DateBack.f
  rw [awake05b_ev (k + 1) (by omega)]
  simp only [Option.bind_some]
  by_cases hn : 0 ≤ n ∧ n < 253402300800
  · obtain ⟨y, m, d, h, mi, s', v, rfl⟩ := sec_ex n hn.1 hn.2
    rw [print_yes y m d h mi s' v (k + 1) (by omega)]
    simp only [Option.bind_some]
    rw [if_pos trivial, parse_F1 y m d h mi s' v (k + 1) (by omega)]
    simp only [Option.bind_some]
    rw [if_pos trivial, if_pos trivial, B_size, F1_len y m d h mi s' v, if_pos (by decide)]
    exact back_j0 _ k (by omega)
  · rw [print_no n (by omega) (k + 1) (by omega)]
    simp only [Option.bind_some]
    rw [if_neg (by decide)]
    by_cases h0 : n ≥ 0
    · rw [if_pos h0, if_neg (by omega)]
      exact back_j0 _ k (by omega)
    · rw [if_neg h0]
      exact back_j0 _ k (by omega)
end Go.Proofs.Ytpddbfodjeoofaa.Pure
