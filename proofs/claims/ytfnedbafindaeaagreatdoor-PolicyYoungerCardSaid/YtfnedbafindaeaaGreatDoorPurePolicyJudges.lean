/- PolicyJudges: whether a response of any age and lifetime, by any rules, may be told, and where the origin fails: as the document says. -/
import Derived.Test.YtfnedbafindaeaaGreatDoorF0
import Derived.Test.YtfnedbafindaeaaGreatDoorPPol
import Derived.Test.YtfnedbafindaeaaGreatDoorRW
namespace Go.Proofs.YtfnedbafindaeaaGreatDoor.R
open Go Go.RowKit
set_option linter.unusedSimpArgs false
set_option linter.unusedVariables false
theorem awake14 : law14_awake.f 1000010 () = some true := by decide +kernel
abbrev RulT : Ty := .pair .bool (.pair .bool (.pair .bool (.pair .bool (.pair .bool (.pair .bool (.pair .bool (.pair .bool (.pair (.int .i64) (.pair (.int .i64) (.pair (.int .i64) (.pair (.int .i64) (.int .i64))))))))))))
theorem eqB_self (b : Bool) : eqB b b = true := by cases b <;> rfl
theorem PolicyJudges (age life : Int) (l : Rul × Rul) (w0 : (Lit.int .i64 age).wf = true) (w1 : (Lit.int .i64 life).wf = true) (w2 : Ty.Wf (.agg (.pair RulT RulT)) l) : ∃ k, law14_PolicyJudges.f k (age, (life, l)) = some true := by
  refine ⟨1000010, ?_⟩
  obtain ⟨⟨a0, a1, a2, a3, a4, a5, a6, a7, a8, a9, a10, a11, a12⟩, ⟨b0, b1, b2, b3, b4, b5, b6, b7, b8, b9, b10, b11, b12⟩⟩ := l
  have out : ∀ v, law14_PolicyJudges.j1 1000010 (age, (life, (true, (true, v)))) = some true := fun _ => rfl
  unfold law14_PolicyJudges.f
  dsimp only
  rw [awake14, bindO_some, ltD, ltD, ltD, ltD, ifO_dec]
  by_cases h1 : age < 0
  · rw [if_pos h1]; exact out _
  rw [if_neg h1, ifO_dec]
  by_cases h2 : life < 0
  · rw [if_pos h2]; exact out _
  rw [if_neg h2, ifO_dec]
  by_cases h3 : 2147483648 < age
  · rw [if_pos h3]; exact out _
  rw [if_neg h3]
  by_cases h4 : 2147483648 < life
  · rw [decide_eq_true h4]; exact out _
  rw [decide_eq_false h4]
  unfold law14_PolicyJudges.j1
  dsimp only
  rw [ifO_false, ifO_true, judge_is age life _ _ _ (by omega), bindO_some, r14judge, bindO_some, eqI_dec, decide_eq_true rfl, ifO_true, onerr_is, bindO_some, r14onerr, bindO_some, eqB_self]
end Go.Proofs.YtfnedbafindaeaaGreatDoor.R
