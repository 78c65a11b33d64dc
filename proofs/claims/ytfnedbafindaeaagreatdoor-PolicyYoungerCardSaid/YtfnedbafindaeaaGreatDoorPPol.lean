/- Judging: what the program's functions tell, and the document's. -/
import Derived.Test.YtfnedbafindaeaaGreatDoorFA
namespace Go.Proofs.YtfnedbafindaeaaGreatDoor.R
open Go Go.RowKit
set_option linter.unusedSimpArgs false
set_option linter.unusedVariables false
theorem ltD (x y : Int) : ltI x y = decide (x < y) := rfl
theorem leD (x y : Int) : leI x y = decide (x ≤ y) := rfl
abbrev Rul := Bool × Bool × Bool × Bool × Bool × Bool × Bool × Bool × Int × Int × Int × Int × Int
def strictV (r : Rul) : Bool := r.2.2.2.2.1 || (r.2.2.2.2.2.1 || leI 0 r.2.2.2.2.2.2.2.2.2.1)
theorem strict_is (r : Rul) (k : Nat) : policy_strict.f k r = some (strictV r) := by
  unfold policy_strict.f strictV
  cases r.2.2.2.2.1
  · cases r.2.2.2.2.2.1 <;> rfl
  · rfl
theorem r14strict (r : Rul) (k : Nat) : ref14_strict.f k r = some (strictV r) := by
  unfold ref14_strict.f strictV
  cases r.2.2.2.2.1
  · cases r.2.2.2.2.2.1 <;> rfl
  · rfl
/-- What is judged, where some things are so. -/
def jB (nc lt im nc' p1 p2 p3 p4 p5 p6 st : Bool) : Int :=
  if nc = true then 1 else if (lt && im) = true then 0 else if nc' = true then 2 else if (p1 && p2) = true then 2 else if (p3 && p4) = true then 2 else if lt = true then 0 else if (p5 && (p6 && !st)) = true then 0 else 1
def judgeV (age life : Int) (r q : Rul) : Int :=
  jB r.2.1 (ltI age life) r.2.2.2.2.2.2.1 q.2.1 (leI 0 q.2.2.2.2.2.2.2.2.1) (ltI q.2.2.2.2.2.2.2.2.1 age) (leI 0 q.2.2.2.2.2.2.2.2.2.2.2.1) (ltI (subI .i64 life age) q.2.2.2.2.2.2.2.2.2.2.2.1) (leI 0 q.2.2.2.2.2.2.2.2.2.2.1) (leI (subI .i64 age life) q.2.2.2.2.2.2.2.2.2.2.1) (strictV r)
theorem judge_is (age life : Int) (r q : Rul) (K : Nat) (hK : 8 ≤ K) : policy_Judge.f K (age, (life, (r, q))) = some (judgeV age life r q) := by
  obtain ⟨a0, a1, a2, a3, a4, a5, a6, a7, a8, a9, a10, a11, a12⟩ := r
  obtain ⟨b0, b1, b2, b3, b4, b5, b6, b7, b8, b9, b10, b11, b12⟩ := q
  have H : ∀ (m : Nat), iter (policy_Judge.l0b K) (m + 8) (age, (life, (7, (0, (a0, (a1, (a2, (a3, (a4, (a5, (a6, (a7, (a8, (a9, (a10, (a11, (a12, (b0, (b1, (b2, (b3, (b4, (b5, (b6, (b7, (b8, (b9, (b10, (b11, (b12, (1, (0, (2, (2, (2, (0, 0)))))))))))))))))))))))))))))))))))) = some (judgeV age life (a0, a1, a2, a3, a4, a5, a6, a7, a8, a9, a10, a11, a12) (b0, b1, b2, b3, b4, b5, b6, b7, b8, b9, b10, b11, b12)) := by
    intro m
    have h7 : iter (policy_Judge.l0b K) (m + 1) (age, (life, (7, (7, (a0, (a1, (a2, (a3, (a4, (a5, (a6, (a7, (a8, (a9, (a10, (a11, (a12, (b0, (b1, (b2, (b3, (b4, (b5, (b6, (b7, (b8, (b9, (b10, (b11, (b12, (1, (0, (2, (2, (2, (0, 0)))))))))))))))))))))))))))))))))))) = some 1 := rfl
    have h6 : iter (policy_Judge.l0b K) (m + 2) (age, (life, (7, (6, (a0, (a1, (a2, (a3, (a4, (a5, (a6, (a7, (a8, (a9, (a10, (a11, (a12, (b0, (b1, (b2, (b3, (b4, (b5, (b6, (b7, (b8, (b9, (b10, (b11, (b12, (1, (0, (2, (2, (2, (0, 0)))))))))))))))))))))))))))))))))))) = ifO (leI 0 b10) (ifO (leI (subI .i64 age life) b10) (bindO (policy_strict.f K (a0, a1, a2, a3, a4, a5, a6, a7, a8, a9, a10, a11, a12)) fun y => ifO (notB y) (some 0) (iter (policy_Judge.l0b K) (m + 1) (age, (life, (7, (7, (a0, (a1, (a2, (a3, (a4, (a5, (a6, (a7, (a8, (a9, (a10, (a11, (a12, (b0, (b1, (b2, (b3, (b4, (b5, (b6, (b7, (b8, (b9, (b10, (b11, (b12, (1, (0, (2, (2, (2, (0, 0)))))))))))))))))))))))))))))))))))))) (iter (policy_Judge.l0b K) (m + 1) (age, (life, (7, (7, (a0, (a1, (a2, (a3, (a4, (a5, (a6, (a7, (a8, (a9, (a10, (a11, (a12, (b0, (b1, (b2, (b3, (b4, (b5, (b6, (b7, (b8, (b9, (b10, (b11, (b12, (1, (0, (2, (2, (2, (0, 0)))))))))))))))))))))))))))))))))))))) (iter (policy_Judge.l0b K) (m + 1) (age, (life, (7, (7, (a0, (a1, (a2, (a3, (a4, (a5, (a6, (a7, (a8, (a9, (a10, (a11, (a12, (b0, (b1, (b2, (b3, (b4, (b5, (b6, (b7, (b8, (b9, (b10, (b11, (b12, (1, (0, (2, (2, (2, (0, 0))))))))))))))))))))))))))))))))))))) := rfl
    have h5 : iter (policy_Judge.l0b K) (m + 3) (age, (life, (7, (5, (a0, (a1, (a2, (a3, (a4, (a5, (a6, (a7, (a8, (a9, (a10, (a11, (a12, (b0, (b1, (b2, (b3, (b4, (b5, (b6, (b7, (b8, (b9, (b10, (b11, (b12, (1, (0, (2, (2, (2, (0, 0)))))))))))))))))))))))))))))))))))) = ifO (ltI age life) (some 0) (iter (policy_Judge.l0b K) (m + 2) (age, (life, (7, (6, (a0, (a1, (a2, (a3, (a4, (a5, (a6, (a7, (a8, (a9, (a10, (a11, (a12, (b0, (b1, (b2, (b3, (b4, (b5, (b6, (b7, (b8, (b9, (b10, (b11, (b12, (1, (0, (2, (2, (2, (0, 0))))))))))))))))))))))))))))))))))))) := rfl
    have h4 : iter (policy_Judge.l0b K) (m + 4) (age, (life, (7, (4, (a0, (a1, (a2, (a3, (a4, (a5, (a6, (a7, (a8, (a9, (a10, (a11, (a12, (b0, (b1, (b2, (b3, (b4, (b5, (b6, (b7, (b8, (b9, (b10, (b11, (b12, (1, (0, (2, (2, (2, (0, 0)))))))))))))))))))))))))))))))))))) = ifO (leI 0 b11) (ifO (ltI (subI .i64 life age) b11) (some 2) (iter (policy_Judge.l0b K) (m + 3) (age, (life, (7, (5, (a0, (a1, (a2, (a3, (a4, (a5, (a6, (a7, (a8, (a9, (a10, (a11, (a12, (b0, (b1, (b2, (b3, (b4, (b5, (b6, (b7, (b8, (b9, (b10, (b11, (b12, (1, (0, (2, (2, (2, (0, 0)))))))))))))))))))))))))))))))))))))) (iter (policy_Judge.l0b K) (m + 3) (age, (life, (7, (5, (a0, (a1, (a2, (a3, (a4, (a5, (a6, (a7, (a8, (a9, (a10, (a11, (a12, (b0, (b1, (b2, (b3, (b4, (b5, (b6, (b7, (b8, (b9, (b10, (b11, (b12, (1, (0, (2, (2, (2, (0, 0))))))))))))))))))))))))))))))))))))) := rfl
    have h3 : iter (policy_Judge.l0b K) (m + 5) (age, (life, (7, (3, (a0, (a1, (a2, (a3, (a4, (a5, (a6, (a7, (a8, (a9, (a10, (a11, (a12, (b0, (b1, (b2, (b3, (b4, (b5, (b6, (b7, (b8, (b9, (b10, (b11, (b12, (1, (0, (2, (2, (2, (0, 0)))))))))))))))))))))))))))))))))))) = ifO (leI 0 b8) (ifO (ltI b8 age) (some 2) (iter (policy_Judge.l0b K) (m + 4) (age, (life, (7, (4, (a0, (a1, (a2, (a3, (a4, (a5, (a6, (a7, (a8, (a9, (a10, (a11, (a12, (b0, (b1, (b2, (b3, (b4, (b5, (b6, (b7, (b8, (b9, (b10, (b11, (b12, (1, (0, (2, (2, (2, (0, 0)))))))))))))))))))))))))))))))))))))) (iter (policy_Judge.l0b K) (m + 4) (age, (life, (7, (4, (a0, (a1, (a2, (a3, (a4, (a5, (a6, (a7, (a8, (a9, (a10, (a11, (a12, (b0, (b1, (b2, (b3, (b4, (b5, (b6, (b7, (b8, (b9, (b10, (b11, (b12, (1, (0, (2, (2, (2, (0, 0))))))))))))))))))))))))))))))))))))) := rfl
    have h2 : iter (policy_Judge.l0b K) (m + 6) (age, (life, (7, (2, (a0, (a1, (a2, (a3, (a4, (a5, (a6, (a7, (a8, (a9, (a10, (a11, (a12, (b0, (b1, (b2, (b3, (b4, (b5, (b6, (b7, (b8, (b9, (b10, (b11, (b12, (1, (0, (2, (2, (2, (0, 0)))))))))))))))))))))))))))))))))))) = ifO b1 (some 2) (iter (policy_Judge.l0b K) (m + 5) (age, (life, (7, (3, (a0, (a1, (a2, (a3, (a4, (a5, (a6, (a7, (a8, (a9, (a10, (a11, (a12, (b0, (b1, (b2, (b3, (b4, (b5, (b6, (b7, (b8, (b9, (b10, (b11, (b12, (1, (0, (2, (2, (2, (0, 0))))))))))))))))))))))))))))))))))))) := rfl
    have h1 : iter (policy_Judge.l0b K) (m + 7) (age, (life, (7, (1, (a0, (a1, (a2, (a3, (a4, (a5, (a6, (a7, (a8, (a9, (a10, (a11, (a12, (b0, (b1, (b2, (b3, (b4, (b5, (b6, (b7, (b8, (b9, (b10, (b11, (b12, (1, (0, (2, (2, (2, (0, 0)))))))))))))))))))))))))))))))))))) = ifO (ltI age life) (ifO a6 (some 0) (iter (policy_Judge.l0b K) (m + 6) (age, (life, (7, (2, (a0, (a1, (a2, (a3, (a4, (a5, (a6, (a7, (a8, (a9, (a10, (a11, (a12, (b0, (b1, (b2, (b3, (b4, (b5, (b6, (b7, (b8, (b9, (b10, (b11, (b12, (1, (0, (2, (2, (2, (0, 0)))))))))))))))))))))))))))))))))))))) (iter (policy_Judge.l0b K) (m + 6) (age, (life, (7, (2, (a0, (a1, (a2, (a3, (a4, (a5, (a6, (a7, (a8, (a9, (a10, (a11, (a12, (b0, (b1, (b2, (b3, (b4, (b5, (b6, (b7, (b8, (b9, (b10, (b11, (b12, (1, (0, (2, (2, (2, (0, 0))))))))))))))))))))))))))))))))))))) := rfl
    have h0 : iter (policy_Judge.l0b K) (m + 8) (age, (life, (7, (0, (a0, (a1, (a2, (a3, (a4, (a5, (a6, (a7, (a8, (a9, (a10, (a11, (a12, (b0, (b1, (b2, (b3, (b4, (b5, (b6, (b7, (b8, (b9, (b10, (b11, (b12, (1, (0, (2, (2, (2, (0, 0)))))))))))))))))))))))))))))))))))) = ifO a1 (some 1) (iter (policy_Judge.l0b K) (m + 7) (age, (life, (7, (1, (a0, (a1, (a2, (a3, (a4, (a5, (a6, (a7, (a8, (a9, (a10, (a11, (a12, (b0, (b1, (b2, (b3, (b4, (b5, (b6, (b7, (b8, (b9, (b10, (b11, (b12, (1, (0, (2, (2, (2, (0, 0))))))))))))))))))))))))))))))))))))) := rfl
    rw [h7, strict_is, bindO_some] at h6
    rw [h6] at h5
    rw [h5] at h4
    rw [h4] at h3
    rw [h3] at h2
    rw [h2] at h1
    rw [h1] at h0
    rw [h0]
    unfold judgeV
    dsimp only
    generalize ltI age life = lt
    generalize leI 0 b8 = p1
    generalize ltI b8 age = p2
    generalize leI 0 b11 = p3
    generalize ltI (subI .i64 life age) b11 = p4
    generalize leI 0 b10 = p5
    generalize leI (subI .i64 age life) b10 = p6
    generalize strictV (a0, a1, a2, a3, a4, a5, a6, a7, a8, a9, a10, a11, a12) = st
    cases a1
    · cases lt <;> cases a6 <;> cases b1 <;> try rfl
      all_goals (cases p1 <;> cases p2 <;> try rfl)
      all_goals (cases p3 <;> cases p4 <;> try rfl)
      all_goals (cases p5 <;> cases p6 <;> cases st <;> rfl)
    · rfl
  have := H (K - 8)
  rw [show K - 8 + 8 = K by omega] at this
  exact this
theorem r14judge (age life : Int) (r q : Rul) (K : Nat) : ref14_Judge.f K (age, (life, (r, q))) = some (judgeV age life r q) := by
  obtain ⟨a0, a1, a2, a3, a4, a5, a6, a7, a8, a9, a10, a11, a12⟩ := r
  obtain ⟨b0, b1, b2, b3, b4, b5, b6, b7, b8, b9, b10, b11, b12⟩ := q
  unfold ref14_Judge.f ref14_Judge.j0 ref14_Judge.j1 ref14_Judge.j2 judgeV
  dsimp only
  simp only [show ref14_strict.f K (a0, a1, a2, a3, a4, a5, a6, a7, a8, a9, a10, a11, a12) = some (strictV (a0, a1, a2, a3, a4, a5, a6, a7, a8, a9, a10, a11, a12)) from r14strict _ K, bindO_some]
  generalize ltI age life = lt
  generalize leI 0 b8 = p1
  generalize ltI b8 age = p2
  generalize leI 0 b11 = p3
  generalize ltI (subI .i64 life age) b11 = p4
  generalize leI 0 b10 = p5
  generalize leI (subI .i64 age life) b10 = p6
  generalize strictV (a0, a1, a2, a3, a4, a5, a6, a7, a8, a9, a10, a11, a12) = st
  cases a1
  · cases lt <;> cases a6 <;> cases b1 <;> try rfl
    all_goals (cases p1 <;> cases p2 <;> try rfl)
    all_goals (cases p3 <;> cases p4 <;> try rfl)
    all_goals (cases p5 <;> cases p6 <;> cases st <;> rfl)
  · rfl
def errV (age life : Int) (r : Rul) : Bool :=
  if r.2.1 = true then false else if ltI age life = true then true else if strictV r = false then true else (leI 0 r.2.2.2.2.2.2.2.2.2.2.2.2 && (leI (subI .i64 age life) r.2.2.2.2.2.2.2.2.2.2.2.2 && !r.2.2.2.2.1))
theorem onerr_is (age life : Int) (r : Rul) (K : Nat) : policy_OnError.f K (age, (life, r)) = some (errV age life r) := by
  obtain ⟨a0, a1, a2, a3, a4, a5, a6, a7, a8, a9, a10, a11, a12⟩ := r
  unfold policy_OnError.f errV
  dsimp only
  rw [show policy_strict.f K (a0, a1, a2, a3, a4, a5, a6, a7, a8, a9, a10, a11, a12) = some (strictV (a0, a1, a2, a3, a4, a5, a6, a7, a8, a9, a10, a11, a12)) from strict_is _ K, bindO_some]
  generalize ltI age life = lt
  generalize leI 0 a12 = p1
  generalize leI (subI .i64 age life) a12 = p2
  generalize strictV (a0, a1, a2, a3, a4, a5, a6, a7, a8, a9, a10, a11, a12) = st
  cases a1 <;> cases lt <;> cases st <;> cases p1 <;> cases p2 <;> cases a4 <;> rfl
theorem r14onerr (age life : Int) (r : Rul) (K : Nat) : ref14_OnError.f K (age, (life, r)) = some (errV age life r) := by
  obtain ⟨a0, a1, a2, a3, a4, a5, a6, a7, a8, a9, a10, a11, a12⟩ := r
  unfold ref14_OnError.f errV
  dsimp only
  rw [show ref14_strict.f K (a0, a1, a2, a3, a4, a5, a6, a7, a8, a9, a10, a11, a12) = some (strictV (a0, a1, a2, a3, a4, a5, a6, a7, a8, a9, a10, a11, a12)) from r14strict _ K, bindO_some]
  generalize ltI age life = lt
  generalize leI 0 a12 = p1
  generalize leI (subI .i64 age life) a12 = p2
  generalize strictV (a0, a1, a2, a3, a4, a5, a6, a7, a8, a9, a10, a11, a12) = st
  cases a1 <;> cases lt <;> cases st <;> cases p1 <;> cases p2 <;> cases a4 <;> rfl
end Go.Proofs.YtfnedbafindaeaaGreatDoor.R
