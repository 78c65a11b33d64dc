/- PolicyYounger: what is a hit stays one, if it is younger, or longer fresh; a fresh one that is immutable is a hit; a fresh one, without any rules, may be told where the origin fails. -/
import Derived.Test.YtfnedbafindaeaaGreatDoorPurePolicyJudges
namespace Go.Proofs.YtfnedbafindaeaaGreatDoor.R
open Go Go.RowKit
set_option linter.unusedSimpArgs false
set_option linter.unusedVariables false
theorem jB_zero (nc lt im nc' p1 p2 p3 p4 p5 p6 st : Bool) : jB nc lt im nc' p1 p2 p3 p4 p5 p6 st = 0 ↔ nc = false ∧ ((lt = true ∧ im = true) ∨ (nc' = false ∧ (p1 && p2) = false ∧ (p3 && p4) = false ∧ (lt = true ∨ (p5 && (p6 && !st)) = true))) := by
  unfold jB
  generalize (p1 && p2) = c1
  generalize (p3 && p4) = c2
  generalize (p5 && (p6 && !st)) = c3
  cases nc <;> cases lt <;> cases im <;> cases nc' <;> cases c1 <;> cases c2 <;> cases c3 <;> decide
theorem jB_range (nc lt im nc' p1 p2 p3 p4 p5 p6 st : Bool) : 0 ≤ jB nc lt im nc' p1 p2 p3 p4 p5 p6 st ∧ jB nc lt im nc' p1 p2 p3 p4 p5 p6 st ≤ 2 := by
  unfold jB
  generalize (p1 && p2) = c1
  generalize (p3 && p4) = c2
  generalize (p5 && (p6 && !st)) = c3
  cases nc <;> cases lt <;> cases im <;> cases nc' <;> cases c1 <;> cases c2 <;> cases c3 <;> decide
theorem jB_younger {nc lt im nc' p1 p2 p3 p4 p5 p6 st lt' p2' p4' p6' : Bool} (h : jB nc lt im nc' p1 p2 p3 p4 p5 p6 st = 0) (h1 : lt = true → lt' = true) (h2 : p2' = true → p2 = true) (h3 : p4' = true → p4 = true) (h4 : p6 = true → p6' = true) : jB nc lt' im nc' p1 p2' p3 p4' p5 p6' st = 0 := by
  rw [jB_zero] at h ⊢
  obtain ⟨g1, g2⟩ := h
  refine ⟨g1, ?_⟩
  rcases g2 with ⟨a, b⟩ | ⟨a, b, c, d⟩
  · exact .inl ⟨h1 a, b⟩
  · refine .inr ⟨a, ?_, ?_, ?_⟩
    · cases p1 <;> cases p2' <;> simp_all
    · cases p3 <;> cases p4' <;> simp_all
    · rcases d with d | d
      · exact .inl (h1 d)
      · refine .inr ?_
        cases p5 <;> cases p6 <;> cases st <;> simp_all
theorem dimp {p q : Prop} [Decidable p] [Decidable q] (h : p → q) : decide p = true → decide q = true := fun e => decide_eq_true (h (of_decide_eq_true e))
theorem judge_younger {age life n0 n1 : Int} (r q : Rul) (h1 : 0 ≤ age) (h2 : 0 ≤ life) (h3 : age ≤ 2147483648) (h4 : life ≤ 2147483648) (h5 : 0 ≤ n0) (h6 : n0 ≤ age) (h7 : 0 ≤ n1) (h8 : n1 ≤ 2147483648 - life) (h : judgeV age life r q = 0) : judgeV (age - n0) (life + n1) r q = 0 := by
  unfold judgeV at h ⊢
  rw [sub64 (x := life) (y := age) (by omega) (by omega), sub64 (x := age) (y := life) (by omega) (by omega)] at h
  rw [sub64 (x := life + n1) (y := age - n0) (by omega) (by omega), sub64 (x := age - n0) (y := life + n1) (by omega) (by omega)]
  exact jB_younger h (dimp (by omega)) (dimp (by omega)) (dimp (by omega)) (dimp (by omega))
theorem err_younger {age life n0 n1 : Int} (r : Rul) (h1 : 0 ≤ age) (h2 : 0 ≤ life) (h3 : age ≤ 2147483648) (h4 : life ≤ 2147483648) (h5 : 0 ≤ n0) (h6 : n0 ≤ age) (h7 : 0 ≤ n1) (h8 : n1 ≤ 2147483648 - life) (h : errV age life r = true) : errV (age - n0) (life + n1) r = true := by
  unfold errV at h ⊢
  rw [sub64 (x := age) (y := life) (by omega) (by omega)] at h
  rw [sub64 (x := age - n0) (y := life + n1) (by omega) (by omega)]
  by_cases c1 : r.2.1 = true
  · rw [if_pos c1] at h; cases h
  rw [if_neg c1] at h ⊢
  by_cases c2 : ltI (age - n0) (life + n1) = true
  · rw [if_pos c2]
  rw [if_neg c2]
  have c3 : ¬ ltI age life = true := fun e => c2 (dimp (p := age < life) (q := age - n0 < life + n1) (by omega) e)
  rw [if_neg c3] at h
  by_cases c4 : strictV r = false
  · rw [if_pos c4]
  rw [if_neg c4] at h ⊢
  rw [Bool.and_eq_true, Bool.and_eq_true] at h ⊢
  exact ⟨h.1, dimp (p := age - life ≤ r.2.2.2.2.2.2.2.2.2.2.2.2) (q := age - n0 - (life + n1) ≤ r.2.2.2.2.2.2.2.2.2.2.2.2) (by omega) h.2.1, h.2.2⟩
theorem PolicyYounger (t : Int × Int) (l : Rul × Rul) (n : Int × Int) (w0 : Ty.Wf (.agg (.pair (.int .i64) (.int .i64))) t) (w1 : Ty.Wf (.agg (.pair RulT RulT)) l) (w2 : Ty.Wf (.agg (.pair (.int .i64) (.int .i64))) n) : ∃ k, law14_PolicyYounger.f k (t, (l, n)) = some true := by
  refine ⟨1000010, ?_⟩
  obtain ⟨age, life⟩ := t
  obtain ⟨n0, n1⟩ := n
  obtain ⟨⟨a0, a1, a2, a3, a4, a5, a6, a7, a8, a9, a10, a11, a12⟩, ⟨b0, b1, b2, b3, b4, b5, b6, b7, b8, b9, b10, b11, b12⟩⟩ := l
  have out : ∀ x y v, law14_PolicyYounger.j1 1000010 (true, (x, (y, (true, v)))) = some true := fun _ _ _ => rfl
  unfold law14_PolicyYounger.f
  dsimp only
  rw [awake14, bindO_some]
  simp only [ltD]
  rw [ifO_dec]
  by_cases h1 : age < 0
  · rw [if_pos h1]; exact out _ _ _
  rw [if_neg h1, ifO_dec]
  by_cases h2 : life < 0
  · rw [if_pos h2]; exact out _ _ _
  rw [if_neg h2, ifO_dec]
  by_cases h3 : 2147483648 < age
  · rw [if_pos h3]; exact out _ _ _
  rw [if_neg h3, ifO_dec]
  by_cases h4 : 2147483648 < life
  · rw [if_pos h4]; exact out _ _ _
  rw [if_neg h4, ifO_dec]
  by_cases h5 : n0 < 0
  · rw [if_pos h5]; exact out _ _ _
  rw [if_neg h5, ifO_dec]
  by_cases h6 : age < n0
  · rw [if_pos h6]; exact out _ _ _
  rw [if_neg h6, ifO_dec]
  by_cases h7 : n1 < 0
  · rw [if_pos h7]; exact out _ _ _
  rw [if_neg h7, sub64 (x := 2147483648) (y := life) (by omega) (by omega)]
  by_cases h8 : 2147483648 - life < n1
  · rw [decide_eq_true h8]; exact out _ _ _
  rw [decide_eq_false h8]
  have yj := judge_younger (n0 := n0) (n1 := n1) (age := age) (life := life) (a0, a1, a2, a3, a4, a5, a6, a7, a8, a9, a10, a11, a12) (b0, b1, b2, b3, b4, b5, b6, b7, b8, b9, b10, b11, b12) (by omega) (by omega) (by omega) (by omega) (by omega) (by omega) (by omega) (by omega)
  have ye := err_younger (n0 := n0) (n1 := n1) (age := age) (life := life) (a0, a1, a2, a3, a4, a5, a6, a7, a8, a9, a10, a11, a12) (by omega) (by omega) (by omega) (by omega) (by omega) (by omega) (by omega) (by omega)
  have vr : 0 ≤ judgeV age life (a0, a1, a2, a3, a4, a5, a6, a7, a8, a9, a10, a11, a12) (b0, b1, b2, b3, b4, b5, b6, b7, b8, b9, b10, b11, b12) ∧ judgeV age life (a0, a1, a2, a3, a4, a5, a6, a7, a8, a9, a10, a11, a12) (b0, b1, b2, b3, b4, b5, b6, b7, b8, b9, b10, b11, b12) ≤ 2 := jB_range _ _ _ _ _ _ _ _ _ _ _
  have vz := jB_zero a1 (ltI age life) a6 b1 (leI 0 b8) (ltI b8 age) (leI 0 b11) (ltI (subI .i64 life age) b11) (leI 0 b10) (leI (subI .i64 age life) b10) (strictV (a0, a1, a2, a3, a4, a5, a6, a7, a8, a9, a10, a11, a12))
  replace vz : judgeV age life (a0, a1, a2, a3, a4, a5, a6, a7, a8, a9, a10, a11, a12) (b0, b1, b2, b3, b4, b5, b6, b7, b8, b9, b10, b11, b12) = 0 ↔ _ := vz
  have q1 := judge_is age life (a0, a1, a2, a3, a4, a5, a6, a7, a8, a9, a10, a11, a12) (b0, b1, b2, b3, b4, b5, b6, b7, b8, b9, b10, b11, b12) 1000010 (by omega)
  have q2 := judge_is (age - n0) (life + n1) (a0, a1, a2, a3, a4, a5, a6, a7, a8, a9, a10, a11, a12) (b0, b1, b2, b3, b4, b5, b6, b7, b8, b9, b10, b11, b12) 1000010 (by omega)
  have q3 := onerr_is age life (a0, a1, a2, a3, a4, a5, a6, a7, a8, a9, a10, a11, a12) 1000010
  have q4 := onerr_is (age - n0) (life + n1) (a0, a1, a2, a3, a4, a5, a6, a7, a8, a9, a10, a11, a12) 1000010
  have el : age < life → a1 = false → errV age life (a0, a1, a2, a3, a4, a5, a6, a7, a8, a9, a10, a11, a12) = true := by
    intro g1 g2
    unfold errV
    dsimp only
    rw [if_neg (by rw [g2]; decide), if_pos (show ltI age life = true from decide_eq_true g1)]
  generalize hV : judgeV age life (a0, a1, a2, a3, a4, a5, a6, a7, a8, a9, a10, a11, a12) (b0, b1, b2, b3, b4, b5, b6, b7, b8, b9, b10, b11, b12) = V at *
  generalize judgeV (age - n0) (life + n1) (a0, a1, a2, a3, a4, a5, a6, a7, a8, a9, a10, a11, a12) (b0, b1, b2, b3, b4, b5, b6, b7, b8, b9, b10, b11, b12) = W at *
  generalize errV age life (a0, a1, a2, a3, a4, a5, a6, a7, a8, a9, a10, a11, a12) = Eo at *
  generalize errV (age - n0) (life + n1) (a0, a1, a2, a3, a4, a5, a6, a7, a8, a9, a10, a11, a12) = En at *
  have j5 : law14_PolicyYounger.j5 1000010 (true, (age, (life, (V, (false, (a0, (a1, (a2, (a3, (a4, (a5, (a6, (a7, (a8, (a9, (a10, (a11, (a12, (b0, (b1, (b2, (b3, (b4, (b5, (b6, (b7, (b8, (b9, (b10, (b11, (b12, (n0, n1)))))))))))))))))))))))))))))))) = some true := by
    unfold law14_PolicyYounger.j5
    dsimp only
    rw [ifO_false, q3, bindO_some, ifO_true, sub64 (x := age) (y := n0) (by omega) (by omega), add64 (x := life) (y := n1) (by omega) (by omega), q4, bindO_some]
    have fin : ifO (neI V 0) (some true) (ifO (leI life age) (some true) (some Eo)) = some true := by
      rw [neI_dec, ifO_dec, leD, ifO_dec]
      by_cases c1 : V ≠ 0
      · rw [if_pos c1]
      rw [if_neg c1]
      by_cases c2 : life ≤ age
      · rw [if_pos c2]
      rw [if_neg c2]
      have c1' : V = 0 := by omega
      rw [el (by omega) (vz.1 c1').1]
    rw [fin]
    cases Eo with
    | false => rfl
    | true => rw [ye rfl]; rfl
  have j4 : law14_PolicyYounger.j4 1000010 (true, (age, (life, (V, (false, (a0, (a1, (a2, (a3, (a4, (a5, (a6, (a7, (a8, (a9, (a10, (a11, (a12, (b0, (b1, (b2, (b3, (b4, (b5, (b6, (b7, (b8, (b9, (b10, (b11, (b12, (n0, n1)))))))))))))))))))))))))))))))) = some true := by
    unfold law14_PolicyYounger.j4
    dsimp only
    rw [ifO_false, j5, ltD, ifO_dec]
    by_cases c1 : age < life
    · rw [if_pos c1]
      cases a6 with
      | false => rw [ifO_false]
      | true =>
        cases a1 with
        | true => rfl
        | false =>
          have c0 : V = 0 := vz.2 ⟨rfl, .inl ⟨decide_eq_true c1, rfl⟩⟩
          rw [ifO_true, show notB false = true from rfl, ifO_true, show neI V 0 = false by rw [neI_dec, decide_eq_false (by omega)], j5]
    · rw [if_neg c1]
  unfold law14_PolicyYounger.j1
  dsimp only
  rw [ifO_false, q1, bindO_some, sub64 (x := age) (y := n0) (by omega) (by omega), add64 (x := life) (y := n1) (by omega) (by omega), q2, bindO_some]
  rw [show ltI V 0 = false from decide_eq_false (by omega), show ltI 2 V = false from decide_eq_false (by omega), ifO_false, j4, eqI_dec, ifO_dec]
  by_cases c : V = 0
  · rw [if_pos c, show neI W 0 = false by rw [neI_dec, decide_eq_false (by have := yj c; omega)], ifO_false]
  · rw [if_neg c]
end Go.Proofs.YtfnedbafindaeaaGreatDoor.R
