import Derived.Test.YtpddbfodjeoofaaDateI
/- The document's Parse finds what the program's Parse finds. -/
namespace Go.Proofs.Ytpddbfodjeoofaa.Pure
open Go.RowKit Go.Proofs.Ytpddbfodjeoofaa.PDate Go.Proofs.YtpddbfodjeoofaaW.PrintWords Go.Proofs.YtpddbfodjeoofaaW.PrintLast
set_option linter.unusedSimpArgs false
set_option linter.unusedVariables false

def r2y (v : Int) : Int := if v ≥ 70 then v + 1900 else v + 2000
def d3 (l : Bs) : Int := if dgt 2 0 (l.drop 8) < 0 then dgt 1 0 (l.drop 9) else dgt 2 0 (l.drop 8)
def rp1 (l : Bs) : Int := gs l (dgt 4 0 (l.drop 12)) (dgt 2 0 (l.drop 5)) 8 17
def rp2 (l : Bs) (i : Nat) : Int := gs l (r2y (dgt 2 0 (l.drop (i + 9)))) (dgt 2 0 (l.drop (i + 2))) (i + 5) (i + 12)
def rp3 (l : Bs) : Int := gs l (dgt 4 0 (l.drop 20)) (d3 l) 4 11
theorem drop_at (A X : Bs) (n m : Nat) (h : A.length = n) : (A ++ X).drop (n + m) = X.drop m := by
  rw [← List.drop_drop, List.drop_left' h]
theorem rp1_of (y m d h mi s : Nat) (v : Vd y m d h mi s) : rp1 (F1 y m d h mi s) = sec y m d h mi s := by
  have hb := v.ok
  obtain ⟨b1, b2, b3, b4, b5, b6⟩ := hb
  have hL := Lg_bd y m
  have hw := wdn_len _ (wdy_lt y m d)
  have lw : ((wdn (wdy y m d)).take 3).length = 3 := by rw [List.length_take]; omega
  have ln := nm_len (m - 1) (by omega)
  have d5 : (F1 y m d h mi s).drop 5 = D2 d ++ ([32] ++ (nm (m - 1) ++ ([32] ++ (D4 y ++ ([32] ++ clk h mi s ([32, 71, 77, 84] ++ [])))))) := by
    unfold F1 t1; exact drop_at _ _ 3 2 lw
  have d8 : (F1 y m d h mi s).drop 8 = nm (m - 1) ++ ([32] ++ (D4 y ++ ([32] ++ clk h mi s ([32, 71, 77, 84] ++ [])))) := by
    rw [show 8 = 5 + 3 from rfl, ← List.drop_drop, d5]; rfl
  have d12 : (F1 y m d h mi s).drop 12 = D4 y ++ ([32] ++ clk h mi s ([32, 71, 77, 84] ++ [])) := by
    rw [show 12 = 8 + (3 + 1) from rfl, ← List.drop_drop, d8, drop_at _ _ 3 1 ln]; rfl
  have d17 : (F1 y m d h mi s).drop 17 = clk h mi s ([32, 71, 77, 84] ++ []) := by
    rw [show 17 = 12 + 5 from rfl, ← List.drop_drop, d12]; rfl
  unfold rp1
  exact gs_of _ _ _ 8 17 y m d h mi s v (by rw [d12, dgt4 y (by omega)]) (by rw [d5, dgt2 d (by omega)]) ⟨_, d8⟩ ⟨_, d17⟩
theorem rp2_of (y m d h mi s : Nat) (v : Vd y m d h mi s) (hy : y ≤ 2069) : rp2 (F2 y m d h mi s) (wdn (wdy y m d)).length = sec y m d h mi s ∧ (F2 y m d h mi s)[(wdn (wdy y m d)).length]? = some 44 := by
  have hb := v.ok
  obtain ⟨b1, b2, b3, b4, b5, b6⟩ := hb
  have hL := Lg_bd y m
  have ln := nm_len (m - 1) (by omega)
  generalize ha : (wdn (wdy y m d)).length = a
  have d2 : (F2 y m d h mi s).drop (a + 2) = D2 d ++ ([45] ++ (nm (m - 1) ++ ([45] ++ (D2 (y % 100) ++ ([32] ++ clk h mi s ([32, 71, 77, 84] ++ [])))))) := by
    unfold F2 t2; exact drop_at _ _ a 2 ha
  have d5 : (F2 y m d h mi s).drop (a + 5) = nm (m - 1) ++ ([45] ++ (D2 (y % 100) ++ ([32] ++ clk h mi s ([32, 71, 77, 84] ++ [])))) := by
    rw [show a + 5 = a + 2 + 3 from rfl, ← List.drop_drop, d2]; rfl
  have d9 : (F2 y m d h mi s).drop (a + 9) = D2 (y % 100) ++ ([32] ++ clk h mi s ([32, 71, 77, 84] ++ [])) := by
    rw [show a + 9 = a + 5 + (3 + 1) from rfl, ← List.drop_drop, d5, drop_at _ _ 3 1 ln]; rfl
  have d12 : (F2 y m d h mi s).drop (a + 12) = clk h mi s ([32, 71, 77, 84] ++ []) := by
    rw [show a + 12 = a + 9 + 3 from rfl, ← List.drop_drop, d9]; rfl
  refine ⟨?_, ?_⟩
  · unfold rp2
    exact gs_of _ _ _ _ _ y m d h mi s v (by rw [d9, dgt2 (y % 100) (by omega)]; unfold r2y; split <;> omega) (by rw [d2, dgt2 d (by omega)]) ⟨_, d5⟩ ⟨_, d12⟩
  · unfold F2 t2
    rw [List.getElem?_append_right (by omega), ha, Nat.sub_self]; rfl
theorem rp3_of (y m d h mi s : Nat) (v : Vd y m d h mi s) : rp3 (F3 y m d h mi s) = sec y m d h mi s := by
  have hb := v.ok
  obtain ⟨b1, b2, b3, b4, b5, b6⟩ := hb
  have hL := Lg_bd y m
  have hw := wdn_len _ (wdy_lt y m d)
  have lw : ((wdn (wdy y m d)).take 3).length = 3 := by rw [List.length_take]; omega
  have ln := nm_len (m - 1) (by omega)
  have ls : (sd d).length = 2 := by unfold sd; split <;> rfl
  have d4 : (F3 y m d h mi s).drop 4 = nm (m - 1) ++ ([32] ++ (sd d ++ ([32] ++ clk h mi s ([32] ++ (D4 y ++ []))))) := by
    unfold F3 t3; exact drop_at _ _ 3 1 lw
  have d8 : (F3 y m d h mi s).drop 8 = sd d ++ ([32] ++ clk h mi s ([32] ++ (D4 y ++ []))) := by
    rw [show 8 = 4 + (3 + 1) from rfl, ← List.drop_drop, d4, drop_at _ _ 3 1 ln]; rfl
  have d11 : (F3 y m d h mi s).drop 11 = clk h mi s ([32] ++ (D4 y ++ [])) := by
    rw [show 11 = 8 + (2 + 1) from rfl, ← List.drop_drop, d8, drop_at _ _ 2 1 ls]; rfl
  have d20 : (F3 y m d h mi s).drop 20 = D4 y ++ [] := by
    rw [show 20 = 11 + 9 from rfl, ← List.drop_drop, d11]; rfl
  have d9 : (F3 y m d h mi s).drop 9 = (sd d ++ ([32] ++ clk h mi s ([32] ++ (D4 y ++ [])))).drop 1 := by
    rw [show 9 = 8 + 1 from rfl, ← List.drop_drop, d8]
  have hd : d3 (F3 y m d h mi s) = d := by
    unfold d3
    rw [d8, d9]
    unfold sd
    by_cases h10 : d < 10
    · rw [if_pos h10]
      have e1 : dgt 2 0 (([32] ++ D1 d) ++ ([32] ++ clk h mi s ([32] ++ (D4 y ++ [])))) = -1 := rfl
      rw [e1, if_pos (by decide)]
      exact dgt1 d h10 _
    · rw [if_neg h10, dgt2 d (by omega), if_neg (by omega)]
  unfold rp3
  exact gs_of _ _ _ 4 11 y m d h mi s v (by rw [d20, dgt4 y (by omega)]) hd ⟨_, d4⟩ ⟨_, d11⟩

/-- What a tail of the search tells: it found the date; or there is none of its forms. -/
def Tell (l : Bs) (o : Option (Int × Int)) (N : Prop) : Prop := (∃ a, o = some (a, 0) ∧ found l = some a) ∨ (o = some (0, 2) ∧ N)
theorem gs_form {l : Bs} {y d : Int} {mon c : Nat} (k : Nat) (hk : 9001 ≤ k) (h : 0 ≤ gs l y d mon c) : ∃ Y M D H Mi S : Nat, Vd Y M D H Mi S ∧ gs l y d mon c = sec Y M D H Mi S ∧ sculleryref05_forms.f k (gs l y d mon c) = some (B (F1 Y M D H Mi S), B (F2x Y M D H Mi S), B (F3 Y M D H Mi S)) := by
  obtain ⟨Y, M, D, H, Mi, S, v, e⟩ := gs_some l y d mon c h
  exact ⟨Y, M, D, H, Mi, S, v, e, by rw [e]; exact rforms_eq _ _ _ _ _ _ v k hk⟩
def No3 (l : Bs) : Prop := ¬ ∃ y m d h mi s, Vd y m d h mi s ∧ l = F3 y m d h mi s
theorem rj4 (l : Bs) (k : Nat) (hk : 9200 ≤ k) : Tell l (sculleryref05_Parse.j4 k (B l) (d3 l)) (No3 l) := by
  obtain ⟨k, rfl⟩ : ∃ n, k = n + 1 := ⟨k - 1, by omega⟩
  simp only [sculleryref05_Parse.j4]
  rw [rdig l 20 4 20 4 rfl rfl (by decide) (by decide) k (by omega)]
  simp only [Option.bind_some]
  rw [rguess l _ _ 4 11 4 11 rfl rfl (by decide) (by decide) k (by omega)]
  simp only [Option.bind_some]
  have e0 : gs l (dgt 4 0 (l.drop 20)) (d3 l) 4 11 = rp3 l := rfl
  by_cases h : 0 ≤ rp3 l
  · obtain ⟨Y, M, D, H, Mi, S, v, e, ef⟩ := gs_form (l := l) (y := dgt 4 0 (l.drop 20)) (d := d3 l) (mon := 4) (c := 11) k (by omega) h
    rw [ef]
    simp only [Option.bind_some, B_toList]
    rw [e0] at e ⊢
    rw [if_pos h]
    by_cases hf : F3 Y M D H Mi S = l
    · rw [if_pos hf]
      exact Or.inl ⟨_, rfl, (found_iff _ _).2 ⟨Y, M, D, H, Mi, S, v, e, Or.inr (Or.inr hf.symm)⟩⟩
    · rw [if_neg hf]
      refine Or.inr ⟨rfl, ?_⟩
      rintro ⟨y, m, d, hh, mi, s, v', rfl⟩
      rw [rp3_of _ _ _ _ _ _ v'] at e
      obtain ⟨rfl, rfl, rfl, rfl, rfl, rfl⟩ := sec_inj v' v e
      exact hf rfl
  · rw [e0, if_neg h]
    refine Or.inr ⟨rfl, ?_⟩
    rintro ⟨y, m, d, hh, mi, s, v', rfl⟩
    rw [rp3_of _ _ _ _ _ _ v'] at h
    exact h (sec_bd v').1
theorem rj2_false (l : Bs) (x : Int) (k : Nat) (hk : 9201 ≤ k) : Tell l (sculleryref05_Parse.j2 k (B l) x false) (No3 l) := by
  obtain ⟨k, rfl⟩ : ∃ n, k = n + 1 := ⟨k - 1, by omega⟩
  have := rj4 l k (by omega)
  simp only [sculleryref05_Parse.j2]
  rw [if_neg (by decide), rdig l 8 2 8 2 rfl rfl (by decide) (by decide) k (by omega), rdig l 9 1 9 1 rfl rfl (by decide) (by decide) k (by omega)]
  simp only [Option.bind_some]
  unfold d3 at this
  by_cases h : dgt 2 0 (l.drop 8) < 0
  · rw [if_pos h] at this ⊢; exact this
  · rw [if_neg h] at this ⊢; exact this
def No2 (l : Bs) (j : Nat) : Prop := ∀ i, j ≤ i → i < 12 → ¬ ∃ y m d h mi s, Vd y m d h mi s ∧ y ≤ 2069 ∧ l = F2 y m d h mi s ∧ (wdn (wdy y m d)).length = i
theorem Tell.more {l : Bs} {o : Option (Int × Int)} {N N' : Prop} (h : Tell l o N) (f : N → N') : Tell l o N' := by
  rcases h with h | ⟨h1, h2⟩
  · exact Or.inl h
  · exact Or.inr ⟨h1, f h2⟩
theorem no2_step (l : Bs) (j : Nat) (h : No2 l (j + 1)) (h0 : ¬ ∃ y m d h mi s, Vd y m d h mi s ∧ y ≤ 2069 ∧ l = F2 y m d h mi s ∧ (wdn (wdy y m d)).length = j) : No2 l j := by
  intro i h1 h2
  rcases Nat.lt_or_ge j i with g | g
  · exact h i g h2
  · obtain rfl : i = j := by omega
    exact h0
theorem no2_end (l : Bs) (j : Nat) (hj : j ≥ 12 ∨ j ≥ l.length) : No2 l j := by
  rintro i h1 h2 ⟨y, m, d, hh, mi, s, v, hy, rfl, rfl⟩
  have := (rp2_of y m d hh mi s v hy).2
  obtain ⟨hlt, _⟩ := List.getElem?_eq_some_iff.1 this
  omega
theorem rl0 (l : Bs) (hl : l.length ≤ 60) : ∀ (e j k : Nat), j + e = 12 → 4 * e + 9210 ≤ k → Tell l (sculleryref05_Parse.l0 k (B l) j) (No3 l ∧ No2 l j) := by
  intro e
  induction e with
  | zero =>
    intro j k hj hk
    obtain ⟨k, rfl⟩ : ∃ n, k = n + 1 := ⟨k - 1, by omega⟩
    simp only [sculleryref05_Parse.l0]
    have := (rj2_false l j k (by omega)).more (N' := No3 l ∧ No2 l j) (fun h => ⟨h, no2_end l j (by omega)⟩)
    rw [decide_eq_false (show ¬ (j : Int) < 12 by omega)]
    split <;> exact this
  | succ e ih =>
    intro j k hj hk
    obtain ⟨k, rfl⟩ : ∃ n, k = n + 1 + 1 + 1 := ⟨k - 3, by omega⟩
    rw [show k + 1 + 1 + 1 = (k + 1 + 1) + 1 from rfl]
    simp only [sculleryref05_Parse.l0]
    rw [B_size]
    by_cases hlt : j < l.length
    · rw [if_pos (by omega), decide_eq_true (show (j : Int) < 12 by omega)]
      have hi1 := ih (j + 1) (k + 1) (by omega) (by omega)
      have hi2 := ih (j + 1) k (by omega) (by omega)
      rw [show ((j + 1 : Nat) : Int) = wrap64 ((j : Int) + 1) by rw [w64 (by omega) (by omega)]; rfl] at hi1 hi2
      simp only [sculleryref05_Parse.j2]
      rw [if_pos trivial, B_size, if_pos (by omega), if_pos (by omega), B_get l j hlt]
      by_cases h44 : (l[j].toNat : Int) = 44
      · rw [if_pos h44, w64 (x := (j : Int) + 9) (by omega) (by omega), rdig l (j + 9) 2 ((j : Int) + 9) 2 (by omega) rfl (by omega) (by decide) (k + 1) (by omega)]
        simp only [Option.bind_some]
        have hv := dgt_n 2 (l.drop (j + 9)) (by decide)
        have J : Tell l (sculleryref05_Parse.j3 (k + 1) (B l) j (r2y (dgt 2 0 (l.drop (j + 9))))) (No3 l ∧ No2 l j) := by
          simp only [sculleryref05_Parse.j3]
          rw [w64 (x := (j : Int) + 2) (by omega) (by omega), w64 (x := (j : Int) + 5) (by omega) (by omega), w64 (x := (j : Int) + 12) (by omega) (by omega), rdig l (j + 2) 2 ((j : Int) + 2) 2 (by omega) rfl (by omega) (by decide) k (by omega)]
          simp only [Option.bind_some]
          rw [rguess l _ _ (j + 5) (j + 12) ((j : Int) + 5) ((j : Int) + 12) (by omega) (by omega) (by omega) (by omega) k (by omega)]
          simp only [Option.bind_some]
          have e0 : gs l (r2y (dgt 2 0 (l.drop (j + 9)))) (dgt 2 0 (l.drop (j + 2))) (j + 5) (j + 12) = rp2 l j := rfl
          by_cases h : 0 ≤ rp2 l j
          · obtain ⟨Y, M, D, H, Mi, S, v, e1, ef⟩ := gs_form (l := l) (y := r2y (dgt 2 0 (l.drop (j + 9)))) (d := dgt 2 0 (l.drop (j + 2))) (mon := j + 5) (c := j + 12) k (by omega) h
            rw [ef]
            simp only [Option.bind_some, B_toList]
            rw [e0] at e1 ⊢
            rw [if_pos h]
            by_cases hf : F2x Y M D H Mi S = l
            · rw [if_pos hf]
              have hy : ¬ Y > 2069 := by
                intro g
                unfold F2x at hf
                rw [if_pos g] at hf
                subst hf
                simp at hlt
              unfold F2x at hf
              rw [if_neg hy] at hf
              exact Or.inl ⟨_, rfl, (found_iff _ _).2 ⟨Y, M, D, H, Mi, S, v, e1, Or.inr (Or.inl ⟨by omega, hf.symm⟩)⟩⟩
            · rw [if_neg hf]
              refine hi2.more (fun g => ⟨g.1, no2_step l j g.2 ?_⟩)
              rintro ⟨y, m, d, hh, mi, s, v', hy, rfl, rfl⟩
              rw [(rp2_of _ _ _ _ _ _ v' hy).1] at e1
              obtain ⟨rfl, rfl, rfl, rfl, rfl, rfl⟩ := sec_inj v' v e1
              exact hf (by unfold F2x; rw [if_neg (by omega)])
          · rw [e0, if_neg h]
            refine hi2.more (fun g => ⟨g.1, no2_step l j g.2 ?_⟩)
            rintro ⟨y, m, d, hh, mi, s, v', hy, rfl, rfl⟩
            rw [(rp2_of _ _ _ _ _ _ v' hy).1] at h
            exact h (sec_bd v').1
        unfold r2y at J
        by_cases h70 : dgt 2 0 (l.drop (j + 9)) ≥ 70
        · rw [if_pos h70] at J ⊢; rw [w64 (by omega) (by omega)]; exact J
        · rw [if_neg h70] at J ⊢; rw [w64 (by omega) (by omega)]; exact J
      · rw [if_neg h44]
        refine hi1.more (fun g => ⟨g.1, no2_step l j g.2 ?_⟩)
        rintro ⟨y, m, d, hh, mi, s, v', hy, rfl, rfl⟩
        have := (rp2_of _ _ _ _ _ _ v' hy).2
        rw [List.getElem?_eq_getElem hlt] at this
        injection this with this
        rw [this] at h44
        exact h44 rfl
    · rw [if_neg (by omega)]
      exact (rj2_false l j (k + 1 + 1) (by omega)).more (fun h => ⟨h, no2_end l j (by omega)⟩)
theorem rparse_eq (l : Bs) (hl : l.length ≤ 60) (k : Nat) (hk : 9300 ≤ k) : sculleryref05_Parse.f k (B l) = some (match found l with
    | some a => (a, 0)
    | none => (0, 2)) := by
  obtain ⟨k, rfl⟩ : ∃ n, k = n + 1 := ⟨k - 1, by omega⟩
  have fin : ∀ {o N}, Tell l o N → (N → found l = none) → o = some (match found l with
      | some a => (a, 0)
      | none => (0, 2)) := by
    intro o N h f
    rcases h with ⟨a, h1, h2⟩ | ⟨h1, h2⟩
    · rw [h1, h2]
    · rw [h1, f h2]
  unfold sculleryref05_Parse.f
  rw [rdig l 12 4 12 4 rfl rfl (by decide) (by decide) (k + 1) (by omega), rdig l 5 2 5 2 rfl rfl (by decide) (by decide) (k + 1) (by omega)]
  simp only [Option.bind_some]
  rw [rguess l _ _ 8 17 8 17 rfl rfl (by decide) (by decide) (k + 1) (by omega)]
  simp only [Option.bind_some]
  have e0 : gs l (dgt 4 0 (l.drop 12)) (dgt 2 0 (l.drop 5)) 8 17 = rp1 l := rfl
  have L := rl0 l hl 12 0 k rfl (by omega)
  have none_of : (¬ ∃ y m d h mi s, Vd y m d h mi s ∧ l = F1 y m d h mi s) → No3 l ∧ No2 l 0 → found l = none := by
    intro n1 n
    cases hf : found l with
    | none => rfl
    | some a =>
      obtain ⟨y, m, d, h, mi, s, v, e, h1 | ⟨hy, h2⟩ | h3⟩ := (found_iff _ _).1 hf
      · exact absurd ⟨y, m, d, h, mi, s, v, h1⟩ n1
      · have hw := wdn_len _ (wdy_lt y m d)
        exact absurd ⟨y, m, d, h, mi, s, v, hy, h2, rfl⟩ (n.2 _ (Nat.zero_le _) (by omega))
      · exact absurd ⟨y, m, d, h, mi, s, v, h3⟩ n.1
  by_cases h : 0 ≤ rp1 l
  · obtain ⟨Y, M, D, H, Mi, S, v, e, ef⟩ := gs_form (l := l) (y := dgt 4 0 (l.drop 12)) (d := dgt 2 0 (l.drop 5)) (mon := 8) (c := 17) (k + 1) (by omega) h
    rw [ef]
    simp only [Option.bind_some, B_toList]
    rw [e0] at e ⊢
    rw [if_pos h]
    simp only [sculleryref05_Parse.j0]
    by_cases hf : F1 Y M D H Mi S = l
    · rw [if_pos (by rw [hf]; exact beq_self_eq_true l)]
      rw [(found_iff l (rp1 l)).2 ⟨Y, M, D, H, Mi, S, v, e, Or.inl hf.symm⟩]
    · rw [if_neg (by rw [beq_iff_eq]; exact hf)]
      refine fin L (none_of ?_)
      rintro ⟨y, m, d, hh, mi, s, v', rfl⟩
      rw [rp1_of _ _ _ _ _ _ v'] at e
      obtain ⟨rfl, rfl, rfl, rfl, rfl, rfl⟩ := sec_inj v' v e
      exact hf rfl
  · rw [e0, if_neg h]
    simp only [sculleryref05_Parse.j0]
    rw [if_neg (by decide)]
    refine fin L (none_of ?_)
    rintro ⟨y, m, d, hh, mi, s, v', rfl⟩
    rw [rp1_of _ _ _ _ _ _ v'] at h
    exact h (sec_bd v').1
theorem rprint_eq (n : Int) (k : Nat) (hk : 9001 ≤ k) : sculleryref05_Print.f k n = date_Print.f k n := by
  unfold sculleryref05_Print.f
  by_cases h : n < 0
  · rw [if_pos h, print_no n (Or.inl h) k (by omega)]; rfl
  by_cases h' : n > 253402300799
  · rw [if_neg h, if_pos h', print_no n (Or.inr (by omega)) k (by omega)]; rfl
  rw [if_neg h, if_neg h']
  obtain ⟨y, m, d, hh, mi, s, v, rfl⟩ := sec_ex n (by omega) (by omega)
  rw [rforms_eq _ _ _ _ _ _ v k hk, print_yes _ _ _ _ _ _ v k hk]
  rfl
theorem rdays_eq (y m d : Int) (k : Nat) (hk : 8100 ≤ k) : sculleryref05_Days.f k y m d = date_Days.f k y m d := by
  by_cases h : Ok3 y m d
  · rw [rdays_yes y m d h k hk, days_yes y m d h k (by omega)]
  · rw [rdays_no y m d h k (by omega), days_no y m d h k (by omega)]
end Go.Proofs.Ytpddbfodjeoofaa.Pure
