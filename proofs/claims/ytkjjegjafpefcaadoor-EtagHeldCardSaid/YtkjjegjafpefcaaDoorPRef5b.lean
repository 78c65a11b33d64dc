/- The document's forms of a date, and its search, told by reflection. -/
import Derived.Test.YtkjjegjafpefcaaDoorPRef5
namespace Go.Proofs.YtkjjegjafpefcaaDoor.R
open Go Go.RowKit
open Go.Proofs.YtkjjegjafpefcaaDoor.Pure (Lp Lg Cm Ah Dn Ok3 Lp_iff Lg_bd Cm_bd Cm_mono Ah_succ Ah_bd Ah_mono Dn_nonneg Dn_lt ok_nat found found_iff sec sec_bd Vd nm nm_len nm_inj wdn wdn_len wdy wdy_lt D1 D2 D4 F1 F2 F3 F2x t1 t2 t3 clk sd dig dig_iff dgt dgt_n dgt1 dgt2 dgt4 bd bd_step bd_le dgt_bd wh wh_bd wh_nm gs gs_some gs_of r2y d3 rp1 rp2 rp3 rp1_of rp2_of rp3_of Tell No3 No2 Tell.more no2_step no2_end D4_D2)
set_option linter.unusedSimpArgs false
set_option linter.unusedVariables false
theorem ifO_fits {R : Type} {l m : Bs} (h : l.length + m.length ≤ 1000) (x y : Option R) : ifO (fitsS (B l) (B m)) x y = x := ifO_yes (by rw [B_fits]; exact decide_eq_true (by omega)) x y
theorem ifO_03 {R : Type} {l : Bs} (h : 3 ≤ l.length) (x y : Option R) : ifO (andB (boundB 3 (lenS (B l))) (boundB 0 3)) x y = x := ifO_yes (by
  have : boundB ((3 : Nat) : Int) (lenS (B l)) = true := by rw [B_len]; exact boundB_yes h
  have e : boundB (3 : Int) (lenS (B l)) = true := this
  rw [e]; rfl) x y
theorem cut03 (l : Bs) : cutS (B l) 0 3 = B (l.take 3) := B_cut l 0 3
theorem quo64 {x y : Int} (h : 0 ≤ x) (h' : x ≤ 4611686018427387904) (hy : 0 < y) : quoI .i64 x y = x / y := by
  unfold quoI
  have h1 : x / y ≤ x := Int.ediv_le_self _ h
  have h2 := Int.ediv_nonneg h (by omega : 0 ≤ y)
  rw [Int.tdiv_eq_ediv_of_nonneg h, w64 (by omega) (by omega)]
theorem rem_is {x : Int} (y : Int) (h : 0 ≤ x) : remI x y = x % y := Int.tmod_eq_emod_of_nonneg h
theorem j13_is (k m d : Nat) (w cl yr sg se : Bs) (e1 e2 e3 : ByteArray) (hm : 1 ≤ m) (hm' : m ≤ 12) (hd : d < 100) (hw : 3 ≤ w.length) (h1 : cl.length ≤ 100) (h2 : yr.length ≤ 100) (h3 : sg.length ≤ 100) :
    ref05_forms.j13 k ((m : Int), (d : Int), B w, B cl, B yr, B sg, B se, e1, e2, e3) = some (B (w.take 3 ++ [44, 32] ++ D2 d ++ [32] ++ nm (m - 1) ++ [32] ++ yr ++ [32] ++ cl ++ [32, 71, 77, 84]), B se, B (w.take 3 ++ [32] ++ nm (m - 1) ++ [32] ++ sg ++ [32] ++ cl ++ [32] ++ yr)) := by
  have lw : (w.take 3).length = 3 := by rw [List.length_take]; omega
  have ln := nm_len (m - 1) (by omega)
  have e2 : (D2 d).length = 2 := rfl
  unfold ref05_forms.j13
  simp only [cut03, B_lit, B_cat]
  rw [ifO_03 hw, ifO_fits (by simp only [List.length_append, lw]; decide), ifO_03 hw, ifO_fits (by simp only [List.length_append, lw]; decide), r5two d hd, bindO_some, r5month m hm hm', bindO_some, bindO_some]
  simp only [B_cat]
  repeat rw [ifO_fits (by simp only [List.length_append, lw, ln, e2, List.length_cons, List.length_nil]; omega)]
theorem j9_is (k y m d : Nat) (w cl yr sg : Bs) (hy : y < 10000) (hm : 1 ≤ m) (hm' : m ≤ 12) (hd : d < 100) (hw : 3 ≤ w.length) (hw' : w.length ≤ 100) (h1 : cl.length ≤ 100) (h2 : yr.length ≤ 100) (h3 : sg.length ≤ 100) :
    ref05_forms.j9 k ((y : Int), (m : Int), (d : Int), B w, B cl, B yr, B sg, B [], B [], B []) = some (B (w.take 3 ++ [44, 32] ++ D2 d ++ [32] ++ nm (m - 1) ++ [32] ++ yr ++ [32] ++ cl ++ [32, 71, 77, 84]), B (if 2069 < y then [] else w ++ [44, 32] ++ D2 d ++ [45] ++ nm (m - 1) ++ [45] ++ D2 (y % 100) ++ [32] ++ cl ++ [32, 71, 77, 84]), B (w.take 3 ++ [32] ++ nm (m - 1) ++ [32] ++ sg ++ [32] ++ cl ++ [32] ++ yr)) := by
  have ln := nm_len (m - 1) (by omega)
  have e2 : ∀ n, (D2 n).length = 2 := fun _ => rfl
  have q : remI (y : Int) 100 = ((y % 100 : Nat) : Int) := by rw [rem_is _ (by omega)]; rfl
  unfold ref05_forms.j9
  simp only [B_lit, B_cat, q]
  rw [ifO_fits (by simp only [List.length_append, List.length_cons, List.length_nil]; omega), r5two d hd, bindO_some, r5month m hm hm', bindO_some, r5two (y % 100) (by omega), bindO_some]
  simp only [B_cat]
  rw [show neI 100 0 = true from rfl, ifO_true]
  repeat rw [ifO_fits (by simp only [List.length_append, ln, e2, List.length_cons, List.length_nil]; omega)]
  rw [ltD, ifO_dec]
  by_cases h : 2069 < y
  · rw [if_pos (by omega), if_pos h]
    exact j13_is k m d w cl yr sg [] _ _ _ hm hm' hd hw h1 h2 h3
  · rw [if_neg (by omega), if_neg h]
    exact j13_is k m d w cl yr sg _ _ _ _ hm hm' hd hw h1 h2 h3
set_option maxRecDepth 100000 in
theorem r5forms (y m d h mi s : Nat) (v : Vd y m d h mi s) (k : Nat) (hk : 8100 ≤ k) : ref05_forms.f k (sec y m d h mi s) = some (B (F1 y m d h mi s), B (F2x y m d h mi s), B (F3 y m d h mi s)) := by
  have hb := sec_bd v
  have hn := Dn_nonneg _ _ _ v.ok
  have hw := wdn_len _ (wdy_lt y m d)
  have hwl := wdy_lt y m d
  obtain ⟨b1, b2, b3⟩ := v
  have b0 := b1
  obtain ⟨h1, h2, h3, h4, h5, h6⟩ := b0
  have hL := Lg_bd y m
  have e2 : ∀ n, (D2 n).length = 2 := fun n => rfl
  have q1 : quoI .i64 (sec y m d h mi s) 86400 = Dn y m d := by rw [quo64 hb.1 (by omega) (by decide)]; exact hb.2.2.1
  have q2 : remI (sec y m d h mi s) 86400 = ((3600 * h + 60 * mi + s : Nat) : Int) := by rw [rem_is _ hb.1, hb.2.2.2]; push_cast; rfl
  have q3 : quoI .i64 ((3600 * h + 60 * mi + s : Nat) : Int) 3600 = (h : Int) := by rw [quo64 (by omega) (by omega) (by decide)]; omega
  have q4 : quoI .i64 ((3600 * h + 60 * mi + s : Nat) : Int) 60 = ((60 * h + mi : Nat) : Int) := by rw [quo64 (by omega) (by omega) (by decide)]; omega
  have q5 : remI ((60 * h + mi : Nat) : Int) 60 = (mi : Int) := by rw [rem_is _ (by omega)]; omega
  have q6 : remI ((3600 * h + 60 * mi + s : Nat) : Int) 60 = (s : Int) := by rw [rem_is _ (by omega)]; omega
  have q7 : quoI .i64 (y : Int) 100 = ((y / 100 : Nat) : Int) := by rw [quo64 (by omega) (by omega) (by decide)]; omega
  have q8 : remI (y : Int) 100 = ((y % 100 : Nat) : Int) := by rw [rem_is _ (by omega)]; omega
  have qw : ref05_Weekday.f k (Dn y m d) = some ((wdy y m d : Nat) : Int) := by rw [r5wd _ hn.1 (by omega)]; congr 1; unfold wdy; omega
  have n1 : neI 86400 0 = true := rfl
  have n2 : neI 3600 0 = true := rfl
  have n3 : neI 60 0 = true := rfl
  have n4 : neI 100 0 = true := rfl
  have et : ((D2 d).take 2).drop 1 = D1 (d % 10) := rfl
  unfold ref05_forms.f
  simp only [q1, q2, q3, q4, q5, q6, n1, n2, n3, n4, ifO_true, r5day _ _ _ b1 k hk, bindO_some, qw, r5weekday _ hwl k, r5two h (by omega) k, r5two mi (by omega) k, r5two s (by omega) k, r5two d (by omega) k, q7, q8, r5two (y / 100) (by omega) k, r5two (y % 100) (by omega) k, B_lit, B_cat]
  have e4 := D4_D2 y (by omega)
  have l4 : (D4 y).length = 4 := rfl
  simp only [e4]
  repeat rw [ifO_fits (by simp only [List.length_append, e2, List.length_cons, List.length_nil]; omega)]
  have C : ∀ sg : Bs, sg = sd d → ref05_forms.j9 k ((y : Int), (m : Int), (d : Int), B (wdn (wdy y m d)), B (D2 h ++ [58] ++ D2 mi ++ [58] ++ D2 s), B (D4 y), B sg, B [], B [], B []) = some (B (F1 y m d h mi s), B (F2x y m d h mi s), B (F3 y m d h mi s)) := by
    intro sg hsg
    subst hsg
    rw [j9_is k y m d _ _ _ _ (by omega) (by omega) (by omega) (by omega) (by omega) (by omega) (by simp only [List.length_append, e2, List.length_cons, List.length_nil]; omega) (by omega) (by unfold sd; split <;> simp [D1, D2])]
    unfold F1 F2x F2 F3 t1 t2 t3 clk
    by_cases hy : 2069 < y
    · rw [if_pos hy, if_pos (by omega)]
      simp only [List.append_assoc, List.append_nil]
    · rw [if_neg hy, if_neg (by omega)]
      simp only [List.append_assoc, List.append_nil]
  rw [ltD, ifO_dec]
  by_cases hd : (d : Int) < 10
  · rw [if_pos hd]
    rw [show andB (boundB (lenS (B (D2 d))) (lenS (B (D2 d)))) (boundB 1 (lenS (B (D2 d)))) = true from rfl, ifO_true, show cutS (B (D2 d)) 1 (lenS (B (D2 d))) = B (D1 (d % 10)) from rfl, ifO_fits (by simp only [D1, List.length_cons, List.length_nil]; omega), B_cat]
    exact C _ (by unfold sd; rw [if_pos (by omega), show d % 10 = d by omega])
  · rw [if_neg hd]
    exact C _ (by unfold sd; rw [if_neg (by omega)])
theorem gs_form {l : Bs} {y d : Int} {mon c : Nat} (k : Nat) (hk : 8100 ≤ k) (h : 0 ≤ gs l y d mon c) : ∃ Y M D H Mi S : Nat, Vd Y M D H Mi S ∧ gs l y d mon c = sec Y M D H Mi S ∧ ref05_forms.f k (gs l y d mon c) = some (B (F1 Y M D H Mi S), B (F2x Y M D H Mi S), B (F3 Y M D H Mi S)) := by
  obtain ⟨Y, M, D, H, Mi, S, v, e⟩ := gs_some l y d mon c h
  exact ⟨Y, M, D, H, Mi, S, v, e, by rw [e]; exact r5forms _ _ _ _ _ _ v k hk⟩
theorem rj15 (l : Bs) (k : Nat) (hk : 8100 ≤ k) : Tell l (ref05_Parse.j15 k (B l, d3 l)) (No3 l) := by
  unfold ref05_Parse.j15
  simp only [leD, ifO_dec]
  rw [r5dig l 20 4 20 4 rfl rfl (by decide) (by decide) k (by omega), bindO_some, r5guess l _ _ 4 11 4 11 rfl rfl (by decide) (by decide) k (by omega), bindO_some]
  have e0 : gs l (dgt 4 0 (l.drop 20)) (d3 l) 4 11 = rp3 l := rfl
  by_cases h : 0 ≤ rp3 l
  · obtain ⟨Y, M, D, H, Mi, S, v, e, ef⟩ := gs_form (l := l) (y := dgt 4 0 (l.drop 20)) (d := d3 l) (mon := 4) (c := 11) k (by omega) h
    rw [ef, bindO_some]
    rw [e0] at e ⊢
    rw [if_pos h, show inB 2 3 = true from rfl, ifO_true]
    show Tell l (ifO (eqS (B (F3 Y M D H Mi S)) (B l)) (some (rp3 l, 0)) (ref05_Parse.j19 k ())) (No3 l)
    rw [B_eq, ifO_dec]
    by_cases hf : F3 Y M D H Mi S = l
    · rw [if_pos hf]
      exact Or.inl ⟨_, rfl, (found_iff _ _).2 ⟨Y, M, D, H, Mi, S, v, e, Or.inr (Or.inr hf.symm)⟩⟩
    · rw [if_neg hf]
      refine Or.inr ⟨rfl, ?_⟩
      rintro ⟨y, m, d, hh, mi, s, v', rfl⟩
      rw [rp3_of _ _ _ _ _ _ v'] at e
      obtain ⟨rfl, rfl, rfl, rfl, rfl, rfl⟩ := sec_inj v' v e
      exact hf rfl
  · rw [e0, if_neg h]
    refine Or.inr ⟨rfl, ?_⟩
    rintro ⟨y, m, d, hh, mi, s, v', rfl⟩
    rw [rp3_of _ _ _ _ _ _ v'] at h
    exact h (sec_bd v').1
theorem rj12 (l : Bs) (k : Nat) (hk : 8100 ≤ k) : Tell l (ref05_Parse.j12 k (B l)) (No3 l) := by
  have := rj15 l k hk
  unfold ref05_Parse.j12
  rw [r5dig l 8 2 8 2 rfl rfl (by decide) (by decide) k (by omega), bindO_some, r5dig l 9 1 9 1 rfl rfl (by decide) (by decide) k (by omega), bindO_some, ltD, ifO_dec]
  unfold d3 at this
  by_cases h : dgt 2 0 (l.drop 8) < 0
  · rw [if_pos h] at this ⊢; exact this
  · rw [if_neg h] at this ⊢; exact this
theorem rl5 (l : Bs) (K : Nat) (hK : 8100 ≤ K) : ∀ (e j k : Nat), j + e = 12 → e + 1 ≤ k → Tell l (iter (ref05_Parse.l5b K) k (B l, (j : Int))) (No3 l ∧ No2 l j) := by
  intro e
  induction e with
  | zero =>
    intro j k hj hk
    obtain ⟨k, rfl⟩ : ∃ n, k = n + 1 := ⟨k - 1, by omega⟩
    have := (rj12 l K hK).more (N' := No3 l ∧ No2 l j) (fun h => ⟨h, no2_end l j (by omega)⟩)
    show Tell l (ref05_Parse.l5b K (iter (ref05_Parse.l5b K) k) _) _
    generalize hr : iter (ref05_Parse.l5b K) k = r
    unfold ref05_Parse.l5b
    simp only [ltD, ifO_dec]
    rw [if_neg (show ¬ (j : Int) < 12 by omega)]
    split <;> exact this
  | succ e ih =>
    intro j k hj hk
    obtain ⟨k, rfl⟩ : ∃ n, k = n + 1 := ⟨k - 1, by omega⟩
    have hi := ih (j + 1) k (by omega) (by omega)
    show Tell l (ref05_Parse.l5b K (iter (ref05_Parse.l5b K) k) _) _
    generalize hr : iter (ref05_Parse.l5b K) k = r at hi ⊢
    unfold ref05_Parse.l5b
    simp only [ltD, leD, neI_dec, ifO_dec, B_len, B_bt, inB_nat]
    by_cases hlt : j < l.length
    · rw [if_pos (by omega), if_pos (show (j : Int) < 12 by omega), if_pos hlt, show l.getD j 0 = l[j] by rw [List.getD_eq_getElem?_getD, List.getElem?_eq_getElem hlt]; rfl]
      have hj6 : ref05_Parse.j6 K r (B l, (j : Int)) = r (B l, ((j + 1 : Nat) : Int)) := by unfold ref05_Parse.j6; rw [next64 (by omega)]
      by_cases h44 : (l[j].toNat : Int) = 44
      · rw [if_neg (by omega), add64 (x := (j : Int)) (y := 9) (by omega) (by omega), r5dig l (j + 9) 2 ((j : Int) + 9) 2 (by omega) rfl (by omega) (by decide) K (by omega), bindO_some]
        have hv := dgt_n 2 (l.drop (j + 9)) (by decide)
        have J : Tell l (ref05_Parse.j8 K r (B l, (j : Int), r2y (dgt 2 0 (l.drop (j + 9))))) (No3 l ∧ No2 l j) := by
          unfold ref05_Parse.j8
          simp only [leD, ifO_dec]
          rw [add64 (x := (j : Int)) (y := 2) (by omega) (by omega), add64 (x := (j : Int)) (y := 5) (by omega) (by omega), add64 (x := (j : Int)) (y := 12) (by omega) (by omega), r5dig l (j + 2) 2 ((j : Int) + 2) 2 (by omega) rfl (by omega) (by decide) K (by omega), bindO_some]
          rw [r5guess l _ _ (j + 5) (j + 12) ((j : Int) + 5) ((j : Int) + 12) (by omega) (by omega) (by omega) (by omega) K (by omega), bindO_some]
          have e0 : gs l (r2y (dgt 2 0 (l.drop (j + 9)))) (dgt 2 0 (l.drop (j + 2))) (j + 5) (j + 12) = rp2 l j := rfl
          by_cases h : 0 ≤ rp2 l j
          · obtain ⟨Y, M, D, H, Mi, S, v, e1, ef⟩ := gs_form (l := l) (y := r2y (dgt 2 0 (l.drop (j + 9)))) (d := dgt 2 0 (l.drop (j + 2))) (mon := j + 5) (c := j + 12) K (by omega) h
            rw [ef, bindO_some]
            rw [e0] at e1 ⊢
            rw [if_pos h, show inB 1 3 = true from rfl, ifO_true, hj6]
            show Tell l (ifO (eqS (B (F2x Y M D H Mi S)) (B l)) (some (rp2 l j, 0)) (r (B l, ((j + 1 : Nat) : Int)))) _
            rw [B_eq, ifO_dec]
            by_cases hf : F2x Y M D H Mi S = l
            · rw [if_pos hf]
              have hy : ¬ Y > 2069 := by
                intro g
                unfold F2x at hf
                rw [if_pos g] at hf
                subst hf
                simp at hlt
              unfold F2x at hf
              rw [if_neg hy] at hf
              exact Or.inl ⟨_, rfl, (found_iff _ _).2 ⟨Y, M, D, H, Mi, S, v, e1, Or.inr (Or.inl ⟨by omega, hf.symm⟩)⟩⟩
            · rw [if_neg hf]
              refine hi.more (fun g => ⟨g.1, no2_step l j g.2 ?_⟩)
              rintro ⟨y, m, d, hh, mi, s, v', hy, rfl, rfl⟩
              rw [(rp2_of _ _ _ _ _ _ v' hy).1] at e1
              obtain ⟨rfl, rfl, rfl, rfl, rfl, rfl⟩ := sec_inj v' v e1
              exact hf (by unfold F2x; rw [if_neg (by omega)])
          · rw [e0, if_neg h, hj6]
            refine hi.more (fun g => ⟨g.1, no2_step l j g.2 ?_⟩)
            rintro ⟨y, m, d, hh, mi, s, v', hy, rfl, rfl⟩
            rw [(rp2_of _ _ _ _ _ _ v' hy).1] at h
            exact h (sec_bd v').1
        unfold r2y at J
        by_cases h70 : dgt 2 0 (l.drop (j + 9)) ≥ 70
        · rw [if_pos h70] at J ⊢; rw [add64 (by omega) (by omega)]; exact J
        · rw [if_neg h70] at J ⊢; rw [add64 (by omega) (by omega)]; exact J
      · rw [if_pos h44, hj6]
        refine hi.more (fun g => ⟨g.1, no2_step l j g.2 ?_⟩)
        rintro ⟨y, m, d, hh, mi, s, v', hy, rfl, rfl⟩
        have := (rp2_of _ _ _ _ _ _ v' hy).2
        rw [List.getElem?_eq_getElem hlt] at this
        injection this with this
        rw [this] at h44
        exact h44 rfl
    · rw [if_neg (by omega)]
      exact (rj12 l K hK).more (fun h => ⟨h, no2_end l j (by omega)⟩)
/-- The document's search finds what the program's finds. -/
theorem r5parse (l : Bs) (k : Nat) (hk : 8100 ≤ k) : ref05_Parse.f k (B l) = some (match found l with
    | some a => (a, 0)
    | none => (0, 2)) := by
  have fin : ∀ {o N}, Tell l o N → (N → found l = none) → o = some (match found l with
      | some a => (a, 0)
      | none => (0, 2)) := by
    intro o N h f
    rcases h with ⟨a, h1, h2⟩ | ⟨h1, h2⟩
    · rw [h1, h2]
    · rw [h1, f h2]
  unfold ref05_Parse.f
  simp only [leD, ifO_dec]
  rw [r5dig l 12 4 12 4 rfl rfl (by decide) (by decide) k (by omega), bindO_some, r5dig l 5 2 5 2 rfl rfl (by decide) (by decide) k (by omega), bindO_some]
  rw [r5guess l _ _ 8 17 8 17 rfl rfl (by decide) (by decide) k (by omega), bindO_some]
  have e0 : gs l (dgt 4 0 (l.drop 12)) (dgt 2 0 (l.drop 5)) 8 17 = rp1 l := rfl
  have L : Tell l (ref05_Parse.j4 k (B l)) (No3 l ∧ No2 l 0) := rl5 l k hk 12 0 k rfl (by omega)
  have none_of : (¬ ∃ y m d h mi s, Vd y m d h mi s ∧ l = F1 y m d h mi s) → No3 l ∧ No2 l 0 → found l = none := by
    intro n1 n
    cases hf : found l with
    | none => rfl
    | some a =>
      obtain ⟨y, m, d, h, mi, s, v, e, h1 | ⟨hy, h2⟩ | h3⟩ := (found_iff _ _).1 hf
      · exact absurd ⟨y, m, d, h, mi, s, v, h1⟩ n1
      · have hw := wdn_len _ (wdy_lt y m d)
        exact absurd ⟨y, m, d, h, mi, s, v, hy, h2, rfl⟩ (n.2 _ (Nat.zero_le _) (by omega))
      · exact absurd ⟨y, m, d, h, mi, s, v, h3⟩ n.1
  by_cases h : 0 ≤ rp1 l
  · obtain ⟨Y, M, D, H, Mi, S, v, e, ef⟩ := gs_form (l := l) (y := dgt 4 0 (l.drop 12)) (d := dgt 2 0 (l.drop 5)) (mon := 8) (c := 17) k (by omega) h
    rw [ef, bindO_some]
    rw [e0] at e ⊢
    rw [if_pos h, show inB 0 3 = true from rfl, ifO_true]
    show ifO (eqS (B (F1 Y M D H Mi S)) (B l)) (some (rp1 l, 0)) (ref05_Parse.j4 k (B l)) = _
    rw [B_eq, ifO_dec]
    by_cases hf : F1 Y M D H Mi S = l
    · rw [if_pos hf]
      rw [(found_iff l (rp1 l)).2 ⟨Y, M, D, H, Mi, S, v, e, Or.inl hf.symm⟩]
    · rw [if_neg hf]
      refine fin L (none_of ?_)
      rintro ⟨y, m, d, hh, mi, s, v', rfl⟩
      rw [rp1_of _ _ _ _ _ _ v'] at e
      obtain ⟨rfl, rfl, rfl, rfl, rfl, rfl⟩ := sec_inj v' v e
      exact hf rfl
  · rw [e0, if_neg h]
    refine fin L (none_of ?_)
    rintro ⟨y, m, d, hh, mi, s, v', rfl⟩
    rw [rp1_of _ _ _ _ _ _ v'] at h
    exact h (sec_bd v').1
end Go.Proofs.YtkjjegjafpefcaaDoor.R
