/- Dates: what the program prints; every number of seconds in bounds is that of a day and a time. -/
import Derived.Test.YtkjjegjafpefcaaDoorPDateQ
namespace Go.Proofs.YtkjjegjafpefcaaDoor.R
open Go Go.RowKit
open Go.Proofs.YtkjjegjafpefcaaDoor.Pure (Lp Lg Cm Ah Dn Ok3 Lp_iff Lg_bd Cm_bd Cm_mono Cm_12 Ah_bd Ah_succ Ah_mono Dn_nonneg Dn_lt hp hp_iff pw nm nm_len wdn wdn_len D1 D2 D4 F1 F2 F3 t1 clk Vd sec sec_bd wdy wdy_lt found found_iff)
set_option linter.unusedSimpArgs false
set_option linter.unusedVariables false
theorem day_ex (N : Int) (h0 : 0 ≤ N) (h1 : N < 2932897) : ∃ y m d : Nat, Ok3 y m d ∧ Dn y m d = N := by
  have ey : ∀ n : Nat, N < Ah (1970 + (n : Int)) - Ah 1970 → ∃ i : Nat, i < n ∧ Ah (1970 + (i : Int)) - Ah 1970 ≤ N ∧ N < Ah (1970 + (i : Int) + 1) - Ah 1970 := by
    intro n
    induction n with
    | zero => intro h; simp at h; omega
    | succ n ih =>
      intro h
      by_cases g : N < Ah (1970 + (n : Int)) - Ah 1970
      · obtain ⟨i, hi, a⟩ := ih g; exact ⟨i, by omega, a⟩
      · refine ⟨n, by omega, by omega, ?_⟩
        rw [show (1970 : Int) + (n : Int) + 1 = 1970 + ((n + 1 : Nat) : Int) by push_cast; omega]; exact h
  obtain ⟨i, hi, ha, hb⟩ := ey 8030 (by unfold Ah; omega)
  have em : ∀ n : Nat, N - (Ah (1970 + (i : Int)) - Ah 1970) < Cm (1970 + (i : Int)) n → ∃ j : Nat, j < n ∧ Cm (1970 + (i : Int)) j ≤ N - (Ah (1970 + (i : Int)) - Ah 1970) ∧ N - (Ah (1970 + (i : Int)) - Ah 1970) < Cm (1970 + (i : Int)) (j + 1) := by
    intro n
    induction n with
    | zero => intro h; simp only [Cm] at h; omega
    | succ n ih =>
      intro h
      by_cases g : N - (Ah (1970 + (i : Int)) - Ah 1970) < Cm (1970 + (i : Int)) n
      · obtain ⟨j, hj, a⟩ := ih g; exact ⟨j, by omega, a⟩
      · exact ⟨n, by omega, by omega, h⟩
  have e1 := Ah_succ (1970 + (i : Int))
  obtain ⟨j, hj, hc, hd⟩ := em 12 (by rw [Cm_12]; omega)
  have ec : Cm (1970 + (i : Int)) (j + 1) = Cm (1970 + (i : Int)) j + Lg (1970 + (i : Int)) ((j : Int) + 1) := rfl
  refine ⟨1970 + i, j + 1, (N - (Ah (1970 + (i : Int)) - Ah 1970) - Cm (1970 + (i : Int)) j).toNat + 1, ?_, ?_⟩
  · have g1 : ((1970 + i : Nat) : Int) = 1970 + (i : Int) := by omega
    have g2 : ((j + 1 : Nat) : Int) = (j : Int) + 1 := by omega
    rw [g1, g2]
    refine ⟨by omega, by omega, by omega, by omega, by omega, ?_⟩
    omega
  · have g1 : ((1970 + i : Nat) : Int) = 1970 + (i : Int) := by omega
    have g2 : ((j + 1 : Nat) : Int) = (j : Int) + 1 := by omega
    rw [g1, g2]
    unfold Dn
    rw [show ((j : Int) + 1 - 1).toNat = j by omega]
    omega
theorem sec_ex (n : Int) (h0 : 0 ≤ n) (h1 : n < 253402300800) : ∃ y m d h mi s, Vd y m d h mi s ∧ n = sec y m d h mi s := by
  obtain ⟨y, m, d, ho, hd⟩ := day_ex (n / 86400) (by omega) (by omega)
  refine ⟨y, m, d, (n % 86400 / 3600).toNat, (n % 86400 / 60 % 60).toNat, (n % 86400 % 60).toNat, ⟨ho, by omega, by omega, by omega⟩, ?_⟩
  unfold sec
  rw [hd]
  omega
theorem dof5 (Y M D : Int) (h : Ok3 Y M D) (K : Nat) : ∀ (e j k : Nat), (j : Int) + e = M - 1 → e + 2 ≤ k → iter (date_of.l5b K) k (D - 1 + Cm Y (M - 1).toNat - Cm Y j, (Y, ((j : Int) + 1))) = some (Y, (M, D)) := by
  obtain ⟨h1, h2, h3, h4, h5, h6⟩ := id h
  intro e
  induction e with
  | zero =>
    intro j k hj hk
    obtain ⟨k, rfl⟩ : ∃ n, k = n + 1 := ⟨k - 1, by omega⟩
    have hjm : j = (M - 1).toNat := by omega
    have hL := Lg_bd Y M
    show date_of.l5b K (iter (date_of.l5b K) k) _ = _
    generalize iter (date_of.l5b K) k = r
    unfold date_of.l5b
    simp only [leD, ifO_dec]
    rw [dlong Y _ (by omega), bindO_some]
    rw [show (j : Int) + 1 = M by omega, ← hjm, show D - 1 + Cm Y j - Cm Y j = D - 1 by omega, if_neg (by omega), add64 (x := D - 1) (y := 1) (by omega) (by omega), show D - 1 + 1 = D by omega]
  | succ e ih =>
    intro j k hj hk
    obtain ⟨k, rfl⟩ : ∃ n, k = n + 1 := ⟨k - 1, by omega⟩
    have hL := Lg_bd Y (j + 1)
    have hLM := Lg_bd Y M
    have hc := Cm_bd Y (M - 1).toNat
    have hcj := Cm_bd Y j
    have hm := Cm_mono Y (j + 1) ((M - 1).toNat - (j + 1))
    rw [show j + 1 + ((M - 1).toNat - (j + 1)) = (M - 1).toNat by omega] at hm
    have ec : Cm Y (j + 1) = Cm Y j + Lg Y ((j : Int) + 1) := rfl
    have := ih (j + 1) k (by push_cast; omega) (by omega)
    show date_of.l5b K (iter (date_of.l5b K) k) _ = _
    generalize iter (date_of.l5b K) k = r at *
    unfold date_of.l5b
    simp only [leD, ifO_dec]
    rw [dlong Y _ (by omega), bindO_some, bindO_some]
    rw [if_pos (by omega), sub64 (x := D - 1 + Cm Y (M - 1).toNat - Cm Y j) (y := Lg Y (j + 1)) (by omega) (by omega), add64 (x := (j : Int) + 1) (y := 1) (by omega) (by omega)]
    rw [ec] at this
    rw [show D - 1 + Cm Y (M - 1).toNat - Cm Y j - Lg Y (↑j + 1) = D - 1 + Cm Y (M - 1).toNat - (Cm Y j + Lg Y (↑j + 1)) by omega]
    exact this
theorem dof0 (Y M D : Int) (h : Ok3 Y M D) (K : Nat) (hK : 20 ≤ K) : ∀ (e k : Nat) (y : Int), y + e = Y → 1970 ≤ y → e + 1 ≤ k → iter (date_of.l0b K) k (Dn Y M D, y) = some (Y, (M, D)) := by
  obtain ⟨h1, h2, h3, h4, h5, h6⟩ := id h
  have hd := Dn_lt h
  have hb := Dn_nonneg Y M D h
  have A0 := Ah_bd 1970 (by decide) (by decide)
  intro e
  induction e with
  | zero =>
    intro k y hy hy0 hk
    obtain ⟨k, rfl⟩ : ∃ n, k = n + 1 := ⟨k - 1, by omega⟩
    obtain rfl : y = Y := by omega
    have a1 := Ah_bd (y + 1) (by omega) (by omega)
    have a2 := Ah_bd y (by omega) (by omega)
    have := dof5 y M D h K (M - 1).toNat 0 K (by omega) (by omega)
    simp only [Cm] at this
    rw [show D - 1 + Cm y (M - 1).toNat - 0 = Dn y M D - (Ah y - Ah 1970) by unfold Dn; omega, show (((0 : Nat) : Int) + 1) = 1 from rfl] at this
    show date_of.l0b K (iter (date_of.l0b K) k) _ = _
    generalize iter (date_of.l0b K) k = r
    unfold date_of.l0b date_of.l5
    simp only [leD, ifO_dec]
    rw [add64 (x := y) (y := 1) (by omega) (by omega), dahead _ (by omega) (by omega), dahead _ (by decide) (by decide), dahead _ (by omega) (by omega)]
    simp only [bindO_some]
    rw [sub64 (x := Ah (y + 1)) (by omega) (by omega), if_neg (by omega), sub64 (x := Ah y) (by omega) (by omega), sub64 (by omega) (by omega)]
    exact this
  | succ e ih =>
    intro k y hy hy0 hk
    obtain ⟨k, rfl⟩ : ∃ n, k = n + 1 := ⟨k - 1, by omega⟩
    have a1 := Ah_bd (y + 1) (by omega) (by omega)
    have a3 := Ah_mono (y + 1) e
    rw [show y + 1 + (e : Int) = Y by push_cast at hy; omega] at a3
    have hi := ih k (y + 1) (by push_cast at hy; omega) (by omega) (by omega)
    show date_of.l0b K (iter (date_of.l0b K) k) _ = _
    generalize iter (date_of.l0b K) k = r at *
    unfold date_of.l0b date_of.l5
    simp only [leD, ifO_dec]
    rw [add64 (x := y) (y := 1) (by omega) (by omega), dahead _ (by omega) (by omega), dahead _ (by decide) (by decide), bindO_some, bindO_some, sub64 (x := Ah (y + 1)) (by omega) (by omega), if_pos (by omega)]
    exact hi
theorem dof (Y M D : Int) (h : Ok3 Y M D) (k : Nat) (hk : 9000 ≤ k) : date_of.f k (Dn Y M D) = some (Y, (M, D)) := by
  obtain ⟨h1, h2, h3, h4, h5, h6⟩ := id h
  have hd := Dn_lt h
  have hb := Dn_nonneg Y M D h
  have a1 := Ah_mono 1970 (Y + 1 - 1970).toNat
  rw [show (1970 : Int) + ((Y + 1 - 1970).toNat : Int) = Y + 1 by omega] at a1
  unfold date_of.f date_of.l0 quoI
  rw [show neI 366 0 = true from rfl, ifO_true, Int.tdiv_eq_ediv_of_nonneg hb.1, w64 (x := Dn Y M D / 366) (by omega) (by omega), add64 (by omega) (by omega)]
  exact dof0 Y M D h k (by omega) (Y - (1970 + Dn Y M D / 366)).toNat k _ (by omega) (by omega) (by omega)
theorem un8 (n : Nat) (h : n < 256) : (UInt8.ofNat n).toNat = n := by simp; omega
theorem ddig_step (n M i : Nat) (xs : List Int) (hi : i < M) (hl : xs.length = M) (hM : M ≤ 10) (hn : n ≤ 1000000) (K : Nat) (r : _) :
    date_digits.l0b K r ((n : Int), ((M : Int), (xs, ((M : Int), (i : Int))))) = r (((n / 10 : Nat) : Int), ((M : Int), (xs.set (M - 1 - i) (((48 + n % 10 : Nat) : Int)), ((M : Int), ((i + 1 : Nat) : Int))))) := by
  unfold date_digits.l0b
  dsimp only
  rw [ltI_nat, decide_eq_true hi, ifO_true, show neI 10 0 = true from rfl, ifO_true, ifO_true, sub64 (x := (M : Int)) (y := 1) (by omega) (by omega), sub64 (x := (M : Int) - 1) (by omega) (by omega), show (M : Int) - 1 - (i : Int) = ((M - 1 - i : Nat) : Int) by omega, lenL_nat, hl, inB_yes (by omega), ifO_true, next64 (by omega)]
  unfold quoI remI
  rw [Int.tmod_eq_emod_of_nonneg (by omega), Int.tdiv_eq_ediv_of_nonneg (by omega), w64 (x := (n : Int) / 10) (by omega) (by omega), add64 (by omega) (by omega), show convI .u8 (48 + (n : Int) % 10) = 48 + (n : Int) % 10 from (show (48 + (n : Int) % 10) % 256 = _ from Int.emod_eq_of_lt (by omega) (by omega)), show (n : Int) / 10 = ((n / 10 : Nat) : Int) by omega, show 48 + (n : Int) % 10 = ((48 + n % 10 : Nat) : Int) by omega]
  unfold setL
  rw [Int.toNat_natCast]
theorem ddig_end (n M : Nat) (xs : List Int) (K : Nat) (r : _) : date_digits.l0b K r ((n : Int), ((M : Int), (xs, ((M : Int), (M : Int))))) = some (ofBytes xs) := by
  unfold date_digits.l0b
  dsimp only
  rw [ltI_nat, decide_eq_false (by omega), ifO_false]
theorem ddig2 (n : Nat) (h : n < 100) (k : Nat) (hk : 4 ≤ k) : date_digits.f k ((n : Int), 2) = some (B (D2 n)) := by
  obtain ⟨k, rfl⟩ : ∃ j, k = j + 1 + 1 + 1 := ⟨k - 3, by omega⟩
  generalize hK : k + 1 + 1 + 1 = K
  unfold date_digits.f date_digits.l0
  dsimp only
  rw [show makeB 2 2 1 = true from rfl, ifO_true, show repL 2 (0 : Int) = [0, 0] from rfl, show lenL ([0, 0] : List Int) = ((2 : Nat) : Int) from rfl, show (2 : Int) = ((2 : Nat) : Int) from rfl, show (0 : Int) = ((0 : Nat) : Int) from rfl, ← hK]
  have step : ∀ (m : Nat) (v : _), iter (date_digits.l0b (k + 1 + 1 + 1)) (m + 1) v = date_digits.l0b (k + 1 + 1 + 1) (iter (date_digits.l0b (k + 1 + 1 + 1)) m) v := fun _ _ => rfl
  rw [step, ddig_step n 2 0 _ (by decide) rfl (by decide) (by omega), step, ddig_step _ 2 1 _ (by decide) rfl (by decide) (by omega), step, ddig_end]
  rw [show ((([((0 : Nat) : Int), ((0 : Nat) : Int)] : List Int).set (2 - 1 - 0) ((48 + n % 10 : Nat) : Int)).set (2 - 1 - (0 + 1)) ((48 + n / 10 % 10 : Nat) : Int)) = (D2 n).map fun c => (c.toNat : Int) from by
    unfold D2
    simp only [List.map_cons, List.map_nil]
    rw [un8 _ (by omega), un8 _ (by omega), show n / 10 % 10 = n / 10 by omega]
    rfl, B_ofBytes]
theorem ddig4 (n : Nat) (h : n < 10000) (k : Nat) (hk : 6 ≤ k) : date_digits.f k ((n : Int), 4) = some (B (D4 n)) := by
  obtain ⟨k, rfl⟩ : ∃ j, k = j + 1 + 1 + 1 + 1 + 1 := ⟨k - 5, by omega⟩
  generalize hK : k + 1 + 1 + 1 + 1 + 1 = K
  unfold date_digits.f date_digits.l0
  dsimp only
  rw [show makeB 4 4 1 = true from rfl, ifO_true, show repL 4 (0 : Int) = [0, 0, 0, 0] from rfl, show lenL ([0, 0, 0, 0] : List Int) = ((4 : Nat) : Int) from rfl, show (4 : Int) = ((4 : Nat) : Int) from rfl, show (0 : Int) = ((0 : Nat) : Int) from rfl, ← hK]
  have step : ∀ (m : Nat) (v : _), iter (date_digits.l0b (k + 1 + 1 + 1 + 1 + 1)) (m + 1) v = date_digits.l0b (k + 1 + 1 + 1 + 1 + 1) (iter (date_digits.l0b (k + 1 + 1 + 1 + 1 + 1)) m) v := fun _ _ => rfl
  rw [step, ddig_step n 4 0 _ (by decide) rfl (by decide) (by omega), step, ddig_step _ 4 1 _ (by decide) rfl (by decide) (by omega), step, ddig_step _ 4 2 _ (by decide) rfl (by decide) (by omega), step, ddig_step _ 4 3 _ (by decide) rfl (by decide) (by omega), step, ddig_end]
  congr 1
  refine Eq.trans (congrArg ofBytes ?_) (B_ofBytes (D4 n))
  unfold D4
  simp only [List.map_cons, List.map_nil]
  rw [un8 _ (by omega), un8 _ (by omega), un8 _ (by omega), un8 _ (by omega), show n / 1000 = n / 10 / 10 / 10 % 10 by omega, show n / 100 % 10 = n / 10 / 10 % 10 by omega]
  rfl
theorem F1_len (y m d h mi s : Nat) (v : Vd y m d h mi s) : (F1 y m d h mi s).length = 29 := by
  have := wdn_len _ (wdy_lt y m d)
  obtain ⟨h1, h2, h3, h4, h5, h6⟩ := v.ok
  unfold F1 t1 clk
  simp only [List.length_append, List.length_take, nm_len (m - 1) (by omega), D2, D4, List.length_cons, List.length_nil]
  omega
theorem dprint_no (n : Int) (h : n < 0 ∨ 253402300800 ≤ n) (k : Nat) : date_Print.f k n = some (B [], 6) := by
  unfold date_Print.f
  rw [ltD, leD, ifO_dec, ifO_dec]
  by_cases h0 : n < 0
  · rw [if_pos h0]; rfl
  · rw [if_neg h0, if_pos (by omega)]; rfl
theorem fits_ok (l m : Bs) (h : l.length + m.length ≤ 1000) : fitsS (B l) (B m) = true := by rw [B_fits]; exact decide_eq_true (by omega)
set_option maxRecDepth 100000 in
set_option maxHeartbeats 1000000 in
theorem dprint (y m d h mi s : Nat) (v : Vd y m d h mi s) (k : Nat) (hk : 9001 ≤ k) : date_Print.f k (sec y m d h mi s) = some (B (F1 y m d h mi s), 0) := by
  have hb := sec_bd v
  have hn := Dn_nonneg _ _ _ v.ok
  have hwl := wdy_lt y m d
  have hw := wdn_len _ hwl
  obtain ⟨b1, b2, b3⟩ := v
  have b0 := b1
  obtain ⟨h1, h2, h3, h4, h5, h6⟩ := b0
  have hL := Lg_bd y m
  have ln := nm_len (m - 1) (by omega)
  have e2 : ∀ n, (D2 n).length = 2 := fun n => rfl
  have e4 : (D4 y).length = 4 := rfl
  have lw : ((wdn (wdy y m d)).take 3).length = 3 := by rw [List.length_take]; omega
  have q1 : quoI .i64 (sec y m d h mi s) 86400 = Dn y m d := by unfold quoI; rw [Int.tdiv_eq_ediv_of_nonneg hb.1, w64 (by omega) (by omega)]; exact hb.2.2.1
  have q2 : remI (sec y m d h mi s) 86400 = ((3600 * h + 60 * mi + s : Nat) : Int) := by unfold remI; rw [Int.tmod_eq_emod_of_nonneg hb.1, hb.2.2.2]; omega
  have q3 : quoI .i64 ((3600 * h + 60 * mi + s : Nat) : Int) 3600 = (h : Int) := by unfold quoI; rw [Int.tdiv_eq_ediv_of_nonneg (by omega), w64 (by omega) (by omega)]; omega
  have q4 : remI (quoI .i64 ((3600 * h + 60 * mi + s : Nat) : Int) 60) 60 = (mi : Int) := by unfold quoI remI; rw [Int.tdiv_eq_ediv_of_nonneg (by omega), w64 (by omega) (by omega), Int.tmod_eq_emod_of_nonneg (by omega)]; omega
  have q6 : remI ((3600 * h + 60 * mi + s : Nat) : Int) 60 = (s : Int) := by unfold remI; rw [Int.tmod_eq_emod_of_nonneg (by omega)]; omega
  have qm : subI .i64 (m : Int) 1 = ((m - 1 : Nat) : Int) := by rw [sub64 (by omega) (by omega)]; omega
  have n1 : neI 86400 0 = true := rfl
  have n2 : neI 3600 0 = true := rfl
  have n3 : neI 60 0 = true := rfl
  have dw := dwd (Dn y m d) hn.1 k
  rw [show (Dn y m d % 7 + 4) % 7 = ((wdy y m d : Nat) : Int) by unfold wdy; omega] at dw
  unfold date_Print.f
  rw [ltD, leD, decide_eq_false (by omega), decide_eq_false (by omega), ifO_false, ifO_false]
  simp only [q1, q2, q3, q4, q6, n1, n2, n3, ifO_true, dof _ _ _ b1 k (by omega), bindO_some, ddig2 h (by omega) k (by omega), ddig2 mi (by omega) k (by omega), ddig2 s (by omega) k (by omega), ddig2 d (by omega) k (by omega), ddig4 y (by omega) k (by omega), dw]
  unfold date_weekdays.f date_names.f
  simp only [bindO_some, qm]
  rw [arr_wd _ hwl, arr_nm (m - 1) (by omega), show inB ((wdy y m d : Nat) : Int) 7 = true from inB_yes (n := 7) hwl, show inB ((m - 1 : Nat) : Int) 12 = true from inB_yes (n := 12) (by omega), show cutS (B (wdn (wdy y m d))) 0 3 = B ((wdn (wdy y m d)).take 3) from B_cut _ 0 3, B_len, show boundB 3 ((wdn (wdy y m d)).length : Int) = true from boundB_yes (i := 3) (by omega)]
  simp only [B_lit, B_cat]
  simp only [show andB true (boundB 0 3) = true from rfl, ifO_true]
  repeat rw [fits_ok _ _ (by simp only [List.length_append, lw, ln, e2, e4, List.length_cons, List.length_nil]; omega), ifO_true]
  congr 3
  unfold F1 t1 clk
  simp only [List.append_assoc, List.append_nil, List.cons_append, List.nil_append]
theorem dparse_print (y m d h mi s : Nat) (v : Vd y m d h mi s) : found (F1 y m d h mi s) = some (sec y m d h mi s) := (found_iff _ _).2 ⟨y, m, d, h, mi, s, v, rfl, .inl rfl⟩
end Go.Proofs.YtkjjegjafpefcaaDoor.R
