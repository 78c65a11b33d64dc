/- Texts of this session's own about dates' forms, as far as they are used here. -/
import Derived.Test.YtkjjegjafpefcaaDoorKD
namespace Go.Proofs.YtkjjegjafpefcaaDoor.Pure
open Go.RowKit
set_option linter.unusedSimpArgs false
set_option linter.unusedVariables false
theorem Lp_iff (y : Int) : Lp y = true ↔ (y % 4 = 0 ∧ (y % 100 ≠ 0 ∨ y % 400 = 0)) := by unfold Lp; exact decide_eq_true_iff
theorem Ah_succ (y : Int) : Ah (y + 1) = Ah y + 365 + (if Lp y = true then 1 else 0) := by
  unfold Ah
  by_cases h : Lp y = true
  · rw [if_pos h]; have := (Lp_iff y).1 h; omega
  · rw [if_neg h]; have h' : ¬ (y % 4 = 0 ∧ (y % 100 ≠ 0 ∨ y % 400 = 0)) := fun g => h ((Lp_iff y).2 g); omega
theorem pw_iff (p l m : Bs) : pw p l = some ((), m) ↔ l = p ++ m := by
  unfold pw
  by_cases h : hp l p = true
  · rw [if_pos h]
    obtain ⟨n, rfl⟩ := (hp_iff l p).1 h
    simp
  · rw [if_neg h]
    constructor
    · intro g; cases g
    · intro g; exact absurd ((hp_iff l p).2 ⟨m, g⟩) h
theorem nm_inj : ∀ i, i < 12 → ∀ j, j < 12 → nm i = nm j → i = j := by decide
theorem pmf_iff (l m : Bs) (v : Int) : ∀ d j : Nat, j + d = 12 → (pmf l d j = some (v, m) ↔ ∃ i, j ≤ i ∧ i < 12 ∧ v = (i : Int) + 1 ∧ l = nm i ++ m) := by
  intro d
  induction d with
  | zero => intro j hj; simp only [pmf]; constructor
            · intro h; cases h
            · rintro ⟨i, h1, h2, _⟩; omega
  | succ d ih =>
    intro j hj
    simp only [pmf]
    by_cases h : hp l (nm j) = true
    · rw [if_pos h]
      obtain ⟨n, hn⟩ := (hp_iff l (nm j)).1 h
      constructor
      · intro e
        simp only [Option.some.injEq, Prod.mk.injEq] at e
        refine ⟨j, Nat.le_refl _, by omega, by omega, ?_⟩
        rw [← e.2, hn, ← nm_len j (by omega)]; simp
      · rintro ⟨i, h1, h2, rfl, h4⟩
        have e : nm j = nm i := (List.append_inj (hn.symm.trans h4) (by rw [nm_len j (by omega), nm_len i h2])).1
        obtain rfl := nm_inj j (by omega) i h2 e
        rw [h4]
        congr 2
        rw [← nm_len j (by omega)]; simp
    · rw [if_neg h, ih (j + 1) (by omega)]
      constructor
      · rintro ⟨i, h1, h2, h3, h4⟩; exact ⟨i, by omega, h2, h3, h4⟩
      · rintro ⟨i, h1, h2, h3, h4⟩
        refine ⟨i, ?_, h2, h3, h4⟩
        rcases Nat.lt_or_ge j i with g | g
        · exact g
        · obtain rfl : i = j := by omega
          exact absurd ((hp_iff l _).2 ⟨m, h4⟩) h
theorem pm_iff (l m : Bs) (v : Int) : pm l = some (v, m) ↔ ∃ i : Nat, i < 12 ∧ v = (i : Int) + 1 ∧ l = nm i ++ m := by
  unfold pm
  rw [pmf_iff l m v 12 0 rfl]
  constructor
  · rintro ⟨i, _, h⟩; exact ⟨i, h⟩
  · rintro ⟨i, h⟩; exact ⟨i, Nat.zero_le _, h⟩
set_option linter.unusedSimpArgs false
set_option linter.unusedVariables false
def D1 (n : Nat) : Bs := [UInt8.ofNat (48 + n)]
def D2 (n : Nat) : Bs := [UInt8.ofNat (48 + n / 10), UInt8.ofNat (48 + n % 10)]
def D4 (n : Nat) : Bs := [UInt8.ofNat (48 + n / 1000), UInt8.ofNat (48 + n / 100 % 10), UInt8.ofNat (48 + n / 10 % 10), UInt8.ofNat (48 + n % 10)]
theorem un (n : Nat) (h : n < 256) : (UInt8.ofNat n).toNat = n := by simp; omega
theorem dig_of (n : Nat) (h : n < 10) : dig (UInt8.ofNat (48 + n)) = true := by unfold dig; rw [un _ (by omega)]; simp; omega
theorem of_dig (c : UInt8) (h : dig c = true) : ∃ n, n < 10 ∧ c = UInt8.ofNat (48 + n) ∧ c.toNat = 48 + n := by
  simp [dig] at h
  refine ⟨c.toNat - 48, by omega, ?_, by omega⟩
  rw [show 48 + (c.toNat - 48) = c.toNat by omega]; simp
theorem pn1_iff (most v : Int) (l m : Bs) : pn 1 most l = some (v, m) ↔ ∃ n : Nat, n < 10 ∧ v = n ∧ (n : Int) ≤ most ∧ l = D1 n ++ m := by
  unfold pn
  constructor
  · intro h
    split at h
    · rename_i hc
      obtain ⟨h1, h2, h3⟩ := hc
      rcases l with _ | ⟨a, l⟩
      · simp at h1
      · simp only [List.take_succ_cons, List.take_zero, List.all_cons, List.all_nil, Bool.and_true] at h2 h3 h
        obtain ⟨x, hx, rfl, ex⟩ := of_dig a h2
        simp only [val, List.foldl_cons, List.foldl_nil, ex] at h3 h
        simp only [Option.some.injEq, Prod.mk.injEq, List.drop_succ_cons, List.drop_zero] at h
        exact ⟨x, hx, by omega, by omega, by rw [← h.2]; rfl⟩
    · cases h
  · rintro ⟨n, hn, rfl, hm, rfl⟩
    have hv : val (D1 n) = n := by simp only [val, D1, List.foldl_cons, List.foldl_nil]; rw [un _ (by omega)]; omega
    have ht : (D1 n ++ m).take 1 = D1 n := rfl
    have hd : (D1 n ++ m).drop 1 = m := rfl
    have ha : (D1 n).all dig = true := by simp only [D1, List.all_cons, List.all_nil, Bool.and_true]; exact dig_of n hn
    rw [ht, hd, hv, if_pos ⟨by simp [D1], ha, hm⟩]
theorem pn2_iff (most v : Int) (l m : Bs) : pn 2 most l = some (v, m) ↔ ∃ n : Nat, n < 100 ∧ v = n ∧ (n : Int) ≤ most ∧ l = D2 n ++ m := by
  unfold pn
  constructor
  · intro h
    split at h
    · rename_i hc
      obtain ⟨h1, h2, h3⟩ := hc
      rcases l with _ | ⟨a, _ | ⟨b, l⟩⟩
      · simp at h1
      · simp at h1
      · simp only [List.take_succ_cons, List.take_zero, List.all_cons, List.all_nil, Bool.and_true, Bool.and_eq_true] at h2 h3 h
        obtain ⟨x, hx, rfl, ex⟩ := of_dig a h2.1
        obtain ⟨y, hy, rfl, ey⟩ := of_dig b h2.2
        simp only [val, List.foldl_cons, List.foldl_nil, ex, ey] at h3 h
        simp only [Option.some.injEq, Prod.mk.injEq, List.drop_succ_cons, List.drop_zero] at h
        refine ⟨10 * x + y, by omega, by omega, by omega, ?_⟩
        rw [← h.2]
        simp only [D2, List.cons_append, List.nil_append]
        rw [show (10 * x + y) / 10 = x by omega, show (10 * x + y) % 10 = y by omega]
    · cases h
  · rintro ⟨n, hn, rfl, hm, rfl⟩
    have hv : val (D2 n) = n := by simp only [val, D2, List.foldl_cons, List.foldl_nil]; rw [un _ (by omega), un _ (by omega)]; omega
    have ht : (D2 n ++ m).take 2 = D2 n := rfl
    have hd : (D2 n ++ m).drop 2 = m := rfl
    have ha : (D2 n).all dig = true := by simp only [D2, List.all_cons, List.all_nil, Bool.and_true, Bool.and_eq_true]; exact ⟨dig_of _ (by omega), dig_of _ (by omega)⟩
    rw [ht, hd, hv, if_pos ⟨by simp [D2], ha, hm⟩]
theorem pn4_iff (most v : Int) (l m : Bs) : pn 4 most l = some (v, m) ↔ ∃ n : Nat, n < 10000 ∧ v = n ∧ (n : Int) ≤ most ∧ l = D4 n ++ m := by
  unfold pn
  constructor
  · intro h
    split at h
    · rename_i hc
      obtain ⟨h1, h2, h3⟩ := hc
      rcases l with _ | ⟨a, _ | ⟨b, _ | ⟨c, _ | ⟨e, l⟩⟩⟩⟩
      · simp at h1
      · simp at h1
      · simp at h1
      · simp at h1
      · simp only [List.take_succ_cons, List.take_zero, List.all_cons, List.all_nil, Bool.and_true, Bool.and_eq_true] at h2 h3 h
        obtain ⟨x, hx, rfl, ex⟩ := of_dig a h2.1
        obtain ⟨y, hy, rfl, ey⟩ := of_dig b h2.2.1
        obtain ⟨z, hz, rfl, ez⟩ := of_dig c h2.2.2.1
        obtain ⟨u, hu, rfl, eu⟩ := of_dig e h2.2.2.2
        simp only [val, List.foldl_cons, List.foldl_nil, ex, ey, ez, eu] at h3 h
        simp only [Option.some.injEq, Prod.mk.injEq, List.drop_succ_cons, List.drop_zero] at h
        refine ⟨1000 * x + 100 * y + 10 * z + u, by omega, by omega, by omega, ?_⟩
        rw [← h.2]
        simp only [D4, List.cons_append, List.nil_append]
        rw [show (1000 * x + 100 * y + 10 * z + u) / 1000 = x by omega, show (1000 * x + 100 * y + 10 * z + u) / 100 % 10 = y by omega, show (1000 * x + 100 * y + 10 * z + u) / 10 % 10 = z by omega, show (1000 * x + 100 * y + 10 * z + u) % 10 = u by omega]
    · cases h
  · rintro ⟨n, hn, rfl, hm, rfl⟩
    have hv : val (D4 n) = n := by simp only [val, D4, List.foldl_cons, List.foldl_nil]; rw [un _ (by omega), un _ (by omega), un _ (by omega), un _ (by omega)]; omega
    have ht : (D4 n ++ m).take 4 = D4 n := rfl
    have hd : (D4 n ++ m).drop 4 = m := rfl
    have ha : (D4 n).all dig = true := by simp only [D4, List.all_cons, List.all_nil, Bool.and_true, Bool.and_eq_true]; exact ⟨dig_of _ (by omega), dig_of _ (by omega), dig_of _ (by omega), dig_of _ (by omega)⟩
    rw [ht, hd, hv, if_pos ⟨by simp [D4], ha, hm⟩]
def clk (h mi s : Nat) (r : Bs) : Bs := D2 h ++ ([58] ++ (D2 mi ++ ([58] ++ (D2 s ++ r))))
theorem pc_iff (l m : Bs) (v : Int) : pc l = some (v, m) ↔ ∃ h mi s : Nat, h ≤ 23 ∧ mi ≤ 59 ∧ s ≤ 59 ∧ v = 3600 * h + 60 * mi + s ∧ l = clk h mi s m := by
  unfold pc clk
  constructor
  · intro h
    obtain ⟨⟨a, l1⟩, h1, h⟩ := Option.bind_eq_some_iff.1 h
    obtain ⟨⟨_, l2⟩, h2, h⟩ := Option.bind_eq_some_iff.1 h
    obtain ⟨⟨b, l3⟩, h3, h⟩ := Option.bind_eq_some_iff.1 h
    obtain ⟨⟨_, l4⟩, h4, h⟩ := Option.bind_eq_some_iff.1 h
    obtain ⟨⟨c, l5⟩, h5, h⟩ := Option.bind_eq_some_iff.1 h
    obtain ⟨n1, _, rfl, b1, rfl⟩ := (pn2_iff _ _ _ _).1 h1
    obtain rfl := (pw_iff _ _ _).1 h2
    obtain ⟨n2, _, rfl, b2, rfl⟩ := (pn2_iff _ _ _ _).1 h3
    obtain rfl := (pw_iff _ _ _).1 h4
    obtain ⟨n3, _, rfl, b3, rfl⟩ := (pn2_iff _ _ _ _).1 h5
    simp only [Option.some.injEq, Prod.mk.injEq] at h
    exact ⟨n1, n2, n3, by omega, by omega, by omega, by omega, by rw [← h.2]⟩
  · rintro ⟨h, mi, s, b1, b2, b3, rfl, rfl⟩
    rw [(pn2_iff 23 h _ _).2 ⟨h, by omega, rfl, by omega, rfl⟩]; simp only [Option.bind_some]
    rw [(pw_iff _ _ _).2 rfl]; simp only [Option.bind_some]
    rw [(pn2_iff 59 mi _ _).2 ⟨mi, by omega, rfl, by omega, rfl⟩]; simp only [Option.bind_some]
    rw [(pw_iff _ _ _).2 rfl]; simp only [Option.bind_some]
    rw [(pn2_iff 59 s _ _).2 ⟨s, by omega, rfl, by omega, rfl⟩]; simp only [Option.bind_some]
def t1 (y m d h mi s : Nat) (r : Bs) : Bs := [44, 32] ++ (D2 d ++ ([32] ++ (nm (m - 1) ++ ([32] ++ (D4 y ++ ([32] ++ clk h mi s ([32, 71, 77, 84] ++ r)))))))
def t2 (y m d h mi s : Nat) (r : Bs) : Bs := [44, 32] ++ (D2 d ++ ([45] ++ (nm (m - 1) ++ ([45] ++ (D2 y ++ ([32] ++ clk h mi s ([32, 71, 77, 84] ++ r)))))))
def sd (d : Nat) : Bs := if d < 10 then [32] ++ D1 d else D2 d
def t3 (y m d h mi s : Nat) (r : Bs) : Bs := [32] ++ (nm (m - 1) ++ ([32] ++ (sd d ++ ([32] ++ clk h mi s ([32] ++ (D4 y ++ r))))))
theorem p1_iff (l r : Bs) (y m d s : Int) : p1 l = some ((y, m, d, s), r) ↔ ∃ Y M D h mi sc : Nat, Y < 10000 ∧ 1 ≤ M ∧ M ≤ 12 ∧ D ≤ 31 ∧ h ≤ 23 ∧ mi ≤ 59 ∧ sc ≤ 59 ∧ y = Y ∧ m = M ∧ d = D ∧ s = 3600 * h + 60 * mi + sc ∧ l = t1 Y M D h mi sc r := by
  unfold p1 t1
  constructor
  · intro h
    obtain ⟨⟨_, l1⟩, h1, h⟩ := Option.bind_eq_some_iff.1 h
    obtain ⟨⟨a2, l2⟩, h2, h⟩ := Option.bind_eq_some_iff.1 h
    obtain ⟨⟨_, l3⟩, h3, h⟩ := Option.bind_eq_some_iff.1 h
    obtain ⟨⟨a4, l4⟩, h4, h⟩ := Option.bind_eq_some_iff.1 h
    obtain ⟨⟨_, l5⟩, h5, h⟩ := Option.bind_eq_some_iff.1 h
    obtain ⟨⟨a6, l6⟩, h6, h⟩ := Option.bind_eq_some_iff.1 h
    obtain ⟨⟨_, l7⟩, h7, h⟩ := Option.bind_eq_some_iff.1 h
    obtain ⟨⟨a8, l8⟩, h8, h⟩ := Option.bind_eq_some_iff.1 h
    obtain ⟨⟨_, l9⟩, h9, h⟩ := Option.bind_eq_some_iff.1 h
    obtain rfl := (pw_iff _ _ _).1 h1
    obtain ⟨n2, _, rfl, b2, rfl⟩ := (pn2_iff _ _ _ _).1 h2
    obtain rfl := (pw_iff _ _ _).1 h3
    obtain ⟨i, hi, rfl, rfl⟩ := (pm_iff _ _ _).1 h4
    obtain rfl := (pw_iff _ _ _).1 h5
    obtain ⟨n6, _, rfl, b6, rfl⟩ := (pn4_iff _ _ _ _).1 h6
    obtain rfl := (pw_iff _ _ _).1 h7
    obtain ⟨hh, mi, sc, c1, c2, c3, rfl, rfl⟩ := (pc_iff _ _ _).1 h8
    obtain rfl := (pw_iff _ _ _).1 h9
    simp only [Option.some.injEq, Prod.mk.injEq] at h
    obtain ⟨⟨g1, g2, g3, g4⟩, g5⟩ := h
    exact ⟨n6, i + 1, n2, hh, mi, sc, by omega, by omega, by omega, by omega, c1, c2, c3, by omega, by omega, by omega, by omega, by rw [← g5]; rfl⟩
  · rintro ⟨Y, M, D, h, mi, sc, b1, b2, b3, b4, b5, b6, b7, rfl, rfl, rfl, rfl, rfl⟩
    rw [(pw_iff _ _ _).2 rfl]; simp only [Option.bind_some]
    rw [(pn2_iff 31 D _ _).2 ⟨D, by omega, rfl, by omega, rfl⟩]; simp only [Option.bind_some]
    rw [(pw_iff _ _ _).2 rfl]; simp only [Option.bind_some]
    rw [(pm_iff _ _ (M : Int)).2 ⟨M - 1, by omega, by omega, rfl⟩]; simp only [Option.bind_some]
    rw [(pw_iff _ _ _).2 rfl]; simp only [Option.bind_some]
    rw [(pn4_iff 9999 Y _ _).2 ⟨Y, by omega, rfl, by omega, rfl⟩]; simp only [Option.bind_some]
    rw [(pw_iff _ _ _).2 rfl]; simp only [Option.bind_some]
    rw [(pc_iff _ _ (3600 * h + 60 * mi + sc)).2 ⟨h, mi, sc, b5, b6, b7, rfl, rfl⟩]; simp only [Option.bind_some]
    rw [(pw_iff _ _ _).2 rfl]; simp only [Option.bind_some]
theorem p2_iff (l r : Bs) (y m d s : Int) : p2 l = some ((y, m, d, s), r) ↔ ∃ Y M D h mi sc : Nat, Y < 100 ∧ 1 ≤ M ∧ M ≤ 12 ∧ D ≤ 31 ∧ h ≤ 23 ∧ mi ≤ 59 ∧ sc ≤ 59 ∧ y = (if Y < 70 then (Y : Int) + 2000 else Y + 1900) ∧ m = M ∧ d = D ∧ s = 3600 * h + 60 * mi + sc ∧ l = t2 Y M D h mi sc r := by
  unfold p2 t2
  constructor
  · intro h
    obtain ⟨⟨_, l1⟩, h1, h⟩ := Option.bind_eq_some_iff.1 h
    obtain ⟨⟨a2, l2⟩, h2, h⟩ := Option.bind_eq_some_iff.1 h
    obtain ⟨⟨_, l3⟩, h3, h⟩ := Option.bind_eq_some_iff.1 h
    obtain ⟨⟨a4, l4⟩, h4, h⟩ := Option.bind_eq_some_iff.1 h
    obtain ⟨⟨_, l5⟩, h5, h⟩ := Option.bind_eq_some_iff.1 h
    obtain ⟨⟨a6, l6⟩, h6, h⟩ := Option.bind_eq_some_iff.1 h
    obtain ⟨⟨_, l7⟩, h7, h⟩ := Option.bind_eq_some_iff.1 h
    obtain ⟨⟨a8, l8⟩, h8, h⟩ := Option.bind_eq_some_iff.1 h
    obtain ⟨⟨_, l9⟩, h9, h⟩ := Option.bind_eq_some_iff.1 h
    obtain rfl := (pw_iff _ _ _).1 h1
    obtain ⟨n2, _, rfl, b2, rfl⟩ := (pn2_iff _ _ _ _).1 h2
    obtain rfl := (pw_iff _ _ _).1 h3
    obtain ⟨i, hi, rfl, rfl⟩ := (pm_iff _ _ _).1 h4
    obtain rfl := (pw_iff _ _ _).1 h5
    obtain ⟨n6, _, rfl, b6, rfl⟩ := (pn2_iff _ _ _ _).1 h6
    obtain rfl := (pw_iff _ _ _).1 h7
    obtain ⟨hh, mi, sc, c1, c2, c3, rfl, rfl⟩ := (pc_iff _ _ _).1 h8
    obtain rfl := (pw_iff _ _ _).1 h9
    simp only [Option.some.injEq, Prod.mk.injEq] at h
    obtain ⟨⟨g1, g2, g3, g4⟩, g5⟩ := h
    refine ⟨n6, i + 1, n2, hh, mi, sc, by omega, by omega, by omega, by omega, c1, c2, c3, ?_, by omega, by omega, by omega, by rw [← g5]; rfl⟩
    rw [← g1]; split <;> split <;> omega
  · rintro ⟨Y, M, D, h, mi, sc, b1, b2, b3, b4, b5, b6, b7, rfl, rfl, rfl, rfl, rfl⟩
    rw [(pw_iff _ _ _).2 rfl]; simp only [Option.bind_some]
    rw [(pn2_iff 31 D _ _).2 ⟨D, by omega, rfl, by omega, rfl⟩]; simp only [Option.bind_some]
    rw [(pw_iff _ _ _).2 rfl]; simp only [Option.bind_some]
    rw [(pm_iff _ _ (M : Int)).2 ⟨M - 1, by omega, by omega, rfl⟩]; simp only [Option.bind_some]
    rw [(pw_iff _ _ _).2 rfl]; simp only [Option.bind_some]
    rw [(pn2_iff 9999 Y _ _).2 ⟨Y, by omega, rfl, by omega, rfl⟩]; simp only [Option.bind_some]
    rw [(pw_iff _ _ _).2 rfl]; simp only [Option.bind_some]
    rw [(pc_iff _ _ (3600 * h + 60 * mi + sc)).2 ⟨h, mi, sc, b5, b6, b7, rfl, rfl⟩]; simp only [Option.bind_some]
    rw [(pw_iff _ _ _).2 rfl]; simp only [Option.bind_some]
    congr 3
    by_cases hY : Y < 70
    · rw [if_pos hY, if_pos (by omega)]
    · rw [if_neg hY, if_neg (by omega)]
theorem p3r_iff (l r : Bs) (M D y m d s : Int) : p3r M D l = some ((y, m, d, s), r) ↔ ∃ Y h mi sc : Nat, Y < 10000 ∧ h ≤ 23 ∧ mi ≤ 59 ∧ sc ≤ 59 ∧ y = Y ∧ m = M ∧ d = D ∧ s = 3600 * h + 60 * mi + sc ∧ l = [32] ++ clk h mi sc ([32] ++ (D4 Y ++ r)) := by
  unfold p3r
  constructor
  · intro h
    obtain ⟨⟨_, l7⟩, h7, h⟩ := Option.bind_eq_some_iff.1 h
    obtain ⟨⟨a8, l8⟩, h8, h⟩ := Option.bind_eq_some_iff.1 h
    obtain ⟨⟨_, l9⟩, h9, h⟩ := Option.bind_eq_some_iff.1 h
    obtain ⟨⟨a6, l6⟩, h6, h⟩ := Option.bind_eq_some_iff.1 h
    obtain rfl := (pw_iff _ _ _).1 h7
    obtain ⟨hh, mi, sc, c1, c2, c3, rfl, rfl⟩ := (pc_iff _ _ _).1 h8
    obtain rfl := (pw_iff _ _ _).1 h9
    obtain ⟨n6, _, rfl, b6, rfl⟩ := (pn4_iff _ _ _ _).1 h6
    simp only [Option.some.injEq, Prod.mk.injEq] at h
    obtain ⟨⟨g1, g2, g3, g4⟩, g5⟩ := h
    exact ⟨n6, hh, mi, sc, by omega, c1, c2, c3, by omega, by omega, by omega, by omega, by rw [← g5]⟩
  · rintro ⟨Y, h, mi, sc, b1, b5, b6, b7, rfl, rfl, rfl, rfl, rfl⟩
    rw [(pw_iff _ _ _).2 rfl]; simp only [Option.bind_some]
    rw [(pc_iff _ _ (3600 * h + 60 * mi + sc)).2 ⟨h, mi, sc, b5, b6, b7, rfl, rfl⟩]; simp only [Option.bind_some]
    rw [(pw_iff _ _ _).2 rfl]; simp only [Option.bind_some]
    rw [(pn4_iff 9999 Y _ _).2 ⟨Y, by omega, rfl, by omega, rfl⟩]; simp only [Option.bind_some]
theorem p3_iff (l r : Bs) (y m d s : Int) : p3 l = some ((y, m, d, s), r) ↔ ∃ Y M D h mi sc : Nat, Y < 10000 ∧ 1 ≤ M ∧ M ≤ 12 ∧ D ≤ 31 ∧ h ≤ 23 ∧ mi ≤ 59 ∧ sc ≤ 59 ∧ y = Y ∧ m = M ∧ d = D ∧ s = 3600 * h + 60 * mi + sc ∧ l = t3 Y M D h mi sc r := by
  unfold p3 t3
  constructor
  · intro h
    obtain ⟨⟨_, l1⟩, h1, h⟩ := Option.bind_eq_some_iff.1 h
    obtain ⟨⟨a4, l4⟩, h4, h⟩ := Option.bind_eq_some_iff.1 h
    obtain ⟨⟨_, l5⟩, h5, hf⟩ := Option.bind_eq_some_iff.1 h
    clear h
    obtain rfl := (pw_iff _ _ _).1 h1
    obtain ⟨i, hi, rfl, rfl⟩ := (pm_iff _ _ _).1 h4
    obtain rfl := (pw_iff _ _ _).1 h5
    by_cases hb : hp l5 [32] = true
    · rw [if_pos hb] at hf
      obtain ⟨⟨_, l6⟩, h6, hf2⟩ := Option.bind_eq_some_iff.1 hf
      obtain ⟨⟨a7, l7⟩, h7, h⟩ := Option.bind_eq_some_iff.1 hf2
      obtain rfl := (pw_iff _ _ _).1 h6
      obtain ⟨n, hn, rfl, b2, rfl⟩ := (pn1_iff _ _ _ _).1 h7
      obtain ⟨Y, hh, mi, sc, c0, c1, c2, c3, rfl, rfl, rfl, rfl, e⟩ := (p3r_iff _ _ _ _ _ _ _ _).1 h
      simp only at e
      subst e
      exact ⟨Y, i + 1, n, hh, mi, sc, by omega, by omega, by omega, by omega, c1, c2, c3, rfl, by simp, rfl, rfl, by unfold sd; rw [if_pos hn]; simp⟩
    · rw [if_neg hb] at hf
      obtain ⟨⟨a7, l7⟩, h7, h⟩ := Option.bind_eq_some_iff.1 hf
      obtain ⟨n, hn, rfl, b2, rfl⟩ := (pn2_iff _ _ _ _).1 h7
      by_cases g : (n : Int) < 10
      · rw [if_pos g] at h; cases h
      · rw [if_neg g] at h
        obtain ⟨Y, hh, mi, sc, c0, c1, c2, c3, rfl, rfl, rfl, rfl, e⟩ := (p3r_iff _ _ _ _ _ _ _ _).1 h
        simp only at e
        subst e
        exact ⟨Y, i + 1, n, hh, mi, sc, by omega, by omega, by omega, by omega, c1, c2, c3, rfl, by simp, rfl, rfl, by unfold sd; rw [if_neg (by omega)]; simp⟩
  · rintro ⟨Y, M, D, h, mi, sc, b1, b2, b3, b4, b5, b6, b7, rfl, rfl, rfl, rfl, rfl⟩
    rw [(pw_iff _ _ _).2 rfl]; simp only [Option.bind_some]
    rw [(pm_iff _ _ (M : Int)).2 ⟨M - 1, by omega, by omega, rfl⟩]; simp only [Option.bind_some]
    rw [(pw_iff _ _ _).2 rfl]; simp only [Option.bind_some]
    unfold sd
    by_cases hD : D < 10
    · rw [if_pos hD, List.append_assoc, if_pos ((hp_iff _ _).2 ⟨_, rfl⟩), (pw_iff _ _ _).2 rfl]; simp only [Option.bind_some]
      rw [(pn1_iff 9 D _ _).2 ⟨D, by omega, rfl, by omega, rfl⟩]; simp only [Option.bind_some]
      exact (p3r_iff _ _ _ _ _ _ _ _).2 ⟨Y, h, mi, sc, b1, b5, b6, b7, rfl, rfl, rfl, rfl, rfl⟩
    · rw [if_neg hD]
      have hne : ¬ hp (D2 D ++ ([32] ++ clk h mi sc ([32] ++ (D4 Y ++ r)))) [32] = true := by
        intro g
        obtain ⟨q, hq⟩ := (hp_iff _ _).1 g
        have := congrArg (fun l => l.headD 0) hq
        simp only [D2, List.cons_append, List.headD_cons, List.nil_append] at this
        have := congrArg UInt8.toNat this
        rw [un _ (by omega)] at this
        simp at this
        omega
      rw [if_neg hne, (pn2_iff 31 D _ _).2 ⟨D, by omega, rfl, by omega, rfl⟩]; simp only [Option.bind_some]
      rw [if_neg (by omega)]
      exact (p3r_iff _ _ _ _ _ _ _ _).2 ⟨Y, h, mi, sc, b1, b5, b6, b7, rfl, rfl, rfl, rfl, rfl⟩
set_option linter.unusedSimpArgs false
set_option linter.unusedVariables false
structure Vd (y m d h mi s : Nat) : Prop where
  ok : Ok3 y m d
  hh : h ≤ 23
  hm : mi ≤ 59
  hs : s ≤ 59
def sec (y m d h mi s : Nat) : Int := Dn y m d * 86400 + (3600 * (h : Int) + 60 * mi + s)
def wdy (y m d : Nat) : Nat := ((Dn y m d % 7 + 4) % 7).toNat
theorem wdy_lt (y m d : Nat) : wdy y m d < 7 := by unfold wdy; omega
def F1 (y m d h mi s : Nat) : Bs := (wdn (wdy y m d)).take 3 ++ t1 y m d h mi s []
def F2 (y m d h mi s : Nat) : Bs := wdn (wdy y m d) ++ t2 (y % 100) m d h mi s []
def F3 (y m d h mi s : Nat) : Bs := (wdn (wdy y m d)).take 3 ++ t3 y m d h mi s []
theorem suc_iff (p : Bs → Option (Day × Bs)) (full : Bool) (l : Bs) (w : Nat) (a : Int) : suc p full l w = some a ↔ ∃ y m d s l1, l = wname full w ++ l1 ∧ p l1 = some ((y, m, d, s), []) ∧ Ok3 y m d ∧ (Dn y m d % 7 + 4) % 7 = (w : Int) ∧ a = Dn y m d * 86400 + s := by
  unfold suc
  constructor
  · intro h
    obtain ⟨⟨_, l1⟩, h1, h⟩ := Option.bind_eq_some_iff.1 h
    obtain ⟨⟨⟨y, m, d, s⟩, r⟩, h2, h⟩ := Option.bind_eq_some_iff.1 h
    simp only at h h2
    split at h
    · rename_i hc
      obtain ⟨rfl, hc2, hc3⟩ := hc
      injection h with h
      exact ⟨y, m, d, s, l1, (pw_iff _ _ _).1 h1, h2, hc2, hc3, h.symm⟩
    · cases h
  · rintro ⟨y, m, d, s, l1, rfl, h2, h3, h4, rfl⟩
    rw [(pw_iff _ _ _).2 rfl]; simp only [Option.bind_some]
    rw [h2]; simp only [Option.bind_some]
    rw [if_pos ⟨trivial, h3, h4⟩]
theorem ok_nat {y m d : Int} (h : Ok3 y m d) : 0 ≤ y ∧ 0 ≤ m ∧ 0 ≤ d ∧ d ≤ 31 := by
  obtain ⟨h1, h2, h3, h4, h5, h6⟩ := h; have := Lg_bd y m; omega
theorem wdy_eq {y m d : Nat} {w : Nat} (h : Ok3 y m d) : (Dn y m d % 7 + 4) % 7 = (w : Int) ↔ w = wdy y m d := by unfold wdy; omega
theorem suc1_iff (l : Bs) (w : Nat) (a : Int) : suc p1 false l w = some a ↔ ∃ y m d h mi s, Vd y m d h mi s ∧ w = wdy y m d ∧ l = F1 y m d h mi s ∧ a = sec y m d h mi s := by
  rw [suc_iff]
  constructor
  · rintro ⟨y, m, d, s, l1, rfl, h2, h3, h4, rfl⟩
    obtain ⟨Y, M, D, h, mi, sc, b1, b2, b3, b4, b5, b6, b7, rfl, rfl, rfl, rfl, rfl⟩ := (p1_iff _ _ _ _ _ _).1 h2
    have hw := (wdy_eq h3).1 h4
    refine ⟨Y, M, D, h, mi, sc, ⟨h3, b5, b6, b7⟩, hw, ?_, rfl⟩
    rw [hw]; rfl
  · rintro ⟨Y, M, D, h, mi, sc, hv, rfl, rfl, rfl⟩
    have ho := hv.ok
    have hn := ok_nat ho
    obtain ⟨o1, o2, o3, o4, o5, o6⟩ := ho
    exact ⟨Y, M, D, _, _, rfl, (p1_iff _ _ _ _ _ _).2 ⟨Y, M, D, h, mi, sc, by omega, by omega, by omega, by omega, hv.hh, hv.hm, hv.hs, rfl, rfl, rfl, rfl, rfl⟩, hv.ok, (wdy_eq hv.ok).2 rfl, rfl⟩
theorem suc3_iff (l : Bs) (w : Nat) (a : Int) : suc p3 false l w = some a ↔ ∃ y m d h mi s, Vd y m d h mi s ∧ w = wdy y m d ∧ l = F3 y m d h mi s ∧ a = sec y m d h mi s := by
  rw [suc_iff]
  constructor
  · rintro ⟨y, m, d, s, l1, rfl, h2, h3, h4, rfl⟩
    obtain ⟨Y, M, D, h, mi, sc, b1, b2, b3, b4, b5, b6, b7, rfl, rfl, rfl, rfl, rfl⟩ := (p3_iff _ _ _ _ _ _).1 h2
    have hw := (wdy_eq h3).1 h4
    refine ⟨Y, M, D, h, mi, sc, ⟨h3, b5, b6, b7⟩, hw, ?_, rfl⟩
    rw [hw]; rfl
  · rintro ⟨Y, M, D, h, mi, sc, hv, rfl, rfl, rfl⟩
    have ho := hv.ok
    have hn := ok_nat ho
    obtain ⟨o1, o2, o3, o4, o5, o6⟩ := ho
    exact ⟨Y, M, D, _, _, rfl, (p3_iff _ _ _ _ _ _).2 ⟨Y, M, D, h, mi, sc, by omega, by omega, by omega, by omega, hv.hh, hv.hm, hv.hs, rfl, rfl, rfl, rfl, rfl⟩, hv.ok, (wdy_eq hv.ok).2 rfl, rfl⟩
theorem suc2_iff (l : Bs) (w : Nat) (a : Int) : suc p2 true l w = some a ↔ ∃ y m d h mi s, Vd y m d h mi s ∧ y ≤ 2069 ∧ w = wdy y m d ∧ l = F2 y m d h mi s ∧ a = sec y m d h mi s := by
  rw [suc_iff]
  constructor
  · rintro ⟨y, m, d, s, l1, rfl, h2, h3, h4, rfl⟩
    obtain ⟨Y, M, D, h, mi, sc, b1, b2, b3, b4, b5, b6, b7, hy, rfl, rfl, rfl, rfl⟩ := (p2_iff _ _ _ _ _ _).1 h2
    obtain ⟨Y', rfl, hY, hY2⟩ : ∃ Y' : Nat, y = Y' ∧ Y' % 100 = Y ∧ Y' ≤ 2069 := by
      by_cases g : Y < 70
      · rw [if_pos g] at hy; exact ⟨Y + 2000, by omega, by omega, by omega⟩
      · rw [if_neg g] at hy; exact ⟨Y + 1900, by omega, by omega, by omega⟩
    have hw := (wdy_eq h3).1 h4
    refine ⟨Y', M, D, h, mi, sc, ⟨h3, b5, b6, b7⟩, hY2, hw, ?_, rfl⟩
    rw [hw]; unfold F2; rw [hY]; rfl
  · rintro ⟨Y, M, D, h, mi, sc, hv, hY, rfl, rfl, rfl⟩
    have ho := hv.ok
    have hn := ok_nat ho
    obtain ⟨o1, o2, o3, o4, o5, o6⟩ := ho
    refine ⟨Y, M, D, _, _, rfl, (p2_iff _ _ _ _ _ _).2 ⟨Y % 100, M, D, h, mi, sc, by omega, by omega, by omega, by omega, hv.hh, hv.hm, hv.hs, ?_, rfl, rfl, rfl, rfl⟩, hv.ok, (wdy_eq hv.ok).2 rfl, rfl⟩
    split <;> omega
theorem take3_inj : ∀ i, i < 7 → ∀ j, j < 7 → (wdn i).take 3 = (wdn j).take 3 → i = j := by decide
theorem wname_inj (full : Bool) (i j : Nat) (hi : i < 7) (hj : j < 7) (a b : Bs) (h : wname full i ++ a = wname full j ++ b) : i = j := by
  have li := wdn_len i hi
  have lj := wdn_len j hj
  have e : ∀ (k : Nat) (c : Bs), k < 7 → (wname full k ++ c).take 3 = (wdn k).take 3 := by
    intro k c hk
    have lk := wdn_len k hk
    unfold wname
    cases full
    · rw [if_neg (by decide), List.take_append_of_le_length (by rw [List.length_take]; omega), List.take_take]; rfl
    · rw [if_pos rfl, List.take_append_of_le_length (by omega)]
  have := congrArg (List.take 3) h
  rw [e i a hi, e j b hj] at this
  exact take3_inj i hi j hj this
theorem suc_one (p : Bs → Option (Day × Bs)) (full : Bool) (l : Bs) (w w' : Nat) (a a' : Int) (hw : w < 7) (hw' : w' < 7) (h : suc p full l w = some a) (h' : suc p full l w' = some a') : w = w' := by
  obtain ⟨_, _, _, _, l1, e, _⟩ := (suc_iff _ _ _ _ _).1 h
  obtain ⟨_, _, _, _, l2, e', _⟩ := (suc_iff _ _ _ _ _).1 h'
  exact wname_inj full w w' hw hw' l1 l2 (e.symm.trans e')
theorem sl_iff (p : Bs → Option (Day × Bs)) (full : Bool) (l : Bs) (a : Int) : ∀ d w, w + d = 7 → (sl p full l d w = some a ↔ ∃ v, w ≤ v ∧ v < 7 ∧ suc p full l v = some a) := by
  intro d
  induction d with
  | zero =>
    intro w hw
    simp only [sl]
    constructor
    · intro h; cases h
    · rintro ⟨v, h1, h2, _⟩; omega
  | succ d ih =>
    intro w hw
    simp only [sl]
    cases e : suc p full l w with
    | some b =>
      simp only
      constructor
      · intro h; exact ⟨w, Nat.le_refl _, by omega, by rw [e]; exact h⟩
      · rintro ⟨v, h1, h2, h3⟩
        obtain rfl := suc_one p full l v w a b h2 (by omega) h3 e
        rw [← e]; exact h3
    | none =>
      simp only
      rw [ih (w + 1) (by omega)]
      constructor
      · rintro ⟨v, h1, h2, h3⟩; exact ⟨v, by omega, h2, h3⟩
      · rintro ⟨v, h1, h2, h3⟩
        refine ⟨v, ?_, h2, h3⟩
        rcases Nat.lt_or_ge w v with g | g
        · exact g
        · obtain rfl : v = w := by omega
          rw [e] at h3; cases h3
theorem wdn3 : ∀ i, i < 7 → 97 ≤ ((wdn i).getD 3 0).toNat := by decide
theorem at3_short (i : Nat) (hi : i < 7) (c : UInt8) (r : Bs) : ((wdn i).take 3 ++ c :: r).getD 3 0 = c := by
  have := wdn_len i hi
  have hl : ((wdn i).take 3).length = 3 := by rw [List.length_take]; omega
  rw [List.getD_eq_getElem?_getD, List.getElem?_append_right (by omega), hl]; rfl
theorem F1_at (y m d h mi s : Nat) : (F1 y m d h mi s).getD 3 0 = 44 := at3_short _ (wdy_lt _ _ _) _ _
theorem F3_at (y m d h mi s : Nat) : (F3 y m d h mi s).getD 3 0 = 32 := at3_short _ (wdy_lt _ _ _) _ _
theorem F2_at (y m d h mi s : Nat) : 97 ≤ ((F2 y m d h mi s).getD 3 0).toNat := by
  have h1 := wdn_len _ (wdy_lt y m d)
  have h2 := wdn3 _ (wdy_lt y m d)
  unfold F2
  rw [List.getD_eq_getElem?_getD, List.getElem?_append_left (by omega), ← List.getD_eq_getElem?_getD]; exact h2
theorem found_iff (l : Bs) (a : Int) : found l = some a ↔ ∃ y m d h mi s, Vd y m d h mi s ∧ a = sec y m d h mi s ∧ (l = F1 y m d h mi s ∨ (y ≤ 2069 ∧ l = F2 y m d h mi s) ∨ l = F3 y m d h mi s) := by
  have S1 : ∀ b, sl p1 false l 7 0 = some b ↔ ∃ y m d h mi s, Vd y m d h mi s ∧ l = F1 y m d h mi s ∧ b = sec y m d h mi s := by
    intro b
    rw [sl_iff _ _ _ _ 7 0 rfl]
    constructor
    · rintro ⟨v, _, _, h⟩
      obtain ⟨y, m, d, h, mi, s, h1, _, h2, h3⟩ := (suc1_iff _ _ _).1 h
      exact ⟨y, m, d, h, mi, s, h1, h2, h3⟩
    · rintro ⟨y, m, d, h, mi, s, h1, h2, h3⟩
      exact ⟨wdy y m d, Nat.zero_le _, wdy_lt _ _ _, (suc1_iff _ _ _).2 ⟨y, m, d, h, mi, s, h1, rfl, h2, h3⟩⟩
  have S2 : ∀ b, sl p2 true l 7 0 = some b ↔ ∃ y m d h mi s, Vd y m d h mi s ∧ y ≤ 2069 ∧ l = F2 y m d h mi s ∧ b = sec y m d h mi s := by
    intro b
    rw [sl_iff _ _ _ _ 7 0 rfl]
    constructor
    · rintro ⟨v, _, _, h⟩
      obtain ⟨y, m, d, h, mi, s, h1, h0, _, h2, h3⟩ := (suc2_iff _ _ _).1 h
      exact ⟨y, m, d, h, mi, s, h1, h0, h2, h3⟩
    · rintro ⟨y, m, d, h, mi, s, h1, h0, h2, h3⟩
      exact ⟨wdy y m d, Nat.zero_le _, wdy_lt _ _ _, (suc2_iff _ _ _).2 ⟨y, m, d, h, mi, s, h1, h0, rfl, h2, h3⟩⟩
  have S3 : ∀ b, sl p3 false l 7 0 = some b ↔ ∃ y m d h mi s, Vd y m d h mi s ∧ l = F3 y m d h mi s ∧ b = sec y m d h mi s := by
    intro b
    rw [sl_iff _ _ _ _ 7 0 rfl]
    constructor
    · rintro ⟨v, _, _, h⟩
      obtain ⟨y, m, d, h, mi, s, h1, _, h2, h3⟩ := (suc3_iff _ _ _).1 h
      exact ⟨y, m, d, h, mi, s, h1, h2, h3⟩
    · rintro ⟨y, m, d, h, mi, s, h1, h2, h3⟩
      exact ⟨wdy y m d, Nat.zero_le _, wdy_lt _ _ _, (suc3_iff _ _ _).2 ⟨y, m, d, h, mi, s, h1, rfl, h2, h3⟩⟩
  unfold found
  constructor
  · intro h
    cases e1 : sl p1 false l 7 0 with
    | some b =>
      rw [e1] at h; injection h with h; subst h
      obtain ⟨y, m, d, h, mi, s, h1, h2, h3⟩ := (S1 _).1 e1
      exact ⟨y, m, d, h, mi, s, h1, h3, .inl h2⟩
    | none =>
      rw [e1] at h; simp only at h
      cases e2 : sl p2 true l 7 0 with
      | some b =>
        rw [e2] at h; injection h with h; subst h
        obtain ⟨y, m, d, h, mi, s, h1, h0, h2, h3⟩ := (S2 _).1 e2
        exact ⟨y, m, d, h, mi, s, h1, h3, .inr (.inl ⟨h0, h2⟩)⟩
      | none =>
        rw [e2] at h; simp only at h
        obtain ⟨y, m, d, h, mi, s, h1, h2, h3⟩ := (S3 _).1 h
        exact ⟨y, m, d, h, mi, s, h1, h3, .inr (.inr h2)⟩
  · rintro ⟨y, m, d, h, mi, s, h1, rfl, h2⟩
    have n1 : l.getD 3 0 ≠ 44 → sl p1 false l 7 0 = none := by
      intro g
      cases e1 : sl p1 false l 7 0 with
      | none => rfl
      | some b =>
        obtain ⟨y', m', d', h', mi', s', _, e, _⟩ := (S1 _).1 e1
        rw [e] at g; exact absurd (F1_at _ _ _ _ _ _) g
    have n2 : (l.getD 3 0).toNat < 97 → sl p2 true l 7 0 = none := by
      intro g
      cases e1 : sl p2 true l 7 0 with
      | none => rfl
      | some b =>
        obtain ⟨y', m', d', h', mi', s', _, _, e, _⟩ := (S2 _).1 e1
        have := F2_at y' m' d' h' mi' s'
        rw [e] at g; omega
    rcases h2 with h2 | ⟨h0, h2⟩ | h2
    · rw [(S1 _).2 ⟨y, m, d, h, mi, s, h1, h2, rfl⟩]
    · have := F2_at y m d h mi s
      rw [n1 (by rw [h2]; intro e; rw [e] at this; revert this; decide), (S2 _).2 ⟨y, m, d, h, mi, s, h1, h0, h2, rfl⟩]
    · have := F3_at y m d h mi s
      rw [n1 (by rw [h2, this]; decide), n2 (by rw [h2, this]; decide)]
      exact (S3 _).2 ⟨y, m, d, h, mi, s, h1, h2, rfl⟩
set_option linter.unusedSimpArgs false
set_option linter.unusedVariables false
theorem Ah_mono (y : Int) (n : Nat) : Ah y + 365 * n ≤ Ah (y + n) ∧ Ah (y + n) ≤ Ah y + 366 * n := by
  induction n with
  | zero => simp
  | succ n ih =>
    have e := Ah_succ (y + n)
    rw [show y + (n : Int) + 1 = y + ((n + 1 : Nat) : Int) by push_cast; omega] at e
    rw [e]
    split <;> omega
theorem Cm_mono (y : Int) (i n : Nat) : Cm y i ≤ Cm y (i + n) := by
  induction n with
  | zero => exact Int.le_refl _
  | succ n ih => have := Lg_bd y (i + n + 1); have e : Cm y (i + (n + 1)) = Cm y (i + n) + Lg y ((i + n : Nat) + 1) := rfl; rw [e]; push_cast; omega
theorem Cm_12 (y : Int) : Cm y 12 = 365 + (if Lp y = true then 1 else 0) := by
  simp only [Cm, Lg]
  cases Lp y <;> simp
theorem Dn_lt {y m d : Int} (h : Ok3 y m d) : Ah y - Ah 1970 ≤ Dn y m d ∧ Dn y m d < Ah (y + 1) - Ah 1970 := by
  obtain ⟨h1, h2, h3, h4, h5, h6⟩ := h
  have hc := Cm_bd y (m - 1).toNat
  have e : Cm y ((m - 1).toNat + 1) = Cm y (m - 1).toNat + Lg y m := by simp only [Cm]; rw [show (((m - 1).toNat : Int) + 1) = m by omega]
  have hm := Cm_mono y ((m - 1).toNat + 1) (12 - ((m - 1).toNat + 1))
  rw [show (m - 1).toNat + 1 + (12 - ((m - 1).toNat + 1)) = 12 by omega, Cm_12] at hm
  have ha := Ah_succ y
  unfold Dn
  omega
set_option maxRecDepth 100000 in
theorem sec_bd {y m d h mi s : Nat} (v : Vd y m d h mi s) : 0 ≤ sec y m d h mi s ∧ sec y m d h mi s < 253402300800 ∧ sec y m d h mi s / 86400 = Dn y m d ∧ sec y m d h mi s % 86400 = 3600 * (h : Int) + 60 * mi + s := by
  have := v.hh; have := v.hm; have := v.hs
  have hb := Dn_nonneg _ _ _ v.ok
  have hd := Dn_lt v.ok
  have ho := v.ok
  obtain ⟨h1, h2, h3, h4, h5, h6⟩ := ho
  have a1 := Ah_mono ((y : Int) + 1) (10000 - ((y : Int) + 1)).toNat
  rw [show (y : Int) + 1 + ((10000 - ((y : Int) + 1)).toNat : Int) = 10000 by omega] at a1
  have : Ah 10000 - Ah 1970 = 2932897 := by unfold Ah; omega
  unfold sec
  omega
set_option linter.unusedSimpArgs false
set_option linter.unusedVariables false
theorem D4_D2 (y : Nat) (h : y < 10000) : D2 (y / 100) ++ D2 (y % 100) = D4 y := by
  unfold D2 D4
  simp only [List.cons_append, List.nil_append]
  rw [show y / 100 / 10 = y / 1000 by omega, show y % 100 / 10 = y / 10 % 10 by omega, show y % 100 % 10 = y % 10 by omega]
def F2x (y m d h mi s : Nat) : Bs := if y > 2069 then [] else F2 y m d h mi s
set_option linter.unusedSimpArgs false
set_option linter.unusedVariables false
def dgt : Nat → Int → Bs → Int
  | 0, n, _ => n
  | _ + 1, _, [] => -1
  | m + 1, n, c :: r => if dig c = true then dgt m (10 * n + c.toNat - 48) r else -1
def bd (m : Nat) : Int := if m = 4 then 0 else if m = 3 then 9 else if m = 2 then 99 else if m = 1 then 999 else 9999
theorem bd_step (m : Nat) (n x : Int) (h : n ≤ bd (m + 1)) (hx : x ≤ 9) (hm : m + 1 ≤ 4) : 10 * n + x ≤ bd m := by
  unfold bd at *
  have : m = 0 ∨ m = 1 ∨ m = 2 ∨ m = 3 := by omega
  rcases this with rfl | rfl | rfl | rfl <;> simp at h ⊢ <;> omega
theorem bd_le (m : Nat) : bd m ≤ 9999 := by unfold bd; split <;> (try split) <;> (try split) <;> (try split) <;> omega
theorem dig_iff (c : UInt8) : dig c = true ↔ 48 ≤ c.toNat ∧ c.toNat ≤ 57 := by unfold dig; simp
theorem dgt_bd : ∀ (m : Nat) (n : Int) (l : Bs), m ≤ 4 → 0 ≤ n → n ≤ bd m → -1 ≤ dgt m n l ∧ dgt m n l ≤ 9999 := by
  intro m
  induction m with
  | zero => intro n l _ h h'; have := bd_le 0; simp only [dgt]; omega
  | succ m ih =>
    intro n l hm h h'
    cases l with
    | nil => simp only [dgt]; omega
    | cons c r =>
      simp only [dgt]
      by_cases hc : dig c = true
      · rw [if_pos hc]
        have hd := (dig_iff c).1 hc
        exact ih _ r (by omega) (by omega) (by have := bd_step m n (c.toNat - 48) h' (by omega) hm; omega)
      · rw [if_neg hc]; omega
theorem dgt_n (M : Nat) (l : Bs) (hM : M ≤ 4) : -1 ≤ dgt M 0 l ∧ dgt M 0 l ≤ 9999 := dgt_bd M 0 l hM (by decide) (by unfold bd; split <;> (try split) <;> (try split) <;> (try split) <;> omega)
theorem dgt_cons (m : Nat) (n : Int) (d : Nat) (hd : d < 10) (r : Bs) : dgt (m + 1) n (UInt8.ofNat (48 + d) :: r) = dgt m (10 * n + d) r := by
  simp only [dgt]; rw [if_pos (dig_of d hd), un _ (by omega)]; congr 1; omega
theorem dgt2 (n : Nat) (h : n < 100) (r : Bs) : dgt 2 0 (D2 n ++ r) = n := by
  unfold D2
  show dgt 2 0 (UInt8.ofNat (48 + n / 10) :: UInt8.ofNat (48 + n % 10) :: r) = n
  rw [dgt_cons _ _ _ (by omega), dgt_cons _ _ _ (by omega)]; simp only [dgt]; omega
theorem dgt1 (n : Nat) (h : n < 10) (r : Bs) : dgt 1 0 (D1 n ++ r) = n := by
  unfold D1
  show dgt 1 0 (UInt8.ofNat (48 + n) :: r) = n
  rw [dgt_cons _ _ _ (by omega)]; simp only [dgt]; omega
theorem dgt4 (n : Nat) (h : n < 10000) (r : Bs) : dgt 4 0 (D4 n ++ r) = n := by
  unfold D4
  show dgt 4 0 (UInt8.ofNat (48 + n / 1000) :: UInt8.ofNat (48 + n / 100 % 10) :: UInt8.ofNat (48 + n / 10 % 10) :: UInt8.ofNat (48 + n % 10) :: r) = n
  rw [dgt_cons _ _ _ (by omega), dgt_cons _ _ _ (by omega), dgt_cons _ _ _ (by omega), dgt_cons _ _ _ (by omega)]; simp only [dgt]; omega
def wh (l : Bs) : Nat → Nat → Int
  | 0, _ => 0
  | d + 1, m => if 3 ≤ l.length ∧ l.take 3 = nm (m - 1) then m else wh l d (m + 1)
theorem wh_bd (l : Bs) : ∀ d m, m + d = 13 → 0 ≤ wh l d m ∧ wh l d m ≤ 12 := by
  intro d
  induction d with
  | zero => intro m _; simp only [wh]; omega
  | succ d ih => intro m h; simp only [wh]; split
                 · omega
                 · exact ih (m + 1) (by omega)
theorem wh_nm (j : Nat) (hj : j < 12) (r : Bs) : ∀ d m, m + d = 13 → 1 ≤ m → m ≤ j + 1 → wh (nm j ++ r) d m = ((j + 1 : Nat) : Int) := by
  have hl := nm_len j hj
  intro d
  induction d with
  | zero => intro m _; omega
  | succ d ih =>
    intro m h h1 h2
    simp only [wh]
    rw [List.take_append_of_le_length (by omega), List.take_of_length_le (by omega)]
    by_cases e : nm j = nm (m - 1)
    · rw [if_pos ⟨by rw [List.length_append]; omega, e⟩]; have := nm_inj j hj (m - 1) (by omega) e; omega
    · rw [if_neg (fun h => e h.2)]
      exact ih (m + 1) (by omega) (by omega) (by
        have : j ≠ m - 1 := fun g => e (by rw [g])
        omega)
def gs (l : Bs) (y d : Int) (mon c : Nat) : Int :=
  if d < 0 then -1 else if Ok3 y (wh (l.drop mon) 12 1) d ∧ (0 ≤ dgt 2 0 (l.drop c) ∧ dgt 2 0 (l.drop c) ≤ 23) ∧ (0 ≤ dgt 2 0 (l.drop (c + 3)) ∧ dgt 2 0 (l.drop (c + 3)) ≤ 59) ∧ (0 ≤ dgt 2 0 (l.drop (c + 6)) ∧ dgt 2 0 (l.drop (c + 6)) ≤ 59)
    then Dn y (wh (l.drop mon) 12 1) d * 86400 + (3600 * dgt 2 0 (l.drop c) + 60 * dgt 2 0 (l.drop (c + 3)) + dgt 2 0 (l.drop (c + 6))) else -1
theorem gs_some (l : Bs) (y d : Int) (mon c : Nat) (h : 0 ≤ gs l y d mon c) : ∃ Y M D H Mi S : Nat, Vd Y M D H Mi S ∧ gs l y d mon c = sec Y M D H Mi S := by
  unfold gs at h ⊢
  by_cases hd : d < 0
  · rw [if_pos hd] at h; omega
  rw [if_neg hd] at h ⊢
  generalize wh (l.drop mon) 12 1 = m at *
  generalize dgt 2 0 (l.drop c) = hh at *
  generalize dgt 2 0 (l.drop (c + 3)) = mi at *
  generalize dgt 2 0 (l.drop (c + 6)) = s at *
  by_cases hc : Ok3 y m d ∧ (0 ≤ hh ∧ hh ≤ 23) ∧ (0 ≤ mi ∧ mi ≤ 59) ∧ (0 ≤ s ∧ s ≤ 59)
  · rw [if_pos hc]
    obtain ⟨ho, h1, h2, h3⟩ := hc
    have hn := ok_nat ho
    obtain ⟨Y, rfl⟩ : ∃ n : Nat, y = n := ⟨y.toNat, by omega⟩
    obtain ⟨M, rfl⟩ : ∃ n : Nat, m = n := ⟨m.toNat, by omega⟩
    obtain ⟨D, rfl⟩ : ∃ n : Nat, d = n := ⟨d.toNat, by omega⟩
    obtain ⟨H, rfl⟩ : ∃ n : Nat, hh = n := ⟨hh.toNat, by omega⟩
    obtain ⟨Mi, rfl⟩ : ∃ n : Nat, mi = n := ⟨mi.toNat, by omega⟩
    obtain ⟨S, rfl⟩ : ∃ n : Nat, s = n := ⟨s.toNat, by omega⟩
    exact ⟨Y, M, D, H, Mi, S, ⟨ho, by omega, by omega, by omega⟩, rfl⟩
  · rw [if_neg hc] at h; omega
theorem gs_of (l : Bs) (y d : Int) (mon c : Nat) (Y M D H Mi S : Nat) (v : Vd Y M D H Mi S) (hy : y = Y) (hd : d = D) (hm : ∃ r, l.drop mon = nm (M - 1) ++ r) (hc : ∃ r, l.drop c = clk H Mi S r) : gs l y d mon c = sec Y M D H Mi S := by
  subst hy hd
  obtain ⟨r, hm⟩ := hm
  obtain ⟨q, hc⟩ := hc
  have hb := v.ok
  obtain ⟨b1, b2, b3, b4, b5, b6⟩ := hb
  obtain ⟨o, h1, h2, h3⟩ := v
  have e1 : wh (l.drop mon) 12 1 = (M : Int) := by rw [hm, wh_nm (M - 1) (by omega) r 12 1 rfl (by decide) (by omega)]; omega
  have e2 : dgt 2 0 (l.drop c) = (H : Int) := by rw [hc]; unfold clk; exact dgt2 H (by omega) _
  have d3 : l.drop (c + 3) = D2 Mi ++ ([58] ++ (D2 S ++ q)) := by rw [← List.drop_drop, hc]; rfl
  have d6 : l.drop (c + 6) = D2 S ++ q := by rw [← List.drop_drop, hc]; rfl
  have e3 : dgt 2 0 (l.drop (c + 3)) = (Mi : Int) := by rw [d3]; exact dgt2 Mi (by omega) _
  have e4 : dgt 2 0 (l.drop (c + 6)) = (S : Int) := by rw [d6]; exact dgt2 S (by omega) _
  unfold gs
  rw [e1, e2, e3, e4, if_neg (by omega), if_pos ⟨o, by omega, by omega, by omega⟩]
  rfl
set_option linter.unusedSimpArgs false
set_option linter.unusedVariables false
def r2y (v : Int) : Int := if v ≥ 70 then v + 1900 else v + 2000
def d3 (l : Bs) : Int := if dgt 2 0 (l.drop 8) < 0 then dgt 1 0 (l.drop 9) else dgt 2 0 (l.drop 8)
def rp1 (l : Bs) : Int := gs l (dgt 4 0 (l.drop 12)) (dgt 2 0 (l.drop 5)) 8 17
def rp2 (l : Bs) (i : Nat) : Int := gs l (r2y (dgt 2 0 (l.drop (i + 9)))) (dgt 2 0 (l.drop (i + 2))) (i + 5) (i + 12)
def rp3 (l : Bs) : Int := gs l (dgt 4 0 (l.drop 20)) (d3 l) 4 11
theorem drop_at (A X : Bs) (n m : Nat) (h : A.length = n) : (A ++ X).drop (n + m) = X.drop m := by
  rw [← List.drop_drop, List.drop_left' h]
theorem rp1_of (y m d h mi s : Nat) (v : Vd y m d h mi s) : rp1 (F1 y m d h mi s) = sec y m d h mi s := by
  have hb := v.ok
  obtain ⟨b1, b2, b3, b4, b5, b6⟩ := hb
  have hL := Lg_bd y m
  have hw := wdn_len _ (wdy_lt y m d)
  have lw : ((wdn (wdy y m d)).take 3).length = 3 := by rw [List.length_take]; omega
  have ln := nm_len (m - 1) (by omega)
  have d5 : (F1 y m d h mi s).drop 5 = D2 d ++ ([32] ++ (nm (m - 1) ++ ([32] ++ (D4 y ++ ([32] ++ clk h mi s ([32, 71, 77, 84] ++ [])))))) := by
    unfold F1 t1; exact drop_at _ _ 3 2 lw
  have d8 : (F1 y m d h mi s).drop 8 = nm (m - 1) ++ ([32] ++ (D4 y ++ ([32] ++ clk h mi s ([32, 71, 77, 84] ++ [])))) := by
    rw [show 8 = 5 + 3 from rfl, ← List.drop_drop, d5]; rfl
  have d12 : (F1 y m d h mi s).drop 12 = D4 y ++ ([32] ++ clk h mi s ([32, 71, 77, 84] ++ [])) := by
    rw [show 12 = 8 + (3 + 1) from rfl, ← List.drop_drop, d8, drop_at _ _ 3 1 ln]; rfl
  have d17 : (F1 y m d h mi s).drop 17 = clk h mi s ([32, 71, 77, 84] ++ []) := by
    rw [show 17 = 12 + 5 from rfl, ← List.drop_drop, d12]; rfl
  unfold rp1
  exact gs_of _ _ _ 8 17 y m d h mi s v (by rw [d12, dgt4 y (by omega)]) (by rw [d5, dgt2 d (by omega)]) ⟨_, d8⟩ ⟨_, d17⟩
theorem rp2_of (y m d h mi s : Nat) (v : Vd y m d h mi s) (hy : y ≤ 2069) : rp2 (F2 y m d h mi s) (wdn (wdy y m d)).length = sec y m d h mi s ∧ (F2 y m d h mi s)[(wdn (wdy y m d)).length]? = some 44 := by
  have hb := v.ok
  obtain ⟨b1, b2, b3, b4, b5, b6⟩ := hb
  have hL := Lg_bd y m
  have ln := nm_len (m - 1) (by omega)
  generalize ha : (wdn (wdy y m d)).length = a
  have d2 : (F2 y m d h mi s).drop (a + 2) = D2 d ++ ([45] ++ (nm (m - 1) ++ ([45] ++ (D2 (y % 100) ++ ([32] ++ clk h mi s ([32, 71, 77, 84] ++ [])))))) := by
    unfold F2 t2; exact drop_at _ _ a 2 ha
  have d5 : (F2 y m d h mi s).drop (a + 5) = nm (m - 1) ++ ([45] ++ (D2 (y % 100) ++ ([32] ++ clk h mi s ([32, 71, 77, 84] ++ [])))) := by
    rw [show a + 5 = a + 2 + 3 from rfl, ← List.drop_drop, d2]; rfl
  have d9 : (F2 y m d h mi s).drop (a + 9) = D2 (y % 100) ++ ([32] ++ clk h mi s ([32, 71, 77, 84] ++ [])) := by
    rw [show a + 9 = a + 5 + (3 + 1) from rfl, ← List.drop_drop, d5, drop_at _ _ 3 1 ln]; rfl
  have d12 : (F2 y m d h mi s).drop (a + 12) = clk h mi s ([32, 71, 77, 84] ++ []) := by
    rw [show a + 12 = a + 9 + 3 from rfl, ← List.drop_drop, d9]; rfl
  refine ⟨?_, ?_⟩
  · unfold rp2
    exact gs_of _ _ _ _ _ y m d h mi s v (by rw [d9, dgt2 (y % 100) (by omega)]; unfold r2y; split <;> omega) (by rw [d2, dgt2 d (by omega)]) ⟨_, d5⟩ ⟨_, d12⟩
  · unfold F2 t2
    rw [List.getElem?_append_right (by omega), ha, Nat.sub_self]; rfl
theorem rp3_of (y m d h mi s : Nat) (v : Vd y m d h mi s) : rp3 (F3 y m d h mi s) = sec y m d h mi s := by
  have hb := v.ok
  obtain ⟨b1, b2, b3, b4, b5, b6⟩ := hb
  have hL := Lg_bd y m
  have hw := wdn_len _ (wdy_lt y m d)
  have lw : ((wdn (wdy y m d)).take 3).length = 3 := by rw [List.length_take]; omega
  have ln := nm_len (m - 1) (by omega)
  have ls : (sd d).length = 2 := by unfold sd; split <;> rfl
  have d4 : (F3 y m d h mi s).drop 4 = nm (m - 1) ++ ([32] ++ (sd d ++ ([32] ++ clk h mi s ([32] ++ (D4 y ++ []))))) := by
    unfold F3 t3; exact drop_at _ _ 3 1 lw
  have d8 : (F3 y m d h mi s).drop 8 = sd d ++ ([32] ++ clk h mi s ([32] ++ (D4 y ++ []))) := by
    rw [show 8 = 4 + (3 + 1) from rfl, ← List.drop_drop, d4, drop_at _ _ 3 1 ln]; rfl
  have d11 : (F3 y m d h mi s).drop 11 = clk h mi s ([32] ++ (D4 y ++ [])) := by
    rw [show 11 = 8 + (2 + 1) from rfl, ← List.drop_drop, d8, drop_at _ _ 2 1 ls]; rfl
  have d20 : (F3 y m d h mi s).drop 20 = D4 y ++ [] := by
    rw [show 20 = 11 + 9 from rfl, ← List.drop_drop, d11]; rfl
  have d9 : (F3 y m d h mi s).drop 9 = (sd d ++ ([32] ++ clk h mi s ([32] ++ (D4 y ++ [])))).drop 1 := by
    rw [show 9 = 8 + 1 from rfl, ← List.drop_drop, d8]
  have hd : d3 (F3 y m d h mi s) = d := by
    unfold d3
    rw [d8, d9]
    unfold sd
    by_cases h10 : d < 10
    · rw [if_pos h10]
      have e1 : dgt 2 0 (([32] ++ D1 d) ++ ([32] ++ clk h mi s ([32] ++ (D4 y ++ [])))) = -1 := rfl
      rw [e1, if_pos (by decide)]
      exact dgt1 d h10 _
    · rw [if_neg h10, dgt2 d (by omega), if_neg (by omega)]
  unfold rp3
  exact gs_of _ _ _ 4 11 y m d h mi s v (by rw [d20, dgt4 y (by omega)]) hd ⟨_, d4⟩ ⟨_, d11⟩
def Tell (l : Bs) (o : Option (Int × Int)) (N : Prop) : Prop := (∃ a, o = some (a, 0) ∧ found l = some a) ∨ (o = some (0, 2) ∧ N)
def No3 (l : Bs) : Prop := ¬ ∃ y m d h mi s, Vd y m d h mi s ∧ l = F3 y m d h mi s
def No2 (l : Bs) (j : Nat) : Prop := ∀ i, j ≤ i → i < 12 → ¬ ∃ y m d h mi s, Vd y m d h mi s ∧ y ≤ 2069 ∧ l = F2 y m d h mi s ∧ (wdn (wdy y m d)).length = i
theorem Tell.more {l : Bs} {o : Option (Int × Int)} {N N' : Prop} (h : Tell l o N) (f : N → N') : Tell l o N' := by
  rcases h with h | ⟨h1, h2⟩
  · exact Or.inl h
  · exact Or.inr ⟨h1, f h2⟩
theorem no2_step (l : Bs) (j : Nat) (h : No2 l (j + 1)) (h0 : ¬ ∃ y m d h mi s, Vd y m d h mi s ∧ y ≤ 2069 ∧ l = F2 y m d h mi s ∧ (wdn (wdy y m d)).length = j) : No2 l j := by
  intro i h1 h2
  rcases Nat.lt_or_ge j i with g | g
  · exact h i g h2
  · obtain rfl : i = j := by omega
    exact h0
theorem no2_end (l : Bs) (j : Nat) (hj : j ≥ 12 ∨ j ≥ l.length) : No2 l j := by
  rintro i h1 h2 ⟨y, m, d, hh, mi, s, v, hy, rfl, rfl⟩
  have := (rp2_of y m d hh mi s v hy).2
  obtain ⟨hlt, _⟩ := List.getElem?_eq_some_iff.1 this
  omega
end Go.Proofs.YtkjjegjafpefcaaDoor.Pure
