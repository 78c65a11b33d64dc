import Derived.Test.YtpddbfodjeoofaaPDatex2
import Derived.Test.YtpddbfodjeoofaaDateD
/- What the readers read, as equations on lists; the day of a number; digits. -/
namespace Go.Proofs.Ytpddbfodjeoofaa.Pure
open Go.RowKit Go.Proofs.Ytpddbfodjeoofaa.PDate Go.Proofs.YtpddbfodjeoofaaW.PrintWords Go.Proofs.YtpddbfodjeoofaaW.PrintLast
set_option linter.unusedSimpArgs false
set_option linter.unusedVariables false

def D1 (n : Nat) : Bs := [UInt8.ofNat (48 + n)]
def D2 (n : Nat) : Bs := [UInt8.ofNat (48 + n / 10), UInt8.ofNat (48 + n % 10)]
def D4 (n : Nat) : Bs := [UInt8.ofNat (48 + n / 1000), UInt8.ofNat (48 + n / 100 % 10), UInt8.ofNat (48 + n / 10 % 10), UInt8.ofNat (48 + n % 10)]
theorem un (n : Nat) (h : n < 256) : (UInt8.ofNat n).toNat = n := by simp; omega
theorem dig_of (n : Nat) (h : n < 10) : dig (UInt8.ofNat (48 + n)) = true := by unfold dig; rw [un _ (by omega)]; simp; omega
theorem of_dig (c : UInt8) (h : dig c = true) : ∃ n, n < 10 ∧ c = UInt8.ofNat (48 + n) ∧ c.toNat = 48 + n := by
  simp [dig] at h
  refine ⟨c.toNat - 48, by omega, ?_, by omega⟩
  rw [show 48 + (c.toNat - 48) = c.toNat by omega]; simp
theorem pn1_iff (most v : Int) (l m : Bs) : pn 1 most l = some (v, m) ↔ ∃ n : Nat, n < 10 ∧ v = n ∧ (n : Int) ≤ most ∧ l = D1 n ++ m := by
  unfold pn
  constructor
  · intro h
    split at h
    · rename_i hc
      obtain ⟨h1, h2, h3⟩ := hc
      rcases l with _ | ⟨a, l⟩
      · simp at h1
      · simp only [List.take_succ_cons, List.take_zero, List.all_cons, List.all_nil, Bool.and_true] at h2 h3 h
        obtain ⟨x, hx, rfl, ex⟩ := of_dig a h2
        simp only [val, List.foldl_cons, List.foldl_nil, ex] at h3 h
        simp only [Option.some.injEq, Prod.mk.injEq, List.drop_succ_cons, List.drop_zero] at h
        exact ⟨x, hx, by omega, by omega, by rw [← h.2]; rfl⟩
    · cases h
  · rintro ⟨n, hn, rfl, hm, rfl⟩
    have hv : val (D1 n) = n := by simp only [val, D1, List.foldl_cons, List.foldl_nil]; rw [un _ (by omega)]; omega
    have ht : (D1 n ++ m).take 1 = D1 n := rfl
    have hd : (D1 n ++ m).drop 1 = m := rfl
    have ha : (D1 n).all dig = true := by simp only [D1, List.all_cons, List.all_nil, Bool.and_true]; exact dig_of n hn
    rw [ht, hd, hv, if_pos ⟨by simp [D1], ha, hm⟩]
theorem pn2_iff (most v : Int) (l m : Bs) : pn 2 most l = some (v, m) ↔ ∃ n : Nat, n < 100 ∧ v = n ∧ (n : Int) ≤ most ∧ l = D2 n ++ m := by
  unfold pn
  constructor
  · intro h
    split at h
    · rename_i hc
      obtain ⟨h1, h2, h3⟩ := hc
      rcases l with _ | ⟨a, _ | ⟨b, l⟩⟩
      · simp at h1
      · simp at h1
      · simp only [List.take_succ_cons, List.take_zero, List.all_cons, List.all_nil, Bool.and_true, Bool.and_eq_true] at h2 h3 h
        obtain ⟨x, hx, rfl, ex⟩ := of_dig a h2.1
        obtain ⟨y, hy, rfl, ey⟩ := of_dig b h2.2
        simp only [val, List.foldl_cons, List.foldl_nil, ex, ey] at h3 h
        simp only [Option.some.injEq, Prod.mk.injEq, List.drop_succ_cons, List.drop_zero] at h
        refine ⟨10 * x + y, by omega, by omega, by omega, ?_⟩
        rw [← h.2]
        simp only [D2, List.cons_append, List.nil_append]
        rw [show (10 * x + y) / 10 = x by omega, show (10 * x + y) % 10 = y by omega]
    · cases h
  · rintro ⟨n, hn, rfl, hm, rfl⟩
    have hv : val (D2 n) = n := by simp only [val, D2, List.foldl_cons, List.foldl_nil]; rw [un _ (by omega), un _ (by omega)]; omega
    have ht : (D2 n ++ m).take 2 = D2 n := rfl
    have hd : (D2 n ++ m).drop 2 = m := rfl
    have ha : (D2 n).all dig = true := by simp only [D2, List.all_cons, List.all_nil, Bool.and_true, Bool.and_eq_true]; exact ⟨dig_of _ (by omega), dig_of _ (by omega)⟩
    rw [ht, hd, hv, if_pos ⟨by simp [D2], ha, hm⟩]
theorem pn4_iff (most v : Int) (l m : Bs) : pn 4 most l = some (v, m) ↔ ∃ n : Nat, n < 10000 ∧ v = n ∧ (n : Int) ≤ most ∧ l = D4 n ++ m := by
  unfold pn
  constructor
  · intro h
    split at h
    · rename_i hc
      obtain ⟨h1, h2, h3⟩ := hc
      rcases l with _ | ⟨a, _ | ⟨b, _ | ⟨c, _ | ⟨e, l⟩⟩⟩⟩
      · simp at h1
      · simp at h1
      · simp at h1
      · simp at h1
      · simp only [List.take_succ_cons, List.take_zero, List.all_cons, List.all_nil, Bool.and_true, Bool.and_eq_true] at h2 h3 h
        obtain ⟨x, hx, rfl, ex⟩ := of_dig a h2.1
        obtain ⟨y, hy, rfl, ey⟩ := of_dig b h2.2.1
        obtain ⟨z, hz, rfl, ez⟩ := of_dig c h2.2.2.1
        obtain ⟨u, hu, rfl, eu⟩ := of_dig e h2.2.2.2
        simp only [val, List.foldl_cons, List.foldl_nil, ex, ey, ez, eu] at h3 h
        simp only [Option.some.injEq, Prod.mk.injEq, List.drop_succ_cons, List.drop_zero] at h
        refine ⟨1000 * x + 100 * y + 10 * z + u, by omega, by omega, by omega, ?_⟩
        rw [← h.2]
        simp only [D4, List.cons_append, List.nil_append]
        rw [show (1000 * x + 100 * y + 10 * z + u) / 1000 = x by omega, show (1000 * x + 100 * y + 10 * z + u) / 100 % 10 = y by omega, show (1000 * x + 100 * y + 10 * z + u) / 10 % 10 = z by omega, show (1000 * x + 100 * y + 10 * z + u) % 10 = u by omega]
    · cases h
  · rintro ⟨n, hn, rfl, hm, rfl⟩
    have hv : val (D4 n) = n := by simp only [val, D4, List.foldl_cons, List.foldl_nil]; rw [un _ (by omega), un _ (by omega), un _ (by omega), un _ (by omega)]; omega
    have ht : (D4 n ++ m).take 4 = D4 n := rfl
    have hd : (D4 n ++ m).drop 4 = m := rfl
    have ha : (D4 n).all dig = true := by simp only [D4, List.all_cons, List.all_nil, Bool.and_true, Bool.and_eq_true]; exact ⟨dig_of _ (by omega), dig_of _ (by omega), dig_of _ (by omega), dig_of _ (by omega)⟩
    rw [ht, hd, hv, if_pos ⟨by simp [D4], ha, hm⟩]
def clk (h mi s : Nat) (r : Bs) : Bs := D2 h ++ ([58] ++ (D2 mi ++ ([58] ++ (D2 s ++ r))))
theorem pc_iff (l m : Bs) (v : Int) : pc l = some (v, m) ↔ ∃ h mi s : Nat, h ≤ 23 ∧ mi ≤ 59 ∧ s ≤ 59 ∧ v = 3600 * h + 60 * mi + s ∧ l = clk h mi s m := by
  unfold pc clk
  constructor
  · intro h
    obtain ⟨⟨a, l1⟩, h1, h⟩ := Option.bind_eq_some_iff.1 h
    obtain ⟨⟨_, l2⟩, h2, h⟩ := Option.bind_eq_some_iff.1 h
    obtain ⟨⟨b, l3⟩, h3, h⟩ := Option.bind_eq_some_iff.1 h
    obtain ⟨⟨_, l4⟩, h4, h⟩ := Option.bind_eq_some_iff.1 h
    obtain ⟨⟨c, l5⟩, h5, h⟩ := Option.bind_eq_some_iff.1 h
    obtain ⟨n1, _, rfl, b1, rfl⟩ := (pn2_iff _ _ _ _).1 h1
    obtain rfl := (pw_iff _ _ _).1 h2
    obtain ⟨n2, _, rfl, b2, rfl⟩ := (pn2_iff _ _ _ _).1 h3
    obtain rfl := (pw_iff _ _ _).1 h4
    obtain ⟨n3, _, rfl, b3, rfl⟩ := (pn2_iff _ _ _ _).1 h5
    simp only [Option.some.injEq, Prod.mk.injEq] at h
    exact ⟨n1, n2, n3, by omega, by omega, by omega, by omega, by rw [← h.2]⟩
  · rintro ⟨h, mi, s, b1, b2, b3, rfl, rfl⟩
    rw [(pn2_iff 23 h _ _).2 ⟨h, by omega, rfl, by omega, rfl⟩]; simp only [Option.bind_some]
    rw [(pw_iff _ _ _).2 rfl]; simp only [Option.bind_some]
    rw [(pn2_iff 59 mi _ _).2 ⟨mi, by omega, rfl, by omega, rfl⟩]; simp only [Option.bind_some]
    rw [(pw_iff _ _ _).2 rfl]; simp only [Option.bind_some]
    rw [(pn2_iff 59 s _ _).2 ⟨s, by omega, rfl, by omega, rfl⟩]; simp only [Option.bind_some]
/-- What stands behind the weekday in the three forms. -/
def t1 (y m d h mi s : Nat) (r : Bs) : Bs := [44, 32] ++ (D2 d ++ ([32] ++ (nm (m - 1) ++ ([32] ++ (D4 y ++ ([32] ++ clk h mi s ([32, 71, 77, 84] ++ r)))))))
def t2 (y m d h mi s : Nat) (r : Bs) : Bs := [44, 32] ++ (D2 d ++ ([45] ++ (nm (m - 1) ++ ([45] ++ (D2 y ++ ([32] ++ clk h mi s ([32, 71, 77, 84] ++ r)))))))
def sd (d : Nat) : Bs := if d < 10 then [32] ++ D1 d else D2 d
def t3 (y m d h mi s : Nat) (r : Bs) : Bs := [32] ++ (nm (m - 1) ++ ([32] ++ (sd d ++ ([32] ++ clk h mi s ([32] ++ (D4 y ++ r))))))
theorem p1_iff (l r : Bs) (y m d s : Int) : p1 l = some ((y, m, d, s), r) ↔ ∃ Y M D h mi sc : Nat, Y < 10000 ∧ 1 ≤ M ∧ M ≤ 12 ∧ D ≤ 31 ∧ h ≤ 23 ∧ mi ≤ 59 ∧ sc ≤ 59 ∧ y = Y ∧ m = M ∧ d = D ∧ s = 3600 * h + 60 * mi + sc ∧ l = t1 Y M D h mi sc r := by
  unfold p1 t1
  constructor
  · intro h
    obtain ⟨⟨_, l1⟩, h1, h⟩ := Option.bind_eq_some_iff.1 h
    obtain ⟨⟨a2, l2⟩, h2, h⟩ := Option.bind_eq_some_iff.1 h
    obtain ⟨⟨_, l3⟩, h3, h⟩ := Option.bind_eq_some_iff.1 h
    obtain ⟨⟨a4, l4⟩, h4, h⟩ := Option.bind_eq_some_iff.1 h
    obtain ⟨⟨_, l5⟩, h5, h⟩ := Option.bind_eq_some_iff.1 h
    obtain ⟨⟨a6, l6⟩, h6, h⟩ := Option.bind_eq_some_iff.1 h
    obtain ⟨⟨_, l7⟩, h7, h⟩ := Option.bind_eq_some_iff.1 h
    obtain ⟨⟨a8, l8⟩, h8, h⟩ := Option.bind_eq_some_iff.1 h
    obtain ⟨⟨_, l9⟩, h9, h⟩ := Option.bind_eq_some_iff.1 h
    obtain rfl := (pw_iff _ _ _).1 h1
    obtain ⟨n2, _, rfl, b2, rfl⟩ := (pn2_iff _ _ _ _).1 h2
    obtain rfl := (pw_iff _ _ _).1 h3
    obtain ⟨i, hi, rfl, rfl⟩ := (pm_iff _ _ _).1 h4
    obtain rfl := (pw_iff _ _ _).1 h5
    obtain ⟨n6, _, rfl, b6, rfl⟩ := (pn4_iff _ _ _ _).1 h6
    obtain rfl := (pw_iff _ _ _).1 h7
    obtain ⟨hh, mi, sc, c1, c2, c3, rfl, rfl⟩ := (pc_iff _ _ _).1 h8
    obtain rfl := (pw_iff _ _ _).1 h9
    simp only [Option.some.injEq, Prod.mk.injEq] at h
    obtain ⟨⟨g1, g2, g3, g4⟩, g5⟩ := h
    exact ⟨n6, i + 1, n2, hh, mi, sc, by omega, by omega, by omega, by omega, c1, c2, c3, by omega, by omega, by omega, by omega, by rw [← g5]; rfl⟩
  · rintro ⟨Y, M, D, h, mi, sc, b1, b2, b3, b4, b5, b6, b7, rfl, rfl, rfl, rfl, rfl⟩
    rw [(pw_iff _ _ _).2 rfl]; simp only [Option.bind_some]
    rw [(pn2_iff 31 D _ _).2 ⟨D, by omega, rfl, by omega, rfl⟩]; simp only [Option.bind_some]
    rw [(pw_iff _ _ _).2 rfl]; simp only [Option.bind_some]
    rw [(pm_iff _ _ (M : Int)).2 ⟨M - 1, by omega, by omega, rfl⟩]; simp only [Option.bind_some]
    rw [(pw_iff _ _ _).2 rfl]; simp only [Option.bind_some]
    rw [(pn4_iff 9999 Y _ _).2 ⟨Y, by omega, rfl, by omega, rfl⟩]; simp only [Option.bind_some]
    rw [(pw_iff _ _ _).2 rfl]; simp only [Option.bind_some]
    rw [(pc_iff _ _ (3600 * h + 60 * mi + sc)).2 ⟨h, mi, sc, b5, b6, b7, rfl, rfl⟩]; simp only [Option.bind_some]
    rw [(pw_iff _ _ _).2 rfl]; simp only [Option.bind_some]
theorem p2_iff (l r : Bs) (y m d s : Int) : p2 l = some ((y, m, d, s), r) ↔ ∃ Y M D h mi sc : Nat, Y < 100 ∧ 1 ≤ M ∧ M ≤ 12 ∧ D ≤ 31 ∧ h ≤ 23 ∧ mi ≤ 59 ∧ sc ≤ 59 ∧ y = (if Y < 70 then (Y : Int) + 2000 else Y + 1900) ∧ m = M ∧ d = D ∧ s = 3600 * h + 60 * mi + sc ∧ l = t2 Y M D h mi sc r := by
  unfold p2 t2
  constructor
  · intro h
    obtain ⟨⟨_, l1⟩, h1, h⟩ := Option.bind_eq_some_iff.1 h
    obtain ⟨⟨a2, l2⟩, h2, h⟩ := Option.bind_eq_some_iff.1 h
    obtain ⟨⟨_, l3⟩, h3, h⟩ := Option.bind_eq_some_iff.1 h
    obtain ⟨⟨a4, l4⟩, h4, h⟩ := Option.bind_eq_some_iff.1 h
    obtain ⟨⟨_, l5⟩, h5, h⟩ := Option.bind_eq_some_iff.1 h
    obtain ⟨⟨a6, l6⟩, h6, h⟩ := Option.bind_eq_some_iff.1 h
    obtain ⟨⟨_, l7⟩, h7, h⟩ := Option.bind_eq_some_iff.1 h
    obtain ⟨⟨a8, l8⟩, h8, h⟩ := Option.bind_eq_some_iff.1 h
    obtain ⟨⟨_, l9⟩, h9, h⟩ := Option.bind_eq_some_iff.1 h
    obtain rfl := (pw_iff _ _ _).1 h1
    obtain ⟨n2, _, rfl, b2, rfl⟩ := (pn2_iff _ _ _ _).1 h2
    obtain rfl := (pw_iff _ _ _).1 h3
    obtain ⟨i, hi, rfl, rfl⟩ := (pm_iff _ _ _).1 h4
    obtain rfl := (pw_iff _ _ _).1 h5
    obtain ⟨n6, _, rfl, b6, rfl⟩ := (pn2_iff _ _ _ _).1 h6
    obtain rfl := (pw_iff _ _ _).1 h7
    obtain ⟨hh, mi, sc, c1, c2, c3, rfl, rfl⟩ := (pc_iff _ _ _).1 h8
    obtain rfl := (pw_iff _ _ _).1 h9
    simp only [Option.some.injEq, Prod.mk.injEq] at h
    obtain ⟨⟨g1, g2, g3, g4⟩, g5⟩ := h
    refine ⟨n6, i + 1, n2, hh, mi, sc, by omega, by omega, by omega, by omega, c1, c2, c3, ?_, by omega, by omega, by omega, by rw [← g5]; rfl⟩
    rw [← g1]; split <;> split <;> omega
  · rintro ⟨Y, M, D, h, mi, sc, b1, b2, b3, b4, b5, b6, b7, rfl, rfl, rfl, rfl, rfl⟩
    rw [(pw_iff _ _ _).2 rfl]; simp only [Option.bind_some]
    rw [(pn2_iff 31 D _ _).2 ⟨D, by omega, rfl, by omega, rfl⟩]; simp only [Option.bind_some]
    rw [(pw_iff _ _ _).2 rfl]; simp only [Option.bind_some]
    rw [(pm_iff _ _ (M : Int)).2 ⟨M - 1, by omega, by omega, rfl⟩]; simp only [Option.bind_some]
    rw [(pw_iff _ _ _).2 rfl]; simp only [Option.bind_some]
    rw [(pn2_iff 9999 Y _ _).2 ⟨Y, by omega, rfl, by omega, rfl⟩]; simp only [Option.bind_some]
    rw [(pw_iff _ _ _).2 rfl]; simp only [Option.bind_some]
    rw [(pc_iff _ _ (3600 * h + 60 * mi + sc)).2 ⟨h, mi, sc, b5, b6, b7, rfl, rfl⟩]; simp only [Option.bind_some]
    rw [(pw_iff _ _ _).2 rfl]; simp only [Option.bind_some]
    congr 3
    by_cases hY : Y < 70
    · rw [if_pos hY, if_pos (by omega)]
    · rw [if_neg hY, if_neg (by omega)]
theorem p3r_iff (l r : Bs) (M D y m d s : Int) : p3r M D l = some ((y, m, d, s), r) ↔ ∃ Y h mi sc : Nat, Y < 10000 ∧ h ≤ 23 ∧ mi ≤ 59 ∧ sc ≤ 59 ∧ y = Y ∧ m = M ∧ d = D ∧ s = 3600 * h + 60 * mi + sc ∧ l = [32] ++ clk h mi sc ([32] ++ (D4 Y ++ r)) := by
  unfold p3r
  constructor
  · intro h
    obtain ⟨⟨_, l7⟩, h7, h⟩ := Option.bind_eq_some_iff.1 h
    obtain ⟨⟨a8, l8⟩, h8, h⟩ := Option.bind_eq_some_iff.1 h
    obtain ⟨⟨_, l9⟩, h9, h⟩ := Option.bind_eq_some_iff.1 h
    obtain ⟨⟨a6, l6⟩, h6, h⟩ := Option.bind_eq_some_iff.1 h
    obtain rfl := (pw_iff _ _ _).1 h7
    obtain ⟨hh, mi, sc, c1, c2, c3, rfl, rfl⟩ := (pc_iff _ _ _).1 h8
    obtain rfl := (pw_iff _ _ _).1 h9
    obtain ⟨n6, _, rfl, b6, rfl⟩ := (pn4_iff _ _ _ _).1 h6
    simp only [Option.some.injEq, Prod.mk.injEq] at h
    obtain ⟨⟨g1, g2, g3, g4⟩, g5⟩ := h
    exact ⟨n6, hh, mi, sc, by omega, c1, c2, c3, by omega, by omega, by omega, by omega, by rw [← g5]⟩
  · rintro ⟨Y, h, mi, sc, b1, b5, b6, b7, rfl, rfl, rfl, rfl, rfl⟩
    rw [(pw_iff _ _ _).2 rfl]; simp only [Option.bind_some]
    rw [(pc_iff _ _ (3600 * h + 60 * mi + sc)).2 ⟨h, mi, sc, b5, b6, b7, rfl, rfl⟩]; simp only [Option.bind_some]
    rw [(pw_iff _ _ _).2 rfl]; simp only [Option.bind_some]
    rw [(pn4_iff 9999 Y _ _).2 ⟨Y, by omega, rfl, by omega, rfl⟩]; simp only [Option.bind_some]
theorem p3_iff (l r : Bs) (y m d s : Int) : p3 l = some ((y, m, d, s), r) ↔ ∃ Y M D h mi sc : Nat, Y < 10000 ∧ 1 ≤ M ∧ M ≤ 12 ∧ D ≤ 31 ∧ h ≤ 23 ∧ mi ≤ 59 ∧ sc ≤ 59 ∧ y = Y ∧ m = M ∧ d = D ∧ s = 3600 * h + 60 * mi + sc ∧ l = t3 Y M D h mi sc r := by
  unfold p3 t3
  constructor
  · intro h
    obtain ⟨⟨_, l1⟩, h1, h⟩ := Option.bind_eq_some_iff.1 h
    obtain ⟨⟨a4, l4⟩, h4, h⟩ := Option.bind_eq_some_iff.1 h
    obtain ⟨⟨_, l5⟩, h5, hf⟩ := Option.bind_eq_some_iff.1 h
    clear h
    obtain rfl := (pw_iff _ _ _).1 h1
    obtain ⟨i, hi, rfl, rfl⟩ := (pm_iff _ _ _).1 h4
    obtain rfl := (pw_iff _ _ _).1 h5
    by_cases hb : hp l5 [32] = true
    · rw [if_pos hb] at hf
      obtain ⟨⟨_, l6⟩, h6, hf2⟩ := Option.bind_eq_some_iff.1 hf
      obtain ⟨⟨a7, l7⟩, h7, h⟩ := Option.bind_eq_some_iff.1 hf2
      obtain rfl := (pw_iff _ _ _).1 h6
      obtain ⟨n, hn, rfl, b2, rfl⟩ := (pn1_iff _ _ _ _).1 h7
      obtain ⟨Y, hh, mi, sc, c0, c1, c2, c3, rfl, rfl, rfl, rfl, e⟩ := (p3r_iff _ _ _ _ _ _ _ _).1 h
      simp only at e
      subst e
      exact ⟨Y, i + 1, n, hh, mi, sc, by omega, by omega, by omega, by omega, c1, c2, c3, rfl, by simp, rfl, rfl, by unfold sd; rw [if_pos hn]; simp⟩
    · rw [if_neg hb] at hf
      obtain ⟨⟨a7, l7⟩, h7, h⟩ := Option.bind_eq_some_iff.1 hf
      obtain ⟨n, hn, rfl, b2, rfl⟩ := (pn2_iff _ _ _ _).1 h7
      by_cases g : (n : Int) < 10
      · rw [if_pos g] at h; cases h
      · rw [if_neg g] at h
        obtain ⟨Y, hh, mi, sc, c0, c1, c2, c3, rfl, rfl, rfl, rfl, e⟩ := (p3r_iff _ _ _ _ _ _ _ _).1 h
        simp only at e
        subst e
        exact ⟨Y, i + 1, n, hh, mi, sc, by omega, by omega, by omega, by omega, c1, c2, c3, rfl, by simp, rfl, rfl, by unfold sd; rw [if_neg (by omega)]; simp⟩
  · rintro ⟨Y, M, D, h, mi, sc, b1, b2, b3, b4, b5, b6, b7, rfl, rfl, rfl, rfl, rfl⟩
    rw [(pw_iff _ _ _).2 rfl]; simp only [Option.bind_some]
    rw [(pm_iff _ _ (M : Int)).2 ⟨M - 1, by omega, by omega, rfl⟩]; simp only [Option.bind_some]
    rw [(pw_iff _ _ _).2 rfl]; simp only [Option.bind_some]
    unfold sd
    by_cases hD : D < 10
    · rw [if_pos hD, List.append_assoc, if_pos ((hp_iff _ _).2 ⟨_, rfl⟩), (pw_iff _ _ _).2 rfl]; simp only [Option.bind_some]
      rw [(pn1_iff 9 D _ _).2 ⟨D, by omega, rfl, by omega, rfl⟩]; simp only [Option.bind_some]
      exact (p3r_iff _ _ _ _ _ _ _ _).2 ⟨Y, h, mi, sc, b1, b5, b6, b7, rfl, rfl, rfl, rfl, rfl⟩
    · rw [if_neg hD]
      have hne : ¬ hp (D2 D ++ ([32] ++ clk h mi sc ([32] ++ (D4 Y ++ r)))) [32] = true := by
        intro g
        obtain ⟨q, hq⟩ := (hp_iff _ _).1 g
        have := congrArg (fun l => l.headD 0) hq
        simp only [D2, List.cons_append, List.headD_cons, List.nil_append] at this
        have := congrArg UInt8.toNat this
        rw [un _ (by omega)] at this
        simp at this
        omega
      rw [if_neg hne, (pn2_iff 31 D _ _).2 ⟨D, by omega, rfl, by omega, rfl⟩]; simp only [Option.bind_some]
      rw [if_neg (by omega)]
      exact (p3r_iff _ _ _ _ _ _ _ _).2 ⟨Y, h, mi, sc, b1, b5, b6, b7, rfl, rfl, rfl, rfl, rfl⟩
end Go.Proofs.Ytpddbfodjeoofaa.Pure
