/- Texts of this session's own, as far as they are used here. -/
import Derived.Test.YtpddbfodjeoofaaKPDatex5
import Derived.Test.YtpddbfodjeoofaaKDateC
namespace Go.Proofs.Ytpddbfodjeoofaa.Pure
open Go.RowKit Go.Proofs.Ytpddbfodjeoofaa.PDate Go.Proofs.YtpddbfodjeoofaaW.PrintWords Go.Proofs.YtpddbfodjeoofaaW.PrintLast
set_option linter.unusedSimpArgs false
set_option linter.unusedVariables false

def WD : List Bs := [[83, 117, 110, 100, 97, 121], [77, 111, 110, 100, 97, 121], [84, 117, 101, 115, 100, 97, 121], [87, 101, 100, 110, 101, 115, 100, 97, 121], [84, 104, 117, 114, 115, 100, 97, 121], [70, 114, 105, 100, 97, 121], [83, 97, 116, 117, 114, 100, 97, 121]]
def wdn (i : Nat) : Bs := WD.getD i []
theorem wdn_len : ∀ i, i < 7 → 6 ≤ (wdn i).length ∧ (wdn i).length ≤ 9 := by decide
theorem arr_wd : ∀ j : Nat, j < 7 → arrAt [(⟨#[83, 117, 110, 100, 97, 121]⟩ : ByteArray), (⟨#[77, 111, 110, 100, 97, 121]⟩ : ByteArray), (⟨#[84, 117, 101, 115, 100, 97, 121]⟩ : ByteArray), (⟨#[87, 101, 100, 110, 101, 115, 100, 97, 121]⟩ : ByteArray), (⟨#[84, 104, 117, 114, 115, 100, 97, 121]⟩ : ByteArray), (⟨#[70, 114, 105, 100, 97, 121]⟩ : ByteArray), (⟨#[83, 97, 116, 117, 114, 100, 97, 121]⟩ : ByteArray)] (⟨#[]⟩ : ByteArray) (j : Int) = B (wdn j) := by
  intro j h
  have : j = 0 ∨ j = 1 ∨ j = 2 ∨ j = 3 ∨ j = 4 ∨ j = 5 ∨ j = 6 := by omega
  rcases this with rfl | rfl | rfl | rfl | rfl | rfl | rfl <;> rfl
def wname (full : Bool) (w : Nat) : Bs := if full = true then wdn w else (wdn w).take 3
def suc (p : Bs → Option (Day × Bs)) (full : Bool) (l : Bs) (w : Nat) : Option Int :=
  (pw (wname full w) l).bind fun a => (p a.2).bind fun r => if r.2 = [] ∧ Ok3 r.1.1 r.1.2.1 r.1.2.2.1 ∧ (Dn r.1.1 r.1.2.1 r.1.2.2.1 % 7 + 4) % 7 = (w : Int) then some (Dn r.1.1 r.1.2.1 r.1.2.2.1 * 86400 + r.1.2.2.2) else none
def sl (p : Bs → Option (Day × Bs)) (full : Bool) (l : Bs) : Nat → Nat → Option Int
  | 0, _ => none
  | d + 1, w => match suc p full l w with
    | some a => some a
    | none => sl p full l d (w + 1)

theorem parse_l1 (l : Bs) : ∀ (d w k : Nat), w + d = 7 → 2 * d + 30 ≤ k → ∃ k', k ≤ k' + (2 * d + 1) ∧
    date_Parse.l1 k (B l) 0 w false true false (⟨#[83, 117, 110, 100, 97, 121]⟩ : ByteArray) (⟨#[77, 111, 110, 100, 97, 121]⟩ : ByteArray) (⟨#[84, 117, 101, 115, 100, 97, 121]⟩ : ByteArray) (⟨#[87, 101, 100, 110, 101, 115, 100, 97, 121]⟩ : ByteArray) (⟨#[84, 104, 117, 114, 115, 100, 97, 121]⟩ : ByteArray) (⟨#[70, 114, 105, 100, 97, 121]⟩ : ByteArray) (⟨#[83, 97, 116, 117, 114, 100, 97, 121]⟩ : ByteArray) false = (match sl p1 false l d w with
      | some a => some (a, 0)
      | none => date_Parse.l0 k' (B l) 1 false true false) := by
  intro d
  induction d with
  | zero =>
    intro w k hw hk
    obtain ⟨k, rfl⟩ : ∃ n, k = n + 1 := ⟨k - 1, by omega⟩
    refine ⟨k, by omega, ?_⟩
    simp only [date_Parse.l1, sl]
    rw [if_neg (by omega), w64 (by decide) (by decide)]
    rfl
  | succ d ih =>
    intro w k hw hk
    obtain ⟨k, rfl⟩ : ∃ n, k = n + 1 + 1 := ⟨k - 2, by omega⟩
    obtain ⟨k', hk', hi⟩ := ih (w + 1) k (by omega) (by omega)
    rw [show ((w + 1 : Nat) : Int) = wrap64 ((w : Int) + 1) by rw [w64 (by omega) (by omega)]; rfl] at hi
    refine ⟨k', by omega, ?_⟩
    have step : date_Parse.l1 (k + 1 + 1) (B l) 0 w false true false (⟨#[83, 117, 110, 100, 97, 121]⟩ : ByteArray) (⟨#[77, 111, 110, 100, 97, 121]⟩ : ByteArray) (⟨#[84, 117, 101, 115, 100, 97, 121]⟩ : ByteArray) (⟨#[87, 101, 100, 110, 101, 115, 100, 97, 121]⟩ : ByteArray) (⟨#[84, 104, 117, 114, 115, 100, 97, 121]⟩ : ByteArray) (⟨#[70, 114, 105, 100, 97, 121]⟩ : ByteArray) (⟨#[83, 97, 116, 117, 114, 100, 97, 121]⟩ : ByteArray) false = date_Parse.j2 (k + 1) (B l) w (B (wname false w)) 0 w false true false (⟨#[83, 117, 110, 100, 97, 121]⟩ : ByteArray) (⟨#[77, 111, 110, 100, 97, 121]⟩ : ByteArray) (⟨#[84, 117, 101, 115, 100, 97, 121]⟩ : ByteArray) (⟨#[87, 101, 100, 110, 101, 115, 100, 97, 121]⟩ : ByteArray) (⟨#[84, 104, 117, 114, 115, 100, 97, 121]⟩ : ByteArray) (⟨#[70, 114, 105, 100, 97, 121]⟩ : ByteArray) (⟨#[83, 97, 116, 117, 114, 100, 97, 121]⟩ : ByteArray) false := by
      have hl := wdn_len w (by omega)
      simp only [date_Parse.l1]
      rw [if_pos (by omega), if_pos (by omega), arr_wd w (by omega)]
      rw [if_neg (by decide), if_pos (by decide), B_size, if_pos (by omega), B_extract, List.drop_zero]
      rfl
    rw [step]
    simp only [date_Parse.j2, sl]
    obtain ⟨l1, o1, e1, h1⟩ := word_out l false (wname false w)
    rw [e1]; simp only [Option.bind_some]
    unfold suc
    cases o1
    · rw [if_neg (by decide), h1.false_]
      simp only [Option.bind_some]
      obtain ⟨y, m, dd, s, l2, o2, e2, h2, b1, b2⟩ := first_out l1 false k (by omega)
      rw [e2]; simp only [Option.bind_some]
      by_cases hok : Ok3 y m dd
      · have hb := Dn_nonneg y m dd hok
        rw [days_yes _ _ _ hok k (by omega)]; simp only [Option.bind_some]
        cases o2
        · rw [if_neg (by decide), h2.false_]
          simp only [Option.bind_some]
          rw [B_toList]
          by_cases hl : l2 = []
          · rw [if_pos hl, if_pos trivial, wd_eq _ hb.1]
            simp only [Option.bind_some]
            by_cases hd : (Dn y m dd % 7 + 4) % 7 = (w : Int)
            · rw [if_pos hd, if_pos ⟨hl, hok, hd⟩, w64 (x := Dn y m dd * 86400) (by omega) (by omega), w64 (by omega) (by omega)]
            · rw [if_neg hd, if_neg (fun h => hd h.2.2)]; exact hi
          · rw [if_neg hl, if_neg (fun h => hl h.1)]; exact hi
        · rw [if_pos rfl, h2.none_]; exact hi
      · rw [days_no _ _ _ hok k (by omega)]; simp only [Option.bind_some]
        cases o2
        · rw [if_neg (by decide), h2.false_]
          simp only [Option.bind_some]
          rw [B_toList]
          by_cases hl : l2 = []
          · rw [if_pos hl, if_neg (by decide), if_neg (fun h => hok h.2.1)]; exact hi
          · rw [if_neg hl, if_neg (fun h => hok h.2.1)]; exact hi
        · rw [if_pos rfl, h2.none_]; exact hi
    · rw [if_pos rfl, h1.none_]; exact hi

theorem parse_l2 (l : Bs) : ∀ (d w k : Nat), w + d = 7 → 2 * d + 30 ≤ k → ∃ k', k ≤ k' + (2 * d + 1) ∧
    date_Parse.l2 k (B l) 1 w false true false (⟨#[83, 117, 110, 100, 97, 121]⟩ : ByteArray) (⟨#[77, 111, 110, 100, 97, 121]⟩ : ByteArray) (⟨#[84, 117, 101, 115, 100, 97, 121]⟩ : ByteArray) (⟨#[87, 101, 100, 110, 101, 115, 100, 97, 121]⟩ : ByteArray) (⟨#[84, 104, 117, 114, 115, 100, 97, 121]⟩ : ByteArray) (⟨#[70, 114, 105, 100, 97, 121]⟩ : ByteArray) (⟨#[83, 97, 116, 117, 114, 100, 97, 121]⟩ : ByteArray) true = (match sl p2 true l d w with
      | some a => some (a, 0)
      | none => date_Parse.l0 k' (B l) 2 false true false) := by
  intro d
  induction d with
  | zero =>
    intro w k hw hk
    obtain ⟨k, rfl⟩ : ∃ n, k = n + 1 := ⟨k - 1, by omega⟩
    refine ⟨k, by omega, ?_⟩
    simp only [date_Parse.l2, sl]
    rw [if_neg (by omega), w64 (by decide) (by decide)]
    rfl
  | succ d ih =>
    intro w k hw hk
    obtain ⟨k, rfl⟩ : ∃ n, k = n + 1 + 1 := ⟨k - 2, by omega⟩
    obtain ⟨k', hk', hi⟩ := ih (w + 1) k (by omega) (by omega)
    rw [show ((w + 1 : Nat) : Int) = wrap64 ((w : Int) + 1) by rw [w64 (by omega) (by omega)]; rfl] at hi
    refine ⟨k', by omega, ?_⟩
    have step : date_Parse.l2 (k + 1 + 1) (B l) 1 w false true false (⟨#[83, 117, 110, 100, 97, 121]⟩ : ByteArray) (⟨#[77, 111, 110, 100, 97, 121]⟩ : ByteArray) (⟨#[84, 117, 101, 115, 100, 97, 121]⟩ : ByteArray) (⟨#[87, 101, 100, 110, 101, 115, 100, 97, 121]⟩ : ByteArray) (⟨#[84, 104, 117, 114, 115, 100, 97, 121]⟩ : ByteArray) (⟨#[70, 114, 105, 100, 97, 121]⟩ : ByteArray) (⟨#[83, 97, 116, 117, 114, 100, 97, 121]⟩ : ByteArray) true = date_Parse.j4 (k + 1) (B l) w (B (wname true w)) 1 w false true false (⟨#[83, 117, 110, 100, 97, 121]⟩ : ByteArray) (⟨#[77, 111, 110, 100, 97, 121]⟩ : ByteArray) (⟨#[84, 117, 101, 115, 100, 97, 121]⟩ : ByteArray) (⟨#[87, 101, 100, 110, 101, 115, 100, 97, 121]⟩ : ByteArray) (⟨#[84, 104, 117, 114, 115, 100, 97, 121]⟩ : ByteArray) (⟨#[70, 114, 105, 100, 97, 121]⟩ : ByteArray) (⟨#[83, 97, 116, 117, 114, 100, 97, 121]⟩ : ByteArray) true := by
      have hl := wdn_len w (by omega)
      simp only [date_Parse.l2]
      rw [if_pos (by omega), if_pos (by omega), arr_wd w (by omega)]
      rw [if_pos trivial]
      rfl
    rw [step]
    simp only [date_Parse.j4, sl]
    obtain ⟨l1, o1, e1, h1⟩ := word_out l false (wname true w)
    rw [e1]; simp only [Option.bind_some]
    unfold suc
    cases o1
    · rw [if_neg (by decide), h1.false_]
      simp only [Option.bind_some]
      obtain ⟨y, m, dd, s, l2, o2, e2, h2, b1, b2⟩ := second_out l1 false k (by omega)
      rw [e2]; simp only [Option.bind_some]
      by_cases hok : Ok3 y m dd
      · have hb := Dn_nonneg y m dd hok
        rw [days_yes _ _ _ hok k (by omega)]; simp only [Option.bind_some]
        cases o2
        · rw [if_neg (by decide), h2.false_]
          simp only [Option.bind_some]
          rw [B_toList]
          by_cases hl : l2 = []
          · rw [if_pos hl, if_pos trivial, wd_eq _ hb.1]
            simp only [Option.bind_some]
            by_cases hd : (Dn y m dd % 7 + 4) % 7 = (w : Int)
            · rw [if_pos hd, if_pos ⟨hl, hok, hd⟩, w64 (x := Dn y m dd * 86400) (by omega) (by omega), w64 (by omega) (by omega)]
            · rw [if_neg hd, if_neg (fun h => hd h.2.2)]; exact hi
          · rw [if_neg hl, if_neg (fun h => hl h.1)]; exact hi
        · rw [if_pos rfl, h2.none_]; exact hi
      · rw [days_no _ _ _ hok k (by omega)]; simp only [Option.bind_some]
        cases o2
        · rw [if_neg (by decide), h2.false_]
          simp only [Option.bind_some]
          rw [B_toList]
          by_cases hl : l2 = []
          · rw [if_pos hl, if_neg (by decide), if_neg (fun h => hok h.2.1)]; exact hi
          · rw [if_neg hl, if_neg (fun h => hok h.2.1)]; exact hi
        · rw [if_pos rfl, h2.none_]; exact hi
    · rw [if_pos rfl, h1.none_]; exact hi

theorem parse_l3 (l : Bs) : ∀ (d w k : Nat), w + d = 7 → 2 * d + 30 ≤ k → ∃ k', k ≤ k' + (2 * d + 1) ∧
    date_Parse.l3 k (B l) 2 w false true false (⟨#[83, 117, 110, 100, 97, 121]⟩ : ByteArray) (⟨#[77, 111, 110, 100, 97, 121]⟩ : ByteArray) (⟨#[84, 117, 101, 115, 100, 97, 121]⟩ : ByteArray) (⟨#[87, 101, 100, 110, 101, 115, 100, 97, 121]⟩ : ByteArray) (⟨#[84, 104, 117, 114, 115, 100, 97, 121]⟩ : ByteArray) (⟨#[70, 114, 105, 100, 97, 121]⟩ : ByteArray) (⟨#[83, 97, 116, 117, 114, 100, 97, 121]⟩ : ByteArray) false = (match sl p3 false l d w with
      | some a => some (a, 0)
      | none => date_Parse.l0 k' (B l) 3 false true false) := by
  intro d
  induction d with
  | zero =>
    intro w k hw hk
    obtain ⟨k, rfl⟩ : ∃ n, k = n + 1 := ⟨k - 1, by omega⟩
    refine ⟨k, by omega, ?_⟩
    simp only [date_Parse.l3, sl]
    rw [if_neg (by omega), w64 (by decide) (by decide)]
    rfl
  | succ d ih =>
    intro w k hw hk
    obtain ⟨k, rfl⟩ : ∃ n, k = n + 1 + 1 := ⟨k - 2, by omega⟩
    obtain ⟨k', hk', hi⟩ := ih (w + 1) k (by omega) (by omega)
    rw [show ((w + 1 : Nat) : Int) = wrap64 ((w : Int) + 1) by rw [w64 (by omega) (by omega)]; rfl] at hi
    refine ⟨k', by omega, ?_⟩
    have step : date_Parse.l3 (k + 1 + 1) (B l) 2 w false true false (⟨#[83, 117, 110, 100, 97, 121]⟩ : ByteArray) (⟨#[77, 111, 110, 100, 97, 121]⟩ : ByteArray) (⟨#[84, 117, 101, 115, 100, 97, 121]⟩ : ByteArray) (⟨#[87, 101, 100, 110, 101, 115, 100, 97, 121]⟩ : ByteArray) (⟨#[84, 104, 117, 114, 115, 100, 97, 121]⟩ : ByteArray) (⟨#[70, 114, 105, 100, 97, 121]⟩ : ByteArray) (⟨#[83, 97, 116, 117, 114, 100, 97, 121]⟩ : ByteArray) false = date_Parse.j6 (k + 1) (B l) w (B (wname false w)) 2 w false true false (⟨#[83, 117, 110, 100, 97, 121]⟩ : ByteArray) (⟨#[77, 111, 110, 100, 97, 121]⟩ : ByteArray) (⟨#[84, 117, 101, 115, 100, 97, 121]⟩ : ByteArray) (⟨#[87, 101, 100, 110, 101, 115, 100, 97, 121]⟩ : ByteArray) (⟨#[84, 104, 117, 114, 115, 100, 97, 121]⟩ : ByteArray) (⟨#[70, 114, 105, 100, 97, 121]⟩ : ByteArray) (⟨#[83, 97, 116, 117, 114, 100, 97, 121]⟩ : ByteArray) false := by
      have hl := wdn_len w (by omega)
      simp only [date_Parse.l3]
      rw [if_pos (by omega), if_pos (by omega), arr_wd w (by omega)]
      rw [if_neg (by decide), if_pos (by decide), B_size, if_pos (by omega), B_extract, List.drop_zero]
      rfl
    rw [step]
    simp only [date_Parse.j6, sl]
    obtain ⟨l1, o1, e1, h1⟩ := word_out l false (wname false w)
    rw [e1]; simp only [Option.bind_some]
    unfold suc
    cases o1
    · rw [if_neg (by decide), h1.false_]
      simp only [Option.bind_some]
      obtain ⟨y, m, dd, s, l2, o2, e2, h2, b1, b2⟩ := third_out l1 false k (by omega)
      rw [e2]; simp only [Option.bind_some]
      by_cases hok : Ok3 y m dd
      · have hb := Dn_nonneg y m dd hok
        rw [days_yes _ _ _ hok k (by omega)]; simp only [Option.bind_some]
        cases o2
        · rw [if_neg (by decide), h2.false_]
          simp only [Option.bind_some]
          rw [B_toList]
          by_cases hl : l2 = []
          · rw [if_pos hl, if_pos trivial, wd_eq _ hb.1]
            simp only [Option.bind_some]
            by_cases hd : (Dn y m dd % 7 + 4) % 7 = (w : Int)
            · rw [if_pos hd, if_pos ⟨hl, hok, hd⟩, w64 (x := Dn y m dd * 86400) (by omega) (by omega), w64 (by omega) (by omega)]
            · rw [if_neg hd, if_neg (fun h => hd h.2.2)]; exact hi
          · rw [if_neg hl, if_neg (fun h => hl h.1)]; exact hi
        · rw [if_pos rfl, h2.none_]; exact hi
      · rw [days_no _ _ _ hok k (by omega)]; simp only [Option.bind_some]
        cases o2
        · rw [if_neg (by decide), h2.false_]
          simp only [Option.bind_some]
          rw [B_toList]
          by_cases hl : l2 = []
          · rw [if_pos hl, if_neg (by decide), if_neg (fun h => hok h.2.1)]; exact hi
          · rw [if_neg hl, if_neg (fun h => hok h.2.1)]; exact hi
        · rw [if_pos rfl, h2.none_]; exact hi
    · rw [if_pos rfl, h1.none_]; exact hi

def found (l : Bs) : Option Int := match sl p1 false l 7 0 with
  | some a => some a
  | none => match sl p2 true l 7 0 with
    | some a => some a
    | none => sl p3 false l 7 0
theorem parse_eq (l : Bs) (k : Nat) (hk : 200 ≤ k) : date_Parse.f k (B l) = some (match found l with
    | some a => (a, 0)
    | none => (0, 2)) := by
  obtain ⟨k, rfl⟩ : ∃ n, k = n + 1 := ⟨k - 1, by omega⟩
  unfold date_Parse.f found
  simp only [date_Parse.l0]
  rw [if_pos (by decide), if_pos trivial]
  unfold date_weekdays.f
  simp only [Option.bind_some]
  obtain ⟨k1, b1, e1⟩ := parse_l1 l 7 0 k rfl (by omega)
  rw [show ((0 : Nat) : Int) = 0 from rfl] at e1
  rw [e1]
  cases sl p1 false l 7 0 with
  | some a => rfl
  | none =>
    obtain ⟨k1, rfl⟩ : ∃ n, k1 = n + 1 := ⟨k1 - 1, by omega⟩
    simp only [date_Parse.l0]
    rw [if_pos (by decide), if_neg (by decide), if_pos trivial]
    unfold date_weekdays.f
    simp only [Option.bind_some]
    obtain ⟨k2, b2, e2⟩ := parse_l2 l 7 0 k1 rfl (by omega)
    rw [show ((0 : Nat) : Int) = 0 from rfl] at e2
    rw [e2]
    cases sl p2 true l 7 0 with
    | some a => rfl
    | none =>
      obtain ⟨k2, rfl⟩ : ∃ n, k2 = n + 1 := ⟨k2 - 1, by omega⟩
      simp only [date_Parse.l0]
      rw [if_pos (by decide), if_neg (by decide), if_neg (by decide), if_pos trivial]
      unfold date_weekdays.f
      simp only [Option.bind_some]
      obtain ⟨k3, b3, e3⟩ := parse_l3 l 7 0 k2 rfl (by omega)
      rw [show ((0 : Nat) : Int) = 0 from rfl] at e3
      rw [e3]
      cases sl p3 false l 7 0 with
      | some a => rfl
      | none =>
        obtain ⟨k3, rfl⟩ : ∃ n, k3 = n + 1 := ⟨k3 - 1, by omega⟩
        simp only [date_Parse.l0]
        rw [if_neg (by decide)]
end Go.Proofs.Ytpddbfodjeoofaa.Pure

