/- Texts of this session's own, as far as they are used here. -/
import Derived.Test.YtpddbfodjeoofaaKDateB
namespace Go.Proofs.Ytpddbfodjeoofaa.Pure
open Go.RowKit Go.Proofs.Ytpddbfodjeoofaa.PDate Go.Proofs.YtpddbfodjeoofaaW.PrintWords Go.Proofs.YtpddbfodjeoofaaW.PrintLast
set_option linter.unusedSimpArgs false
set_option linter.unusedVariables false

def NM : List Bs := [[74, 97, 110], [70, 101, 98], [77, 97, 114], [65, 112, 114], [77, 97, 121], [74, 117, 110], [74, 117, 108], [65, 117, 103], [83, 101, 112], [79, 99, 116], [78, 111, 118], [68, 101, 99]]
def nm (i : Nat) : Bs := NM.getD i []
theorem nm_len : ∀ i, i < 12 → (nm i).length = 3 := by decide
theorem arr_nm : ∀ j : Nat, j < 12 → arrAt [(⟨#[74, 97, 110]⟩ : ByteArray), (⟨#[70, 101, 98]⟩ : ByteArray), (⟨#[77, 97, 114]⟩ : ByteArray), (⟨#[65, 112, 114]⟩ : ByteArray), (⟨#[77, 97, 121]⟩ : ByteArray), (⟨#[74, 117, 110]⟩ : ByteArray), (⟨#[74, 117, 108]⟩ : ByteArray), (⟨#[65, 117, 103]⟩ : ByteArray), (⟨#[83, 101, 112]⟩ : ByteArray), (⟨#[79, 99, 116]⟩ : ByteArray), (⟨#[78, 111, 118]⟩ : ByteArray), (⟨#[68, 101, 99]⟩ : ByteArray)] (⟨#[]⟩ : ByteArray) (j : Int) = B (nm j) := by
  intro j h
  have : j = 0 ∨ j = 1 ∨ j = 2 ∨ j = 3 ∨ j = 4 ∨ j = 5 ∨ j = 6 ∨ j = 7 ∨ j = 8 ∨ j = 9 ∨ j = 10 ∨ j = 11 := by omega
  rcases this with rfl | rfl | rfl | rfl | rfl | rfl | rfl | rfl | rfl | rfl | rfl | rfl <;> rfl
def pmf (l : Bs) : Nat → Nat → Option (Int × Bs)
  | 0, _ => none
  | d + 1, j => if hp l (nm j) = true then some ((j : Int) + 1, l.drop 3) else pmf l d (j + 1)
def pm (l : Bs) : Option (Int × Bs) := pmf l 12 0
theorem month_l0 (l : Bs) (o : Bool) : ∀ (d j k : Nat), j + d = 12 → d + 1 ≤ k →
    ∃ v l' o', date_scan_month.l0 k j (⟨#[74, 97, 110]⟩ : ByteArray) (⟨#[70, 101, 98]⟩ : ByteArray) (⟨#[77, 97, 114]⟩ : ByteArray) (⟨#[65, 112, 114]⟩ : ByteArray) (⟨#[77, 97, 121]⟩ : ByteArray) (⟨#[74, 117, 110]⟩ : ByteArray) (⟨#[74, 117, 108]⟩ : ByteArray) (⟨#[65, 117, 103]⟩ : ByteArray) (⟨#[83, 101, 112]⟩ : ByteArray) (⟨#[79, 99, 116]⟩ : ByteArray) (⟨#[78, 111, 118]⟩ : ByteArray) (⟨#[68, 101, 99]⟩ : ByteArray) (B l) o = some (v, B l', o') ∧ Out o (pmf l d j) v l' o' ∧ 0 ≤ v ∧ v ≤ 12 := by
  intro d
  induction d with
  | zero =>
    intro j k hj hk
    obtain ⟨k, rfl⟩ : ∃ n, k = n + 1 := ⟨k - 1, by omega⟩
    simp only [date_scan_month.l0]
    rw [if_neg (by omega)]
    exact ⟨0, l, true, rfl, by unfold Out pmf; simp, by decide, by decide⟩
  | succ d ih =>
    intro j k hj hk
    obtain ⟨k, rfl⟩ : ∃ n, k = n + 1 := ⟨k - 1, by omega⟩
    simp only [date_scan_month.l0]
    rw [if_pos (by omega), if_pos (by omega), arr_nm j (by omega), hasPrefix2_eq]
    simp only [Option.bind_some, pmf]
    by_cases h : hp l (nm j) = true
    · rw [if_pos h, if_pos h]
      obtain ⟨l', o', he, ho⟩ := word_out l o (nm j)
      rw [he]
      simp only [Option.bind_some]
      refine ⟨_, l', o', rfl, ?_, by rw [w64 (by omega) (by omega)]; omega, by rw [w64 (by omega) (by omega)]; omega⟩
      rw [w64 (by omega) (by omega)]
      unfold pw at ho
      rw [if_pos h, nm_len j (by omega)] at ho
      unfold Out at ho ⊢
      cases o <;> cases o' <;> simp_all
    · rw [if_neg h, if_neg h, w64 (by omega) (by omega)]
      exact ih (j + 1) k (by omega) (by omega)
theorem month_out (l : Bs) (o : Bool) (k : Nat) (hk : 13 ≤ k) : ∃ v l' o', date_scan_month.f k (B l) o = some (v, B l', o') ∧ Out o (pm l) v l' o' ∧ 0 ≤ v ∧ v ≤ 12 := by
  unfold date_scan_month.f date_names.f
  simp only [Option.bind_some]
  exact month_l0 l o 12 0 k rfl hk
def pc (l : Bs) : Option (Int × Bs) := (pn 2 23 l).bind fun a => (pw [58] a.2).bind fun b => (pn 2 59 b.2).bind fun c => (pw [58] c.2).bind fun d => (pn 2 59 d.2).bind fun e => some (3600 * a.1 + 60 * c.1 + e.1, e.2)
theorem Out.pure_ {α : Type} (o : Bool) (v : α) (l : Bs) : Out o (some (v, l)) v l o := by unfold Out; cases o <;> simp
theorem clock_out (l : Bs) (o : Bool) (k : Nat) (hk : 5 ≤ k) : ∃ v l' o', date_scan_clock.f k (B l) o = some (v, B l', o') ∧ Out o (pc l) v l' o' ∧ 0 ≤ v ∧ v ≤ 100000000 := by
  unfold date_scan_clock.f pc
  obtain ⟨v1, l1, o1, e1, h1, b1, b1'⟩ := number_out l o 2 23 (by decide) k hk
  obtain ⟨l2, o2, e2, h2⟩ := word_out l1 o1 [58]
  obtain ⟨v3, l3, o3, e3, h3, b3, b3'⟩ := number_out l2 o2 2 59 (by decide) k hk
  obtain ⟨l4, o4, e4, h4⟩ := word_out l3 o3 [58]
  obtain ⟨v5, l5, o5, e5, h5, b5, b5'⟩ := number_out l4 o4 2 59 (by decide) k hk
  rw [show ((2 : Nat) : Int) = 2 from rfl] at e1 e3 e5
  rw [e1]; simp only [Option.bind_some]
  rw [show (⟨#[58]⟩ : ByteArray) = B [58] from rfl, e2]; simp only [Option.bind_some]
  rw [e3]; simp only [Option.bind_some]
  rw [e4]; simp only [Option.bind_some]
  rw [e5]; simp only [Option.bind_some]
  have ew : wrap64 (wrap64 (wrap64 (v1 * 3600) + wrap64 (v3 * 60)) + v5) = 3600 * v1 + 60 * v3 + v5 := by
    rw [w64 (x := v1 * 3600) (by omega) (by omega), w64 (x := v3 * 60) (by omega) (by omega), w64 (x := v1 * 3600 + v3 * 60) (by omega) (by omega), w64 (by omega) (by omega)]; omega
  rw [ew]
  refine ⟨_, l5, o5, rfl, ?_, by omega, by omega⟩
  exact h1.bind (h2.bind (h3.bind (h4.bind (h5.bind (Out.pure_ _ _ _)))))
abbrev Day := Int × Int × Int × Int
def p1 (l : Bs) : Option (Day × Bs) := (pw [44, 32] l).bind fun a => (pn 2 31 a.2).bind fun d => (pw [32] d.2).bind fun b => (pm b.2).bind fun m => (pw [32] m.2).bind fun c => (pn 4 9999 c.2).bind fun y => (pw [32] y.2).bind fun e => (pc e.2).bind fun s => (pw [32, 71, 77, 84] s.2).bind fun z => some ((y.1, m.1, d.1, s.1), z.2)
def p2 (l : Bs) : Option (Day × Bs) := (pw [44, 32] l).bind fun a => (pn 2 31 a.2).bind fun d => (pw [45] d.2).bind fun b => (pm b.2).bind fun m => (pw [45] m.2).bind fun c => (pn 2 9999 c.2).bind fun y => (pw [32] y.2).bind fun e => (pc e.2).bind fun s => (pw [32, 71, 77, 84] s.2).bind fun z => some (((if y.1 < 70 then y.1 + 2000 else y.1 + 1900), m.1, d.1, s.1), z.2)
def p3r (m d : Int) (l : Bs) : Option (Day × Bs) := (pw [32] l).bind fun e => (pc e.2).bind fun s => (pw [32] s.2).bind fun z => (pn 4 9999 z.2).bind fun y => some ((y.1, m, d, s.1), y.2)
def p3 (l : Bs) : Option (Day × Bs) := (pw [32] l).bind fun a => (pm a.2).bind fun m => (pw [32] m.2).bind fun b => if hp b.2 [32] = true then (pw [32] b.2).bind fun c => (pn 1 9 c.2).bind fun d => p3r m.1 d.1 d.2 else (pn 2 31 b.2).bind fun d => if d.1 < 10 then none else p3r m.1 d.1 d.2
theorem first_out (l : Bs) (o : Bool) (k : Nat) (hk : 13 ≤ k) : ∃ y m d s l' o', date_first.f k (B l) o = some (y, m, d, s, B l', o') ∧ Out o (p1 l) (y, m, d, s) l' o' ∧ 0 ≤ s ∧ s ≤ 100000000 := by
  unfold date_first.f p1
  obtain ⟨l1, o1, e1, h1⟩ := word_out l o [44, 32]
  obtain ⟨d, l2, o2, e2, h2, b2, b2'⟩ := number_out l1 o1 2 31 (by decide) k (by omega)
  obtain ⟨l3, o3, e3, h3⟩ := word_out l2 o2 [32]
  obtain ⟨m, l4, o4, e4, h4, b4, b4'⟩ := month_out l3 o3 k hk
  obtain ⟨l5, o5, e5, h5⟩ := word_out l4 o4 [32]
  obtain ⟨y, l6, o6, e6, h6, b6, b6'⟩ := number_out l5 o5 4 9999 (by decide) k (by omega)
  obtain ⟨l7, o7, e7, h7⟩ := word_out l6 o6 [32]
  obtain ⟨s, l8, o8, e8, h8, b8, b8'⟩ := clock_out l7 o7 k (by omega)
  obtain ⟨l9, o9, e9, h9⟩ := word_out l8 o8 [32, 71, 77, 84]
  rw [show ((2 : Nat) : Int) = 2 from rfl] at e2
  rw [show ((4 : Nat) : Int) = 4 from rfl] at e6
  rw [show (⟨#[44, 32]⟩ : ByteArray) = B [44, 32] from rfl, show (⟨#[32]⟩ : ByteArray) = B [32] from rfl, show (⟨#[32, 71, 77, 84]⟩ : ByteArray) = B [32, 71, 77, 84] from rfl]
  rw [e1]; simp only [Option.bind_some]
  rw [e2]; simp only [Option.bind_some]
  rw [e3]; simp only [Option.bind_some]
  rw [e4]; simp only [Option.bind_some]
  rw [e5]; simp only [Option.bind_some]
  rw [e6]; simp only [Option.bind_some]
  rw [e7]; simp only [Option.bind_some]
  rw [e8]; simp only [Option.bind_some]
  rw [e9]; simp only [Option.bind_some]
  refine ⟨y, m, d, s, l9, o9, rfl, ?_, b8, b8'⟩
  exact h1.bind (h2.bind (h3.bind (h4.bind (h5.bind (h6.bind (h7.bind (h8.bind (h9.bind (Out.pure_ _ _ _)))))))))
theorem second_out (l : Bs) (o : Bool) (k : Nat) (hk : 13 ≤ k) : ∃ y m d s l' o', date_second.f k (B l) o = some (y, m, d, s, B l', o') ∧ Out o (p2 l) (y, m, d, s) l' o' ∧ 0 ≤ s ∧ s ≤ 100000000 := by
  unfold date_second.f p2
  obtain ⟨l1, o1, e1, h1⟩ := word_out l o [44, 32]
  obtain ⟨d, l2, o2, e2, h2, b2, b2'⟩ := number_out l1 o1 2 31 (by decide) k (by omega)
  obtain ⟨l3, o3, e3, h3⟩ := word_out l2 o2 [45]
  obtain ⟨m, l4, o4, e4, h4, b4, b4'⟩ := month_out l3 o3 k hk
  obtain ⟨l5, o5, e5, h5⟩ := word_out l4 o4 [45]
  obtain ⟨y, l6, o6, e6, h6, b6, b6'⟩ := number_out l5 o5 2 9999 (by decide) k (by omega)
  obtain ⟨l7, o7, e7, h7⟩ := word_out l6 o6 [32]
  obtain ⟨s, l8, o8, e8, h8, b8, b8'⟩ := clock_out l7 o7 k (by omega)
  obtain ⟨l9, o9, e9, h9⟩ := word_out l8 o8 [32, 71, 77, 84]
  rw [show ((2 : Nat) : Int) = 2 from rfl] at e2 e6
  rw [show (⟨#[44, 32]⟩ : ByteArray) = B [44, 32] from rfl, show (⟨#[32]⟩ : ByteArray) = B [32] from rfl, show (⟨#[45]⟩ : ByteArray) = B [45] from rfl, show (⟨#[32, 71, 77, 84]⟩ : ByteArray) = B [32, 71, 77, 84] from rfl]
  rw [e1]; simp only [Option.bind_some]
  rw [e2]; simp only [Option.bind_some]
  rw [e3]; simp only [Option.bind_some]
  rw [e4]; simp only [Option.bind_some]
  rw [e5]; simp only [Option.bind_some]
  rw [e6]; simp only [Option.bind_some]
  rw [e7]; simp only [Option.bind_some]
  rw [e8]; simp only [Option.bind_some]
  rw [e9]; simp only [Option.bind_some]
  rw [w64 (x := y + 1900) (by omega) (by omega), w64 (x := y + 1900 + 100) (by omega) (by omega)]
  have ho : Out o ((pw [44, 32] l).bind fun a => (pn 2 31 a.2).bind fun d => (pw [45] d.2).bind fun b => (pm b.2).bind fun m => (pw [45] m.2).bind fun c => (pn 2 9999 c.2).bind fun y => (pw [32] y.2).bind fun e => (pc e.2).bind fun s => (pw [32, 71, 77, 84] s.2).bind fun z => some (((if y.1 < 70 then y.1 + 2000 else y.1 + 1900), m.1, d.1, s.1), z.2)) ((if y < 70 then y + 2000 else y + 1900), m, d, s) l9 o9 :=
    h1.bind (h2.bind (h3.bind (h4.bind (h5.bind (h6.bind (h7.bind (h8.bind (h9.bind (Out.pure_ _ _ _)))))))))
  by_cases g : y < 70
  · rw [if_pos (by omega)]
    rw [if_pos g] at ho
    refine ⟨_, m, d, s, l9, o9, rfl, ?_, b8, b8'⟩
    rw [show y + 1900 + 100 = y + 2000 by omega]; exact ho
  · rw [if_neg (by omega)]
    rw [if_neg g] at ho
    exact ⟨_, m, d, s, l9, o9, rfl, ho, b8, b8'⟩
theorem third_j0 (l : Bs) (o : Bool) (m d : Int) (k : Nat) (hk : 14 ≤ k) : ∃ y s l' o', date_third.j0 k (B l) o 0 m d 0 = some (y, m, d, s, B l', o') ∧ Out o (p3r m d l) (y, m, d, s) l' o' ∧ 0 ≤ s ∧ s ≤ 100000000 := by
  obtain ⟨k, rfl⟩ : ∃ n, k = n + 1 := ⟨k - 1, by omega⟩
  simp only [date_third.j0]
  unfold p3r
  obtain ⟨l7, o7, e7, h7⟩ := word_out l o [32]
  obtain ⟨s, l8, o8, e8, h8, b8, b8'⟩ := clock_out l7 o7 k (by omega)
  obtain ⟨l5, o5, e5, h5⟩ := word_out l8 o8 [32]
  obtain ⟨y, l6, o6, e6, h6, b6, b6'⟩ := number_out l5 o5 4 9999 (by decide) k (by omega)
  rw [show ((4 : Nat) : Int) = 4 from rfl] at e6
  rw [show (⟨#[32]⟩ : ByteArray) = B [32] from rfl]
  rw [e7]; simp only [Option.bind_some]
  rw [e8]; simp only [Option.bind_some]
  rw [e5]; simp only [Option.bind_some]
  rw [e6]; simp only [Option.bind_some]
  exact ⟨y, s, l6, o6, rfl, h7.bind (h8.bind (h5.bind (h6.bind (Out.pure_ _ _ _)))), b8, b8'⟩
theorem third_out (l : Bs) (o : Bool) (k : Nat) (hk : 14 ≤ k) : ∃ y m d s l' o', date_third.f k (B l) o = some (y, m, d, s, B l', o') ∧ Out o (p3 l) (y, m, d, s) l' o' ∧ 0 ≤ s ∧ s ≤ 100000000 := by
  unfold date_third.f p3
  obtain ⟨l1, o1, e1, h1⟩ := word_out l o [32]
  obtain ⟨m, l2, o2, e2, h2, b2, b2'⟩ := month_out l1 o1 k (by omega)
  obtain ⟨l3, o3, e3, h3⟩ := word_out l2 o2 [32]
  rw [show (⟨#[32]⟩ : ByteArray) = B [32] from rfl]
  rw [e1]; simp only [Option.bind_some]
  rw [e2]; simp only [Option.bind_some]
  rw [e3]; simp only [Option.bind_some]
  rw [hasPrefix2_eq]; simp only [Option.bind_some]
  by_cases h : hp l3 [32] = true
  · rw [if_pos h]
    obtain ⟨l4, o4, e4, h4⟩ := word_out l3 o3 [32]
    obtain ⟨d, l5, o5, e5, h5, b5, b5'⟩ := number_out l4 o4 1 9 (by decide) k (by omega)
    rw [show ((1 : Nat) : Int) = 1 from rfl] at e5
    rw [e4]; simp only [Option.bind_some]
    rw [e5]; simp only [Option.bind_some]
    obtain ⟨y, s, l', o', e, ho, hs⟩ := third_j0 l5 o5 m d k hk
    refine ⟨y, m, d, s, l', o', e, ?_, hs⟩
    refine h1.bind (h2.bind (h3.bind ?_))
    simp only [if_pos h]
    exact h4.bind (h5.bind ho)
  · rw [if_neg h]
    obtain ⟨d, l5, o5, e5, h5, b5, b5'⟩ := number_out l3 o3 2 31 (by decide) k (by omega)
    rw [show ((2 : Nat) : Int) = 2 from rfl] at e5
    rw [e5]; simp only [Option.bind_some]
    by_cases g : d < 10
    · rw [if_pos g]
      obtain ⟨y, s, l', o', e, ho, hs⟩ := third_j0 l5 true m d k hk
      refine ⟨y, m, d, s, l', o', e, ?_, hs⟩
      refine h1.bind (h2.bind (h3.bind ?_))
      simp only [if_neg h]
      refine h5.bind ?_
      simp only [if_pos g]
      rw [ho.true_]
      unfold Out; cases o5 <;> simp
    · rw [if_neg g]
      obtain ⟨y, s, l', o', e, ho, hs⟩ := third_j0 l5 o5 m d k hk
      refine ⟨y, m, d, s, l', o', e, ?_, hs⟩
      refine h1.bind (h2.bind (h3.bind ?_))
      simp only [if_neg h]
      refine h5.bind ?_
      simp only [if_neg g]
      exact ho
end Go.Proofs.Ytpddbfodjeoofaa.Pure

