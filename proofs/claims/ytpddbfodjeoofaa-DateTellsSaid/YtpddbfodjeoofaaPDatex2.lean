-- Laid by this session's own program (wip/tools/myprint.sh) out of the translation.
import Derived.Test.YtpddbfodjeoofaaPDatex0
import Derived.Test.YtpddbfodjeoofaaPDatex1
namespace Go.Proofs.Ytpddbfodjeoofaa.PDate
open Go.RowKit Go.Proofs.YtpddbfodjeoofaaW.PrintWords Go.Proofs.YtpddbfodjeoofaaW.PrintLast Go.Proofs.YtpddbfodjeoofaaW.PrintMore
attribute [local go_sem] max2_int min2_int max_two min_two max_three min_three max_four min_four   -- for this text's walks alone
set_option linter.unusedVariables false
set_option linter.unusedSimpArgs false

/-! ### date_Print: function 12 -/
def date_Print.j0 : Nat → Int → Bool → Option (ByteArray × Int)
 | 0, _, _ => none
 | k + 1, x0, x15 => if x15 = true then (some ((⟨#[]⟩ : ByteArray), 6)) else ((date_of.f k (wrap64 (Int.tdiv x0 86400))).bind fun bt118 => ((date_digits.f k (wrap64 (Int.tdiv (Int.tmod x0 86400) 3600)) 2).bind fun t121 => (if t121.size + 1 ≤ 9223372036854775807 then ((date_digits.f k (Int.tmod (wrap64 (Int.tdiv (Int.tmod x0 86400) 60)) 60) 2).bind fun t122 => (if (t121 ++ (⟨#[58]⟩ : ByteArray)).size + t122.size ≤ 9223372036854775807 then (if ((t121 ++ (⟨#[58]⟩ : ByteArray)) ++ t122).size + 1 ≤ 9223372036854775807 then ((date_digits.f k (Int.tmod x0 60) 2).bind fun t123 => (if (((t121 ++ (⟨#[58]⟩ : ByteArray)) ++ t122) ++ (⟨#[58]⟩ : ByteArray)).size + t123.size ≤ 9223372036854775807 then ((date_weekdays.f).bind fun bt124 => ((date_Weekday.f (wrap64 (Int.tdiv x0 86400))).bind fun t131 => (if 0 ≤ t131 then (if t131 < 7 then (if 0 ≤ 3 then (if 3 ≤ ((arrAt [bt124.1, bt124.2.1, bt124.2.2.1, bt124.2.2.2.1, bt124.2.2.2.2.1, bt124.2.2.2.2.2.1, bt124.2.2.2.2.2.2] (⟨#[]⟩ : ByteArray) t131).size : Int) then (if ((arrAt [bt124.1, bt124.2.1, bt124.2.2.1, bt124.2.2.2.1, bt124.2.2.2.2.1, bt124.2.2.2.2.2.1, bt124.2.2.2.2.2.2] (⟨#[]⟩ : ByteArray) t131).extract 0 3).size + 2 ≤ 9223372036854775807 then ((date_digits.f k bt118.2.2 2).bind fun t132 => (if (((arrAt [bt124.1, bt124.2.1, bt124.2.2.1, bt124.2.2.2.1, bt124.2.2.2.2.1, bt124.2.2.2.2.2.1, bt124.2.2.2.2.2.2] (⟨#[]⟩ : ByteArray) t131).extract 0 3) ++ (⟨#[44, 32]⟩ : ByteArray)).size + t132.size ≤ 9223372036854775807 then (if ((((arrAt [bt124.1, bt124.2.1, bt124.2.2.1, bt124.2.2.2.1, bt124.2.2.2.2.1, bt124.2.2.2.2.2.1, bt124.2.2.2.2.2.2] (⟨#[]⟩ : ByteArray) t131).extract 0 3) ++ (⟨#[44, 32]⟩ : ByteArray)) ++ t132).size + 1 ≤ 9223372036854775807 then ((date_names.f).bind fun bt133 => (if 0 ≤ (wrap64 (bt118.2.1 - 1)) then (if (wrap64 (bt118.2.1 - 1)) < 12 then (if (((((arrAt [bt124.1, bt124.2.1, bt124.2.2.1, bt124.2.2.2.1, bt124.2.2.2.2.1, bt124.2.2.2.2.2.1, bt124.2.2.2.2.2.2] (⟨#[]⟩ : ByteArray) t131).extract 0 3) ++ (⟨#[44, 32]⟩ : ByteArray)) ++ t132) ++ (⟨#[32]⟩ : ByteArray)).size + (arrAt [bt133.1, bt133.2.1, bt133.2.2.1, bt133.2.2.2.1, bt133.2.2.2.2.1, bt133.2.2.2.2.2.1, bt133.2.2.2.2.2.2.1, bt133.2.2.2.2.2.2.2.1, bt133.2.2.2.2.2.2.2.2.1, bt133.2.2.2.2.2.2.2.2.2.1, bt133.2.2.2.2.2.2.2.2.2.2.1, bt133.2.2.2.2.2.2.2.2.2.2.2] (⟨#[]⟩ : ByteArray) (wrap64 (bt118.2.1 - 1))).size ≤ 9223372036854775807 then (if ((((((arrAt [bt124.1, bt124.2.1, bt124.2.2.1, bt124.2.2.2.1, bt124.2.2.2.2.1, bt124.2.2.2.2.2.1, bt124.2.2.2.2.2.2] (⟨#[]⟩ : ByteArray) t131).extract 0 3) ++ (⟨#[44, 32]⟩ : ByteArray)) ++ t132) ++ (⟨#[32]⟩ : ByteArray)) ++ (arrAt [bt133.1, bt133.2.1, bt133.2.2.1, bt133.2.2.2.1, bt133.2.2.2.2.1, bt133.2.2.2.2.2.1, bt133.2.2.2.2.2.2.1, bt133.2.2.2.2.2.2.2.1, bt133.2.2.2.2.2.2.2.2.1, bt133.2.2.2.2.2.2.2.2.2.1, bt133.2.2.2.2.2.2.2.2.2.2.1, bt133.2.2.2.2.2.2.2.2.2.2.2] (⟨#[]⟩ : ByteArray) (wrap64 (bt118.2.1 - 1)))).size + 1 ≤ 9223372036854775807 then ((date_digits.f k bt118.1 4).bind fun t145 => (if (((((((arrAt [bt124.1, bt124.2.1, bt124.2.2.1, bt124.2.2.2.1, bt124.2.2.2.2.1, bt124.2.2.2.2.2.1, bt124.2.2.2.2.2.2] (⟨#[]⟩ : ByteArray) t131).extract 0 3) ++ (⟨#[44, 32]⟩ : ByteArray)) ++ t132) ++ (⟨#[32]⟩ : ByteArray)) ++ (arrAt [bt133.1, bt133.2.1, bt133.2.2.1, bt133.2.2.2.1, bt133.2.2.2.2.1, bt133.2.2.2.2.2.1, bt133.2.2.2.2.2.2.1, bt133.2.2.2.2.2.2.2.1, bt133.2.2.2.2.2.2.2.2.1, bt133.2.2.2.2.2.2.2.2.2.1, bt133.2.2.2.2.2.2.2.2.2.2.1, bt133.2.2.2.2.2.2.2.2.2.2.2] (⟨#[]⟩ : ByteArray) (wrap64 (bt118.2.1 - 1)))) ++ (⟨#[32]⟩ : ByteArray)).size + t145.size ≤ 9223372036854775807 then (if ((((((((arrAt [bt124.1, bt124.2.1, bt124.2.2.1, bt124.2.2.2.1, bt124.2.2.2.2.1, bt124.2.2.2.2.2.1, bt124.2.2.2.2.2.2] (⟨#[]⟩ : ByteArray) t131).extract 0 3) ++ (⟨#[44, 32]⟩ : ByteArray)) ++ t132) ++ (⟨#[32]⟩ : ByteArray)) ++ (arrAt [bt133.1, bt133.2.1, bt133.2.2.1, bt133.2.2.2.1, bt133.2.2.2.2.1, bt133.2.2.2.2.2.1, bt133.2.2.2.2.2.2.1, bt133.2.2.2.2.2.2.2.1, bt133.2.2.2.2.2.2.2.2.1, bt133.2.2.2.2.2.2.2.2.2.1, bt133.2.2.2.2.2.2.2.2.2.2.1, bt133.2.2.2.2.2.2.2.2.2.2.2] (⟨#[]⟩ : ByteArray) (wrap64 (bt118.2.1 - 1)))) ++ (⟨#[32]⟩ : ByteArray)) ++ t145).size + 1 ≤ 9223372036854775807 then (if (((((((((arrAt [bt124.1, bt124.2.1, bt124.2.2.1, bt124.2.2.2.1, bt124.2.2.2.2.1, bt124.2.2.2.2.2.1, bt124.2.2.2.2.2.2] (⟨#[]⟩ : ByteArray) t131).extract 0 3) ++ (⟨#[44, 32]⟩ : ByteArray)) ++ t132) ++ (⟨#[32]⟩ : ByteArray)) ++ (arrAt [bt133.1, bt133.2.1, bt133.2.2.1, bt133.2.2.2.1, bt133.2.2.2.2.1, bt133.2.2.2.2.2.1, bt133.2.2.2.2.2.2.1, bt133.2.2.2.2.2.2.2.1, bt133.2.2.2.2.2.2.2.2.1, bt133.2.2.2.2.2.2.2.2.2.1, bt133.2.2.2.2.2.2.2.2.2.2.1, bt133.2.2.2.2.2.2.2.2.2.2.2] (⟨#[]⟩ : ByteArray) (wrap64 (bt118.2.1 - 1)))) ++ (⟨#[32]⟩ : ByteArray)) ++ t145) ++ (⟨#[32]⟩ : ByteArray)).size + ((((t121 ++ (⟨#[58]⟩ : ByteArray)) ++ t122) ++ (⟨#[58]⟩ : ByteArray)) ++ t123).size ≤ 9223372036854775807 then (if ((((((((((arrAt [bt124.1, bt124.2.1, bt124.2.2.1, bt124.2.2.2.1, bt124.2.2.2.2.1, bt124.2.2.2.2.2.1, bt124.2.2.2.2.2.2] (⟨#[]⟩ : ByteArray) t131).extract 0 3) ++ (⟨#[44, 32]⟩ : ByteArray)) ++ t132) ++ (⟨#[32]⟩ : ByteArray)) ++ (arrAt [bt133.1, bt133.2.1, bt133.2.2.1, bt133.2.2.2.1, bt133.2.2.2.2.1, bt133.2.2.2.2.2.1, bt133.2.2.2.2.2.2.1, bt133.2.2.2.2.2.2.2.1, bt133.2.2.2.2.2.2.2.2.1, bt133.2.2.2.2.2.2.2.2.2.1, bt133.2.2.2.2.2.2.2.2.2.2.1, bt133.2.2.2.2.2.2.2.2.2.2.2] (⟨#[]⟩ : ByteArray) (wrap64 (bt118.2.1 - 1)))) ++ (⟨#[32]⟩ : ByteArray)) ++ t145) ++ (⟨#[32]⟩ : ByteArray)) ++ ((((t121 ++ (⟨#[58]⟩ : ByteArray)) ++ t122) ++ (⟨#[58]⟩ : ByteArray)) ++ t123)).size + 4 ≤ 9223372036854775807 then (some (((((((((((arrAt [bt124.1, bt124.2.1, bt124.2.2.1, bt124.2.2.2.1, bt124.2.2.2.2.1, bt124.2.2.2.2.2.1, bt124.2.2.2.2.2.2] (⟨#[]⟩ : ByteArray) t131).extract 0 3) ++ (⟨#[44, 32]⟩ : ByteArray)) ++ t132) ++ (⟨#[32]⟩ : ByteArray)) ++ (arrAt [bt133.1, bt133.2.1, bt133.2.2.1, bt133.2.2.2.1, bt133.2.2.2.2.1, bt133.2.2.2.2.2.1, bt133.2.2.2.2.2.2.1, bt133.2.2.2.2.2.2.2.1, bt133.2.2.2.2.2.2.2.2.1, bt133.2.2.2.2.2.2.2.2.2.1, bt133.2.2.2.2.2.2.2.2.2.2.1, bt133.2.2.2.2.2.2.2.2.2.2.2] (⟨#[]⟩ : ByteArray) (wrap64 (bt118.2.1 - 1)))) ++ (⟨#[32]⟩ : ByteArray)) ++ t145) ++ (⟨#[32]⟩ : ByteArray)) ++ ((((t121 ++ (⟨#[58]⟩ : ByteArray)) ++ t122) ++ (⟨#[58]⟩ : ByteArray)) ++ t123)) ++ (⟨#[32, 71, 77, 84]⟩ : ByteArray), 0)) else (none)) else (none)) else (none)) else (none))) else (none)) else (none)) else (none)) else (none))) else (none)) else (none))) else (none)) else (none)) else (none)) else (none)) else (none)))) else (none))) else (none)) else (none))) else (none))))
def date_Print.f (k : Nat) (a0 : Int) : Option (ByteArray × Int) := if a0 < 0 then (date_Print.j0 k a0 true) else (date_Print.j0 k a0 (decide (a0 ≥ 253402300800)))
theorem date_Print.mono_l : ∀ k, (∀ y0 y1, LeO (date_Print.j0 k y0 y1) (date_Print.j0 (k + 1) y0 y1))
 | 0 => fun _ _ r h => by simp [date_Print.j0] at h
 | k + 1 => by
  have ih0 := date_Print.mono_l k
  ·intro y0 y1
   unfold date_Print.j0
   repeat' first
   | (with_reducible exact ih0 _ _)
   | (with_reducible exact date_digits.mono _ _ _)
   | (with_reducible exact date_of.mono _ _)
   | (with_reducible exact LeO.refl _)
   | (with_reducible exact LeO.none _)
   | (with_reducible refine LeO.ite ?_ ?_)
   | (with_reducible refine LeO.bind ?_ (fun _ => ?_))
   | exact ih0 _ _
   | exact date_digits.mono _ _ _
   | exact date_of.mono _ _
   | exact LeO.none _
   | refine LeO.ite ?_ ?_
   | refine LeO.bind ?_ (fun _ => ?_)
theorem date_Print.mono : ∀ a0 k, LeO (date_Print.f k a0) (date_Print.f (k + 1) a0) := by
 intro a0 k
 have ih0 := date_Print.mono_l k
 unfold date_Print.f
 repeat' first
   | (with_reducible exact ih0 _ _)
   | (with_reducible exact date_digits.mono _ _ _)
   | (with_reducible exact date_of.mono _ _)
   | (with_reducible exact LeO.refl _)
   | (with_reducible exact LeO.none _)
   | (with_reducible refine LeO.ite ?_ ?_)
   | (with_reducible refine LeO.bind ?_ (fun _ => ?_))
   | exact ih0 _ _
   | exact date_digits.mono _ _ _
   | exact date_of.mono _ _
   | exact LeO.none _
   | refine LeO.ite ?_ ?_
   | refine LeO.bind ?_ (fun _ => ?_)
def date_Print.T6 : Bool × List (List Nat × List Nat) := (true, [([], []), ([], []), ([1, 0], [1]), ([0, 2], [0, 2]), ([3], [3]), ([4], [4]), ([], []), ([6, 2], [6]), ([5, 7], [5, 7]), ([8], [8]), ([7], []), ([], []), ([11], [11]), ([10, 12], [10, 12]), ([9, 13], [9, 13]), ([14], [14]), ([], []), ([16, 10], [16]), ([15, 17], [15, 17]), ([18], [18]), ([], []), ([19, 20], [19, 20]), ([21], [21]), ([22, 17, 0, 1, 2, 3, 4, 5, 6, 7, 8, 9, 10, 11, 12, 13, 14, 15, 16, 17, 18, 19, 20, 21, 22], [22]), ([23, 0, 1, 2, 3, 4, 5, 6, 7, 8, 9, 10, 11, 12, 13, 14, 15, 16, 17, 18, 19, 20, 21, 22, 23], [])])
def date_Print.B6 : List Nat := [0, 0, 3, 7, 15, 31, 0, 71, 255, 511, 199, 0, 2048, 7367, 16383, 32767, 0, 66759, 262143, 524287, 0, 2097151, 4194303, 8388607, 16777215]
theorem date_Print.tab6 : rtab .any (opsOf Try.f12 6) = date_Print.T6 := by kernel_rfl
theorem date_Print.bits6 : waitsOk date_Print.T6.2 date_Print.B6 = true := by kernel_rfl
set_option maxHeartbeats 8000000 in
set_option maxRecDepth 100000 in
theorem date_Print.calls (k : Nat) (a0 : Int) (r1 : ByteArray) (r2 : Int) (w : World) (h : date_Print.f k a0 = some (r1, r2)) :
  Calls Try.prog 12 #[.int .i64 a0] w fun e w' => e = .returned (.tuple #[.string r1, .int .i64 r2]) ∧ Below w.heap.size w w' := by
 have hixv55 : ∀ (x0 x1 x2 x3 x4 x5 x6 : ByteArray) (j : Int), 0 ≤ j → j < 7 → ∀ W : World, (Instr.index 55 (.agg #[.string x0, .string x1, .string x2, .string x3, .string x4, .string x5, .string x6]) (.int .i64 j)).run Try.prog W = .ok (.string (arrAt [x0, x1, x2, x3, x4, x5, x6] (⟨#[]⟩ : ByteArray) j)) W := by
  intro x0 x1 x2 x3 x4 x5 x6 j h0 h1 W
  rcases (by omega : j = 0 ∨ j = 1 ∨ j = 2 ∨ j = 3 ∨ j = 4 ∨ j = 5 ∨ j = 6) with rfl | rfl | rfl | rfl | rfl | rfl | rfl <;> rfl
 have hixv57 : ∀ (x0 x1 x2 x3 x4 x5 x6 x7 x8 x9 x10 x11 : ByteArray) (j : Int), 0 ≤ j → j < 12 → ∀ W : World, (Instr.index 57 (.agg #[.string x0, .string x1, .string x2, .string x3, .string x4, .string x5, .string x6, .string x7, .string x8, .string x9, .string x10, .string x11]) (.int .i64 j)).run Try.prog W = .ok (.string (arrAt [x0, x1, x2, x3, x4, x5, x6, x7, x8, x9, x10, x11] (⟨#[]⟩ : ByteArray) j)) W := by
  intro x0 x1 x2 x3 x4 x5 x6 x7 x8 x9 x10 x11 j h0 h1 W
  rcases (by omega : j = 0 ∨ j = 1 ∨ j = 2 ∨ j = 3 ∨ j = 4 ∨ j = 5 ∨ j = 6 ∨ j = 7 ∨ j = 8 ∨ j = 9 ∨ j = 10 ∨ j = 11) with rfl | rfl | rfl | rfl | rfl | rfl | rfl | rfl | rfl | rfl | rfl | rfl <;> rfl
 have HB := Aside0.mk (Below.refl w.heap.size w)
 have H : (if a0 < 0 then (date_Print.j0 k a0 true) else (date_Print.j0 k a0 (decide (a0 ≥ 253402300800)))) = some (r1, r2) := h
 clear h
 have HC2 := Aside0.mk H
 clear H
 go_enter Try.func12, Try.ntmps12
 go_upto_region 1 with (fail)
 go_cut [15] (fun v15 wc => ∃ (kq : Nat) (x15_1 : Bool), v15 = .bool x15_1 ∧ Aside0 (date_Print.j0 kq a0 x15_1 = some (r1, r2)) ∧ Aside0 (kq ≤ k) ∧ Aside0 (Below w.heap.size w wc))
 case first =>
  have H := HC2.out
  clear HC2
  by_cases c3 : a0 < 0
  ·rw [if_pos c3] at H
   have c3b0 : decide (a0 < 0) = true := decide_eq_true c3
   clear c3
   (first | rw [c3b0] | (simp only [i64_w, i32_w]; rw [c3b0]) | skip)
   have H' := Aside0.mk H
   clear H
   go_wp2
   go_meet
   case rel => exact ⟨_, (true), (by first | rfl | (simp; done) | (simp [*]; done)), H', ⟨by first | omega | exact Nat.le_refl _⟩, ⟨by repeat (first | (with_reducible first | exact HB.out | apply below_alloc | apply pw_below_drewN | apply below_drew1) | exact HB.out)⟩⟩
  ·rw [if_neg c3] at H
   have c3b0 : decide (a0 < 0) = false := decide_eq_false c3
   clear c3
   (first | rw [c3b0] | (simp only [i64_w, i32_w]; rw [c3b0]) | skip)
   have H' := Aside0.mk H
   clear H
   go_wp2
   go_meet
   case rel => exact ⟨_, (decide (a0 ≥ 253402300800)), (by first | rfl | (simp; done) | (simp [*]; done)), H', ⟨by first | omega | exact Nat.le_refl _⟩, ⟨by repeat (first | (with_reducible first | exact HB.out | apply below_alloc | apply pw_below_drewN | apply below_drew1) | exact HB.out)⟩⟩
 case rest =>
  clear HC2
  try clear c1
  try clear p2
  try clear c3
  try clear c3b0
  obtain ⟨kq, x15_1, rfl, HA, HJ1, HB⟩ := hcut
  cases kq with
  | zero => exact absurd HA.out (by simp [date_Print.j0])
  | succ kj1 =>
   have H := HA.out
   clear HA
   simp only [date_Print.j0] at H
   by_cases c4 : x15_1 = true
   ·subst c4
    have H1 : (some ((⟨#[]⟩ : ByteArray), 6)) = some (r1, r2) := by rw [if_pos rfl] at H; exact H
    clear H
    have H := H1
    clear H1
    simp only [Option.some.injEq, Prod.mk.injEq] at H
    obtain ⟨rfl, rfl⟩ := H
    go_wp2
    go_ret2
    exact ⟨by first | rfl | (simp [errW_none, errW_some] <;> rfl) | (simp [*, errW_none, errW_some] <;> rfl), by repeat (first | (with_reducible first | exact HB.out | apply below_alloc | apply pw_below_drewN | apply below_drew1) | exact HB.out)⟩
   ·replace c4 := Bool.eq_false_iff.mpr c4
    subst c4
    have H1 : ((date_of.f kj1 (wrap64 (Int.tdiv a0 86400))).bind fun bt118 => ((date_digits.f kj1 (wrap64 (Int.tdiv (Int.tmod a0 86400) 3600)) 2).bind fun t121 => (if t121.size + 1 ≤ 9223372036854775807 then ((date_digits.f kj1 (Int.tmod (wrap64 (Int.tdiv (Int.tmod a0 86400) 60)) 60) 2).bind fun t122 => (if (t121 ++ (⟨#[58]⟩ : ByteArray)).size + t122.size ≤ 9223372036854775807 then (if ((t121 ++ (⟨#[58]⟩ : ByteArray)) ++ t122).size + 1 ≤ 9223372036854775807 then ((date_digits.f kj1 (Int.tmod a0 60) 2).bind fun t123 => (if (((t121 ++ (⟨#[58]⟩ : ByteArray)) ++ t122) ++ (⟨#[58]⟩ : ByteArray)).size + t123.size ≤ 9223372036854775807 then ((date_weekdays.f).bind fun bt124 => ((date_Weekday.f (wrap64 (Int.tdiv a0 86400))).bind fun t131 => (if 0 ≤ t131 then (if t131 < 7 then (if 0 ≤ 3 then (if 3 ≤ ((arrAt [bt124.1, bt124.2.1, bt124.2.2.1, bt124.2.2.2.1, bt124.2.2.2.2.1, bt124.2.2.2.2.2.1, bt124.2.2.2.2.2.2] (⟨#[]⟩ : ByteArray) t131).size : Int) then (if ((arrAt [bt124.1, bt124.2.1, bt124.2.2.1, bt124.2.2.2.1, bt124.2.2.2.2.1, bt124.2.2.2.2.2.1, bt124.2.2.2.2.2.2] (⟨#[]⟩ : ByteArray) t131).extract 0 3).size + 2 ≤ 9223372036854775807 then ((date_digits.f kj1 bt118.2.2 2).bind fun t132 => (if (((arrAt [bt124.1, bt124.2.1, bt124.2.2.1, bt124.2.2.2.1, bt124.2.2.2.2.1, bt124.2.2.2.2.2.1, bt124.2.2.2.2.2.2] (⟨#[]⟩ : ByteArray) t131).extract 0 3) ++ (⟨#[44, 32]⟩ : ByteArray)).size + t132.size ≤ 9223372036854775807 then (if ((((arrAt [bt124.1, bt124.2.1, bt124.2.2.1, bt124.2.2.2.1, bt124.2.2.2.2.1, bt124.2.2.2.2.2.1, bt124.2.2.2.2.2.2] (⟨#[]⟩ : ByteArray) t131).extract 0 3) ++ (⟨#[44, 32]⟩ : ByteArray)) ++ t132).size + 1 ≤ 9223372036854775807 then ((date_names.f).bind fun bt133 => (if 0 ≤ (wrap64 (bt118.2.1 - 1)) then (if (wrap64 (bt118.2.1 - 1)) < 12 then (if (((((arrAt [bt124.1, bt124.2.1, bt124.2.2.1, bt124.2.2.2.1, bt124.2.2.2.2.1, bt124.2.2.2.2.2.1, bt124.2.2.2.2.2.2] (⟨#[]⟩ : ByteArray) t131).extract 0 3) ++ (⟨#[44, 32]⟩ : ByteArray)) ++ t132) ++ (⟨#[32]⟩ : ByteArray)).size + (arrAt [bt133.1, bt133.2.1, bt133.2.2.1, bt133.2.2.2.1, bt133.2.2.2.2.1, bt133.2.2.2.2.2.1, bt133.2.2.2.2.2.2.1, bt133.2.2.2.2.2.2.2.1, bt133.2.2.2.2.2.2.2.2.1, bt133.2.2.2.2.2.2.2.2.2.1, bt133.2.2.2.2.2.2.2.2.2.2.1, bt133.2.2.2.2.2.2.2.2.2.2.2] (⟨#[]⟩ : ByteArray) (wrap64 (bt118.2.1 - 1))).size ≤ 9223372036854775807 then (if ((((((arrAt [bt124.1, bt124.2.1, bt124.2.2.1, bt124.2.2.2.1, bt124.2.2.2.2.1, bt124.2.2.2.2.2.1, bt124.2.2.2.2.2.2] (⟨#[]⟩ : ByteArray) t131).extract 0 3) ++ (⟨#[44, 32]⟩ : ByteArray)) ++ t132) ++ (⟨#[32]⟩ : ByteArray)) ++ (arrAt [bt133.1, bt133.2.1, bt133.2.2.1, bt133.2.2.2.1, bt133.2.2.2.2.1, bt133.2.2.2.2.2.1, bt133.2.2.2.2.2.2.1, bt133.2.2.2.2.2.2.2.1, bt133.2.2.2.2.2.2.2.2.1, bt133.2.2.2.2.2.2.2.2.2.1, bt133.2.2.2.2.2.2.2.2.2.2.1, bt133.2.2.2.2.2.2.2.2.2.2.2] (⟨#[]⟩ : ByteArray) (wrap64 (bt118.2.1 - 1)))).size + 1 ≤ 9223372036854775807 then ((date_digits.f kj1 bt118.1 4).bind fun t145 => (if (((((((arrAt [bt124.1, bt124.2.1, bt124.2.2.1, bt124.2.2.2.1, bt124.2.2.2.2.1, bt124.2.2.2.2.2.1, bt124.2.2.2.2.2.2] (⟨#[]⟩ : ByteArray) t131).extract 0 3) ++ (⟨#[44, 32]⟩ : ByteArray)) ++ t132) ++ (⟨#[32]⟩ : ByteArray)) ++ (arrAt [bt133.1, bt133.2.1, bt133.2.2.1, bt133.2.2.2.1, bt133.2.2.2.2.1, bt133.2.2.2.2.2.1, bt133.2.2.2.2.2.2.1, bt133.2.2.2.2.2.2.2.1, bt133.2.2.2.2.2.2.2.2.1, bt133.2.2.2.2.2.2.2.2.2.1, bt133.2.2.2.2.2.2.2.2.2.2.1, bt133.2.2.2.2.2.2.2.2.2.2.2] (⟨#[]⟩ : ByteArray) (wrap64 (bt118.2.1 - 1)))) ++ (⟨#[32]⟩ : ByteArray)).size + t145.size ≤ 9223372036854775807 then (if ((((((((arrAt [bt124.1, bt124.2.1, bt124.2.2.1, bt124.2.2.2.1, bt124.2.2.2.2.1, bt124.2.2.2.2.2.1, bt124.2.2.2.2.2.2] (⟨#[]⟩ : ByteArray) t131).extract 0 3) ++ (⟨#[44, 32]⟩ : ByteArray)) ++ t132) ++ (⟨#[32]⟩ : ByteArray)) ++ (arrAt [bt133.1, bt133.2.1, bt133.2.2.1, bt133.2.2.2.1, bt133.2.2.2.2.1, bt133.2.2.2.2.2.1, bt133.2.2.2.2.2.2.1, bt133.2.2.2.2.2.2.2.1, bt133.2.2.2.2.2.2.2.2.1, bt133.2.2.2.2.2.2.2.2.2.1, bt133.2.2.2.2.2.2.2.2.2.2.1, bt133.2.2.2.2.2.2.2.2.2.2.2] (⟨#[]⟩ : ByteArray) (wrap64 (bt118.2.1 - 1)))) ++ (⟨#[32]⟩ : ByteArray)) ++ t145).size + 1 ≤ 9223372036854775807 then (if (((((((((arrAt [bt124.1, bt124.2.1, bt124.2.2.1, bt124.2.2.2.1, bt124.2.2.2.2.1, bt124.2.2.2.2.2.1, bt124.2.2.2.2.2.2] (⟨#[]⟩ : ByteArray) t131).extract 0 3) ++ (⟨#[44, 32]⟩ : ByteArray)) ++ t132) ++ (⟨#[32]⟩ : ByteArray)) ++ (arrAt [bt133.1, bt133.2.1, bt133.2.2.1, bt133.2.2.2.1, bt133.2.2.2.2.1, bt133.2.2.2.2.2.1, bt133.2.2.2.2.2.2.1, bt133.2.2.2.2.2.2.2.1, bt133.2.2.2.2.2.2.2.2.1, bt133.2.2.2.2.2.2.2.2.2.1, bt133.2.2.2.2.2.2.2.2.2.2.1, bt133.2.2.2.2.2.2.2.2.2.2.2] (⟨#[]⟩ : ByteArray) (wrap64 (bt118.2.1 - 1)))) ++ (⟨#[32]⟩ : ByteArray)) ++ t145) ++ (⟨#[32]⟩ : ByteArray)).size + ((((t121 ++ (⟨#[58]⟩ : ByteArray)) ++ t122) ++ (⟨#[58]⟩ : ByteArray)) ++ t123).size ≤ 9223372036854775807 then (if ((((((((((arrAt [bt124.1, bt124.2.1, bt124.2.2.1, bt124.2.2.2.1, bt124.2.2.2.2.1, bt124.2.2.2.2.2.1, bt124.2.2.2.2.2.2] (⟨#[]⟩ : ByteArray) t131).extract 0 3) ++ (⟨#[44, 32]⟩ : ByteArray)) ++ t132) ++ (⟨#[32]⟩ : ByteArray)) ++ (arrAt [bt133.1, bt133.2.1, bt133.2.2.1, bt133.2.2.2.1, bt133.2.2.2.2.1, bt133.2.2.2.2.2.1, bt133.2.2.2.2.2.2.1, bt133.2.2.2.2.2.2.2.1, bt133.2.2.2.2.2.2.2.2.1, bt133.2.2.2.2.2.2.2.2.2.1, bt133.2.2.2.2.2.2.2.2.2.2.1, bt133.2.2.2.2.2.2.2.2.2.2.2] (⟨#[]⟩ : ByteArray) (wrap64 (bt118.2.1 - 1)))) ++ (⟨#[32]⟩ : ByteArray)) ++ t145) ++ (⟨#[32]⟩ : ByteArray)) ++ ((((t121 ++ (⟨#[58]⟩ : ByteArray)) ++ t122) ++ (⟨#[58]⟩ : ByteArray)) ++ t123)).size + 4 ≤ 9223372036854775807 then (some (((((((((((arrAt [bt124.1, bt124.2.1, bt124.2.2.1, bt124.2.2.2.1, bt124.2.2.2.2.1, bt124.2.2.2.2.2.1, bt124.2.2.2.2.2.2] (⟨#[]⟩ : ByteArray) t131).extract 0 3) ++ (⟨#[44, 32]⟩ : ByteArray)) ++ t132) ++ (⟨#[32]⟩ : ByteArray)) ++ (arrAt [bt133.1, bt133.2.1, bt133.2.2.1, bt133.2.2.2.1, bt133.2.2.2.2.1, bt133.2.2.2.2.2.1, bt133.2.2.2.2.2.2.1, bt133.2.2.2.2.2.2.2.1, bt133.2.2.2.2.2.2.2.2.1, bt133.2.2.2.2.2.2.2.2.2.1, bt133.2.2.2.2.2.2.2.2.2.2.1, bt133.2.2.2.2.2.2.2.2.2.2.2] (⟨#[]⟩ : ByteArray) (wrap64 (bt118.2.1 - 1)))) ++ (⟨#[32]⟩ : ByteArray)) ++ t145) ++ (⟨#[32]⟩ : ByteArray)) ++ ((((t121 ++ (⟨#[58]⟩ : ByteArray)) ++ t122) ++ (⟨#[58]⟩ : ByteArray)) ++ t123)) ++ (⟨#[32, 71, 77, 84]⟩ : ByteArray), 0)) else (none)) else (none)) else (none)) else (none))) else (none)) else (none)) else (none)) else (none))) else (none)) else (none))) else (none)) else (none)) else (none)) else (none)) else (none)))) else (none))) else (none)) else (none))) else (none)))) = some (r1, r2) := by rw [if_neg (show ¬ (false = true) by decide)] at H; exact H
    clear H
    have H := H1
    clear H1
    replace H := Option.bind_eq_some_iff.mp H
    obtain ⟨⟨t118, t119, t120⟩, A50, H⟩ := H
    replace H : ((date_digits.f kj1 (wrap64 (Int.tdiv (Int.tmod a0 86400) 3600)) 2).bind fun t121 => (if t121.size + 1 ≤ 9223372036854775807 then ((date_digits.f kj1 (Int.tmod (wrap64 (Int.tdiv (Int.tmod a0 86400) 60)) 60) 2).bind fun t122 => (if (t121 ++ (⟨#[58]⟩ : ByteArray)).size + t122.size ≤ 9223372036854775807 then (if ((t121 ++ (⟨#[58]⟩ : ByteArray)) ++ t122).size + 1 ≤ 9223372036854775807 then ((date_digits.f kj1 (Int.tmod a0 60) 2).bind fun t123 => (if (((t121 ++ (⟨#[58]⟩ : ByteArray)) ++ t122) ++ (⟨#[58]⟩ : ByteArray)).size + t123.size ≤ 9223372036854775807 then ((date_weekdays.f).bind fun bt124 => ((date_Weekday.f (wrap64 (Int.tdiv a0 86400))).bind fun t131 => (if 0 ≤ t131 then (if t131 < 7 then (if 0 ≤ 3 then (if 3 ≤ ((arrAt [bt124.1, bt124.2.1, bt124.2.2.1, bt124.2.2.2.1, bt124.2.2.2.2.1, bt124.2.2.2.2.2.1, bt124.2.2.2.2.2.2] (⟨#[]⟩ : ByteArray) t131).size : Int) then (if ((arrAt [bt124.1, bt124.2.1, bt124.2.2.1, bt124.2.2.2.1, bt124.2.2.2.2.1, bt124.2.2.2.2.2.1, bt124.2.2.2.2.2.2] (⟨#[]⟩ : ByteArray) t131).extract 0 3).size + 2 ≤ 9223372036854775807 then ((date_digits.f kj1 t120 2).bind fun t132 => (if (((arrAt [bt124.1, bt124.2.1, bt124.2.2.1, bt124.2.2.2.1, bt124.2.2.2.2.1, bt124.2.2.2.2.2.1, bt124.2.2.2.2.2.2] (⟨#[]⟩ : ByteArray) t131).extract 0 3) ++ (⟨#[44, 32]⟩ : ByteArray)).size + t132.size ≤ 9223372036854775807 then (if ((((arrAt [bt124.1, bt124.2.1, bt124.2.2.1, bt124.2.2.2.1, bt124.2.2.2.2.1, bt124.2.2.2.2.2.1, bt124.2.2.2.2.2.2] (⟨#[]⟩ : ByteArray) t131).extract 0 3) ++ (⟨#[44, 32]⟩ : ByteArray)) ++ t132).size + 1 ≤ 9223372036854775807 then ((date_names.f).bind fun bt133 => (if 0 ≤ (wrap64 (t119 - 1)) then (if (wrap64 (t119 - 1)) < 12 then (if (((((arrAt [bt124.1, bt124.2.1, bt124.2.2.1, bt124.2.2.2.1, bt124.2.2.2.2.1, bt124.2.2.2.2.2.1, bt124.2.2.2.2.2.2] (⟨#[]⟩ : ByteArray) t131).extract 0 3) ++ (⟨#[44, 32]⟩ : ByteArray)) ++ t132) ++ (⟨#[32]⟩ : ByteArray)).size + (arrAt [bt133.1, bt133.2.1, bt133.2.2.1, bt133.2.2.2.1, bt133.2.2.2.2.1, bt133.2.2.2.2.2.1, bt133.2.2.2.2.2.2.1, bt133.2.2.2.2.2.2.2.1, bt133.2.2.2.2.2.2.2.2.1, bt133.2.2.2.2.2.2.2.2.2.1, bt133.2.2.2.2.2.2.2.2.2.2.1, bt133.2.2.2.2.2.2.2.2.2.2.2] (⟨#[]⟩ : ByteArray) (wrap64 (t119 - 1))).size ≤ 9223372036854775807 then (if ((((((arrAt [bt124.1, bt124.2.1, bt124.2.2.1, bt124.2.2.2.1, bt124.2.2.2.2.1, bt124.2.2.2.2.2.1, bt124.2.2.2.2.2.2] (⟨#[]⟩ : ByteArray) t131).extract 0 3) ++ (⟨#[44, 32]⟩ : ByteArray)) ++ t132) ++ (⟨#[32]⟩ : ByteArray)) ++ (arrAt [bt133.1, bt133.2.1, bt133.2.2.1, bt133.2.2.2.1, bt133.2.2.2.2.1, bt133.2.2.2.2.2.1, bt133.2.2.2.2.2.2.1, bt133.2.2.2.2.2.2.2.1, bt133.2.2.2.2.2.2.2.2.1, bt133.2.2.2.2.2.2.2.2.2.1, bt133.2.2.2.2.2.2.2.2.2.2.1, bt133.2.2.2.2.2.2.2.2.2.2.2] (⟨#[]⟩ : ByteArray) (wrap64 (t119 - 1)))).size + 1 ≤ 9223372036854775807 then ((date_digits.f kj1 t118 4).bind fun t145 => (if (((((((arrAt [bt124.1, bt124.2.1, bt124.2.2.1, bt124.2.2.2.1, bt124.2.2.2.2.1, bt124.2.2.2.2.2.1, bt124.2.2.2.2.2.2] (⟨#[]⟩ : ByteArray) t131).extract 0 3) ++ (⟨#[44, 32]⟩ : ByteArray)) ++ t132) ++ (⟨#[32]⟩ : ByteArray)) ++ (arrAt [bt133.1, bt133.2.1, bt133.2.2.1, bt133.2.2.2.1, bt133.2.2.2.2.1, bt133.2.2.2.2.2.1, bt133.2.2.2.2.2.2.1, bt133.2.2.2.2.2.2.2.1, bt133.2.2.2.2.2.2.2.2.1, bt133.2.2.2.2.2.2.2.2.2.1, bt133.2.2.2.2.2.2.2.2.2.2.1, bt133.2.2.2.2.2.2.2.2.2.2.2] (⟨#[]⟩ : ByteArray) (wrap64 (t119 - 1)))) ++ (⟨#[32]⟩ : ByteArray)).size + t145.size ≤ 9223372036854775807 then (if ((((((((arrAt [bt124.1, bt124.2.1, bt124.2.2.1, bt124.2.2.2.1, bt124.2.2.2.2.1, bt124.2.2.2.2.2.1, bt124.2.2.2.2.2.2] (⟨#[]⟩ : ByteArray) t131).extract 0 3) ++ (⟨#[44, 32]⟩ : ByteArray)) ++ t132) ++ (⟨#[32]⟩ : ByteArray)) ++ (arrAt [bt133.1, bt133.2.1, bt133.2.2.1, bt133.2.2.2.1, bt133.2.2.2.2.1, bt133.2.2.2.2.2.1, bt133.2.2.2.2.2.2.1, bt133.2.2.2.2.2.2.2.1, bt133.2.2.2.2.2.2.2.2.1, bt133.2.2.2.2.2.2.2.2.2.1, bt133.2.2.2.2.2.2.2.2.2.2.1, bt133.2.2.2.2.2.2.2.2.2.2.2] (⟨#[]⟩ : ByteArray) (wrap64 (t119 - 1)))) ++ (⟨#[32]⟩ : ByteArray)) ++ t145).size + 1 ≤ 9223372036854775807 then (if (((((((((arrAt [bt124.1, bt124.2.1, bt124.2.2.1, bt124.2.2.2.1, bt124.2.2.2.2.1, bt124.2.2.2.2.2.1, bt124.2.2.2.2.2.2] (⟨#[]⟩ : ByteArray) t131).extract 0 3) ++ (⟨#[44, 32]⟩ : ByteArray)) ++ t132) ++ (⟨#[32]⟩ : ByteArray)) ++ (arrAt [bt133.1, bt133.2.1, bt133.2.2.1, bt133.2.2.2.1, bt133.2.2.2.2.1, bt133.2.2.2.2.2.1, bt133.2.2.2.2.2.2.1, bt133.2.2.2.2.2.2.2.1, bt133.2.2.2.2.2.2.2.2.1, bt133.2.2.2.2.2.2.2.2.2.1, bt133.2.2.2.2.2.2.2.2.2.2.1, bt133.2.2.2.2.2.2.2.2.2.2.2] (⟨#[]⟩ : ByteArray) (wrap64 (t119 - 1)))) ++ (⟨#[32]⟩ : ByteArray)) ++ t145) ++ (⟨#[32]⟩ : ByteArray)).size + ((((t121 ++ (⟨#[58]⟩ : ByteArray)) ++ t122) ++ (⟨#[58]⟩ : ByteArray)) ++ t123).size ≤ 9223372036854775807 then (if ((((((((((arrAt [bt124.1, bt124.2.1, bt124.2.2.1, bt124.2.2.2.1, bt124.2.2.2.2.1, bt124.2.2.2.2.2.1, bt124.2.2.2.2.2.2] (⟨#[]⟩ : ByteArray) t131).extract 0 3) ++ (⟨#[44, 32]⟩ : ByteArray)) ++ t132) ++ (⟨#[32]⟩ : ByteArray)) ++ (arrAt [bt133.1, bt133.2.1, bt133.2.2.1, bt133.2.2.2.1, bt133.2.2.2.2.1, bt133.2.2.2.2.2.1, bt133.2.2.2.2.2.2.1, bt133.2.2.2.2.2.2.2.1, bt133.2.2.2.2.2.2.2.2.1, bt133.2.2.2.2.2.2.2.2.2.1, bt133.2.2.2.2.2.2.2.2.2.2.1, bt133.2.2.2.2.2.2.2.2.2.2.2] (⟨#[]⟩ : ByteArray) (wrap64 (t119 - 1)))) ++ (⟨#[32]⟩ : ByteArray)) ++ t145) ++ (⟨#[32]⟩ : ByteArray)) ++ ((((t121 ++ (⟨#[58]⟩ : ByteArray)) ++ t122) ++ (⟨#[58]⟩ : ByteArray)) ++ t123)).size + 4 ≤ 9223372036854775807 then (some (((((((((((arrAt [bt124.1, bt124.2.1, bt124.2.2.1, bt124.2.2.2.1, bt124.2.2.2.2.1, bt124.2.2.2.2.2.1, bt124.2.2.2.2.2.2] (⟨#[]⟩ : ByteArray) t131).extract 0 3) ++ (⟨#[44, 32]⟩ : ByteArray)) ++ t132) ++ (⟨#[32]⟩ : ByteArray)) ++ (arrAt [bt133.1, bt133.2.1, bt133.2.2.1, bt133.2.2.2.1, bt133.2.2.2.2.1, bt133.2.2.2.2.2.1, bt133.2.2.2.2.2.2.1, bt133.2.2.2.2.2.2.2.1, bt133.2.2.2.2.2.2.2.2.1, bt133.2.2.2.2.2.2.2.2.2.1, bt133.2.2.2.2.2.2.2.2.2.2.1, bt133.2.2.2.2.2.2.2.2.2.2.2] (⟨#[]⟩ : ByteArray) (wrap64 (t119 - 1)))) ++ (⟨#[32]⟩ : ByteArray)) ++ t145) ++ (⟨#[32]⟩ : ByteArray)) ++ ((((t121 ++ (⟨#[58]⟩ : ByteArray)) ++ t122) ++ (⟨#[58]⟩ : ByteArray)) ++ t123)) ++ (⟨#[32, 71, 77, 84]⟩ : ByteArray), 0)) else (none)) else (none)) else (none)) else (none))) else (none)) else (none)) else (none)) else (none))) else (none)) else (none))) else (none)) else (none)) else (none)) else (none)) else (none)))) else (none))) else (none)) else (none))) else (none))) = some (r1, r2) := H
    have A5 := Aside0.mk A50
    clear A50
    replace H := Option.bind_eq_some_iff.mp H
    obtain ⟨t121, A60, H⟩ := H
    have A6 := Aside0.mk A60
    clear A60
    by_cases c7 : t121.size + 1 ≤ 9223372036854775807
    ·rw [if_pos c7] at H
     have c7s := c7
     (try simp only [ByteArray.size_append, ByteArray.size_extract, Nat.sub_zero, Nat.min_self, bsize_lit, List.size_toArray, List.length_cons, List.length_nil, Nat.zero_add, Nat.reduceAdd] at c7s)
     have c7b2 := eq_false (Nat.not_lt.2 c7s)
     have c7q := Aside0.mk c7
     clear c7 c7s
     replace H := Option.bind_eq_some_iff.mp H
     obtain ⟨t122, A80, H⟩ := H
     have A8 := Aside0.mk A80
     clear A80
     by_cases c9 : (t121 ++ (⟨#[58]⟩ : ByteArray)).size + t122.size ≤ 9223372036854775807
     ·rw [if_pos c9] at H
      have c9s := c9
      (try simp only [ByteArray.size_append, ByteArray.size_extract, Nat.sub_zero, Nat.min_self, bsize_lit, List.size_toArray, List.length_cons, List.length_nil, Nat.zero_add, Nat.reduceAdd] at c9s)
      have c9b2 := eq_false (Nat.not_lt.2 c9s)
      have c9q := Aside0.mk c9
      clear c9 c9s
      by_cases c10 : ((t121 ++ (⟨#[58]⟩ : ByteArray)) ++ t122).size + 1 ≤ 9223372036854775807
      ·rw [if_pos c10] at H
       have c10s := c10
       (try simp only [ByteArray.size_append, ByteArray.size_extract, Nat.sub_zero, Nat.min_self, bsize_lit, List.size_toArray, List.length_cons, List.length_nil, Nat.zero_add, Nat.reduceAdd] at c10s)
       have c10b2 := eq_false (Nat.not_lt.2 c10s)
       have c10q := Aside0.mk c10
       clear c10 c10s
       replace H := Option.bind_eq_some_iff.mp H
       obtain ⟨t123, A110, H⟩ := H
       have A11 := Aside0.mk A110
       clear A110
       by_cases c12 : (((t121 ++ (⟨#[58]⟩ : ByteArray)) ++ t122) ++ (⟨#[58]⟩ : ByteArray)).size + t123.size ≤ 9223372036854775807
       ·rw [if_pos c12] at H
        have c12s := c12
        (try simp only [ByteArray.size_append, ByteArray.size_extract, Nat.sub_zero, Nat.min_self, bsize_lit, List.size_toArray, List.length_cons, List.length_nil, Nat.zero_add, Nat.reduceAdd] at c12s)
        have c12b2 := eq_false (Nat.not_lt.2 c12s)
        have c12q := Aside0.mk c12
        clear c12 c12s
        replace H := Option.bind_eq_some_iff.mp H
        obtain ⟨⟨t124, t125, t126, t127, t128, t129, t130⟩, A130, H⟩ := H
        replace H : ((date_Weekday.f (wrap64 (Int.tdiv a0 86400))).bind fun t131 => (if 0 ≤ t131 then (if t131 < 7 then (if 0 ≤ 3 then (if 3 ≤ ((arrAt [t124, t125, t126, t127, t128, t129, t130] (⟨#[]⟩ : ByteArray) t131).size : Int) then (if ((arrAt [t124, t125, t126, t127, t128, t129, t130] (⟨#[]⟩ : ByteArray) t131).extract 0 3).size + 2 ≤ 9223372036854775807 then ((date_digits.f kj1 t120 2).bind fun t132 => (if (((arrAt [t124, t125, t126, t127, t128, t129, t130] (⟨#[]⟩ : ByteArray) t131).extract 0 3) ++ (⟨#[44, 32]⟩ : ByteArray)).size + t132.size ≤ 9223372036854775807 then (if ((((arrAt [t124, t125, t126, t127, t128, t129, t130] (⟨#[]⟩ : ByteArray) t131).extract 0 3) ++ (⟨#[44, 32]⟩ : ByteArray)) ++ t132).size + 1 ≤ 9223372036854775807 then ((date_names.f).bind fun bt133 => (if 0 ≤ (wrap64 (t119 - 1)) then (if (wrap64 (t119 - 1)) < 12 then (if (((((arrAt [t124, t125, t126, t127, t128, t129, t130] (⟨#[]⟩ : ByteArray) t131).extract 0 3) ++ (⟨#[44, 32]⟩ : ByteArray)) ++ t132) ++ (⟨#[32]⟩ : ByteArray)).size + (arrAt [bt133.1, bt133.2.1, bt133.2.2.1, bt133.2.2.2.1, bt133.2.2.2.2.1, bt133.2.2.2.2.2.1, bt133.2.2.2.2.2.2.1, bt133.2.2.2.2.2.2.2.1, bt133.2.2.2.2.2.2.2.2.1, bt133.2.2.2.2.2.2.2.2.2.1, bt133.2.2.2.2.2.2.2.2.2.2.1, bt133.2.2.2.2.2.2.2.2.2.2.2] (⟨#[]⟩ : ByteArray) (wrap64 (t119 - 1))).size ≤ 9223372036854775807 then (if ((((((arrAt [t124, t125, t126, t127, t128, t129, t130] (⟨#[]⟩ : ByteArray) t131).extract 0 3) ++ (⟨#[44, 32]⟩ : ByteArray)) ++ t132) ++ (⟨#[32]⟩ : ByteArray)) ++ (arrAt [bt133.1, bt133.2.1, bt133.2.2.1, bt133.2.2.2.1, bt133.2.2.2.2.1, bt133.2.2.2.2.2.1, bt133.2.2.2.2.2.2.1, bt133.2.2.2.2.2.2.2.1, bt133.2.2.2.2.2.2.2.2.1, bt133.2.2.2.2.2.2.2.2.2.1, bt133.2.2.2.2.2.2.2.2.2.2.1, bt133.2.2.2.2.2.2.2.2.2.2.2] (⟨#[]⟩ : ByteArray) (wrap64 (t119 - 1)))).size + 1 ≤ 9223372036854775807 then ((date_digits.f kj1 t118 4).bind fun t145 => (if (((((((arrAt [t124, t125, t126, t127, t128, t129, t130] (⟨#[]⟩ : ByteArray) t131).extract 0 3) ++ (⟨#[44, 32]⟩ : ByteArray)) ++ t132) ++ (⟨#[32]⟩ : ByteArray)) ++ (arrAt [bt133.1, bt133.2.1, bt133.2.2.1, bt133.2.2.2.1, bt133.2.2.2.2.1, bt133.2.2.2.2.2.1, bt133.2.2.2.2.2.2.1, bt133.2.2.2.2.2.2.2.1, bt133.2.2.2.2.2.2.2.2.1, bt133.2.2.2.2.2.2.2.2.2.1, bt133.2.2.2.2.2.2.2.2.2.2.1, bt133.2.2.2.2.2.2.2.2.2.2.2] (⟨#[]⟩ : ByteArray) (wrap64 (t119 - 1)))) ++ (⟨#[32]⟩ : ByteArray)).size + t145.size ≤ 9223372036854775807 then (if ((((((((arrAt [t124, t125, t126, t127, t128, t129, t130] (⟨#[]⟩ : ByteArray) t131).extract 0 3) ++ (⟨#[44, 32]⟩ : ByteArray)) ++ t132) ++ (⟨#[32]⟩ : ByteArray)) ++ (arrAt [bt133.1, bt133.2.1, bt133.2.2.1, bt133.2.2.2.1, bt133.2.2.2.2.1, bt133.2.2.2.2.2.1, bt133.2.2.2.2.2.2.1, bt133.2.2.2.2.2.2.2.1, bt133.2.2.2.2.2.2.2.2.1, bt133.2.2.2.2.2.2.2.2.2.1, bt133.2.2.2.2.2.2.2.2.2.2.1, bt133.2.2.2.2.2.2.2.2.2.2.2] (⟨#[]⟩ : ByteArray) (wrap64 (t119 - 1)))) ++ (⟨#[32]⟩ : ByteArray)) ++ t145).size + 1 ≤ 9223372036854775807 then (if (((((((((arrAt [t124, t125, t126, t127, t128, t129, t130] (⟨#[]⟩ : ByteArray) t131).extract 0 3) ++ (⟨#[44, 32]⟩ : ByteArray)) ++ t132) ++ (⟨#[32]⟩ : ByteArray)) ++ (arrAt [bt133.1, bt133.2.1, bt133.2.2.1, bt133.2.2.2.1, bt133.2.2.2.2.1, bt133.2.2.2.2.2.1, bt133.2.2.2.2.2.2.1, bt133.2.2.2.2.2.2.2.1, bt133.2.2.2.2.2.2.2.2.1, bt133.2.2.2.2.2.2.2.2.2.1, bt133.2.2.2.2.2.2.2.2.2.2.1, bt133.2.2.2.2.2.2.2.2.2.2.2] (⟨#[]⟩ : ByteArray) (wrap64 (t119 - 1)))) ++ (⟨#[32]⟩ : ByteArray)) ++ t145) ++ (⟨#[32]⟩ : ByteArray)).size + ((((t121 ++ (⟨#[58]⟩ : ByteArray)) ++ t122) ++ (⟨#[58]⟩ : ByteArray)) ++ t123).size ≤ 9223372036854775807 then (if ((((((((((arrAt [t124, t125, t126, t127, t128, t129, t130] (⟨#[]⟩ : ByteArray) t131).extract 0 3) ++ (⟨#[44, 32]⟩ : ByteArray)) ++ t132) ++ (⟨#[32]⟩ : ByteArray)) ++ (arrAt [bt133.1, bt133.2.1, bt133.2.2.1, bt133.2.2.2.1, bt133.2.2.2.2.1, bt133.2.2.2.2.2.1, bt133.2.2.2.2.2.2.1, bt133.2.2.2.2.2.2.2.1, bt133.2.2.2.2.2.2.2.2.1, bt133.2.2.2.2.2.2.2.2.2.1, bt133.2.2.2.2.2.2.2.2.2.2.1, bt133.2.2.2.2.2.2.2.2.2.2.2] (⟨#[]⟩ : ByteArray) (wrap64 (t119 - 1)))) ++ (⟨#[32]⟩ : ByteArray)) ++ t145) ++ (⟨#[32]⟩ : ByteArray)) ++ ((((t121 ++ (⟨#[58]⟩ : ByteArray)) ++ t122) ++ (⟨#[58]⟩ : ByteArray)) ++ t123)).size + 4 ≤ 9223372036854775807 then (some (((((((((((arrAt [t124, t125, t126, t127, t128, t129, t130] (⟨#[]⟩ : ByteArray) t131).extract 0 3) ++ (⟨#[44, 32]⟩ : ByteArray)) ++ t132) ++ (⟨#[32]⟩ : ByteArray)) ++ (arrAt [bt133.1, bt133.2.1, bt133.2.2.1, bt133.2.2.2.1, bt133.2.2.2.2.1, bt133.2.2.2.2.2.1, bt133.2.2.2.2.2.2.1, bt133.2.2.2.2.2.2.2.1, bt133.2.2.2.2.2.2.2.2.1, bt133.2.2.2.2.2.2.2.2.2.1, bt133.2.2.2.2.2.2.2.2.2.2.1, bt133.2.2.2.2.2.2.2.2.2.2.2] (⟨#[]⟩ : ByteArray) (wrap64 (t119 - 1)))) ++ (⟨#[32]⟩ : ByteArray)) ++ t145) ++ (⟨#[32]⟩ : ByteArray)) ++ ((((t121 ++ (⟨#[58]⟩ : ByteArray)) ++ t122) ++ (⟨#[58]⟩ : ByteArray)) ++ t123)) ++ (⟨#[32, 71, 77, 84]⟩ : ByteArray), 0)) else (none)) else (none)) else (none)) else (none))) else (none)) else (none)) else (none)) else (none))) else (none)) else (none))) else (none)) else (none)) else (none)) else (none)) else (none))) = some (r1, r2) := H
        have A13 := Aside0.mk A130
        clear A130
        replace H := Option.bind_eq_some_iff.mp H
        obtain ⟨t131, A140, H⟩ := H
        have A14 := Aside0.mk A140
        clear A140
        by_cases c15 : 0 ≤ t131
        ·rw [if_pos c15] at H
         have c15b0 : decide (0 ≤ t131) = true := decide_eq_true c15
         clear c15
         by_cases c16 : t131 < 7
         ·rw [if_pos c16] at H
          have c16b0 : decide (t131 < 7) = true := decide_eq_true c16
          clear c16
          by_cases c18 : 0 ≤ 3
          ·rw [if_pos c18] at H
           have c18b0 := eq_true c18
           have c18b1 : decide (0 ≤ 3) = true := decide_eq_true c18
           clear c18
           by_cases c19 : 3 ≤ ((arrAt [t124, t125, t126, t127, t128, t129, t130] (⟨#[]⟩ : ByteArray) t131).size : Int)
           ·rw [if_pos c19] at H
            have c19b0 := eq_true c19
            have c19b1 : decide (3 ≤ ((arrAt [t124, t125, t126, t127, t128, t129, t130] (⟨#[]⟩ : ByteArray) t131).size : Int)) = true := decide_eq_true c19
            clear c19
            by_cases c20 : ((arrAt [t124, t125, t126, t127, t128, t129, t130] (⟨#[]⟩ : ByteArray) t131).extract 0 3).size + 2 ≤ 9223372036854775807
            ·rw [if_pos c20] at H
             have c20s := c20
             (try simp only [ByteArray.size_append, ByteArray.size_extract, Nat.sub_zero, Nat.min_self, bsize_lit, List.size_toArray, List.length_cons, List.length_nil, Nat.zero_add, Nat.reduceAdd] at c20s)
             have c20b2 := eq_false (Nat.not_lt.2 c20s)
             have c20q := Aside0.mk c20
             clear c20 c20s
             replace H := Option.bind_eq_some_iff.mp H
             obtain ⟨t132, A210, H⟩ := H
             have A21 := Aside0.mk A210
             clear A210
             by_cases c22 : (((arrAt [t124, t125, t126, t127, t128, t129, t130] (⟨#[]⟩ : ByteArray) t131).extract 0 3) ++ (⟨#[44, 32]⟩ : ByteArray)).size + t132.size ≤ 9223372036854775807
             ·rw [if_pos c22] at H
              have c22s := c22
              (try simp only [ByteArray.size_append, ByteArray.size_extract, Nat.sub_zero, Nat.min_self, bsize_lit, List.size_toArray, List.length_cons, List.length_nil, Nat.zero_add, Nat.reduceAdd] at c22s)
              have c22b2 := eq_false (Nat.not_lt.2 c22s)
              have c22q := Aside0.mk c22
              clear c22 c22s
              by_cases c23 : ((((arrAt [t124, t125, t126, t127, t128, t129, t130] (⟨#[]⟩ : ByteArray) t131).extract 0 3) ++ (⟨#[44, 32]⟩ : ByteArray)) ++ t132).size + 1 ≤ 9223372036854775807
              ·rw [if_pos c23] at H
               have c23s := c23
               (try simp only [ByteArray.size_append, ByteArray.size_extract, Nat.sub_zero, Nat.min_self, bsize_lit, List.size_toArray, List.length_cons, List.length_nil, Nat.zero_add, Nat.reduceAdd] at c23s)
               have c23b2 := eq_false (Nat.not_lt.2 c23s)
               have c23q := Aside0.mk c23
               clear c23 c23s
               replace H := Option.bind_eq_some_iff.mp H
               obtain ⟨⟨t133, t134, t135, t136, t137, t138, t139, t140, t141, t142, t143, t144⟩, A240, H⟩ := H
               replace H : (if 0 ≤ (wrap64 (t119 - 1)) then (if (wrap64 (t119 - 1)) < 12 then (if (((((arrAt [t124, t125, t126, t127, t128, t129, t130] (⟨#[]⟩ : ByteArray) t131).extract 0 3) ++ (⟨#[44, 32]⟩ : ByteArray)) ++ t132) ++ (⟨#[32]⟩ : ByteArray)).size + (arrAt [t133, t134, t135, t136, t137, t138, t139, t140, t141, t142, t143, t144] (⟨#[]⟩ : ByteArray) (wrap64 (t119 - 1))).size ≤ 9223372036854775807 then (if ((((((arrAt [t124, t125, t126, t127, t128, t129, t130] (⟨#[]⟩ : ByteArray) t131).extract 0 3) ++ (⟨#[44, 32]⟩ : ByteArray)) ++ t132) ++ (⟨#[32]⟩ : ByteArray)) ++ (arrAt [t133, t134, t135, t136, t137, t138, t139, t140, t141, t142, t143, t144] (⟨#[]⟩ : ByteArray) (wrap64 (t119 - 1)))).size + 1 ≤ 9223372036854775807 then ((date_digits.f kj1 t118 4).bind fun t145 => (if (((((((arrAt [t124, t125, t126, t127, t128, t129, t130] (⟨#[]⟩ : ByteArray) t131).extract 0 3) ++ (⟨#[44, 32]⟩ : ByteArray)) ++ t132) ++ (⟨#[32]⟩ : ByteArray)) ++ (arrAt [t133, t134, t135, t136, t137, t138, t139, t140, t141, t142, t143, t144] (⟨#[]⟩ : ByteArray) (wrap64 (t119 - 1)))) ++ (⟨#[32]⟩ : ByteArray)).size + t145.size ≤ 9223372036854775807 then (if ((((((((arrAt [t124, t125, t126, t127, t128, t129, t130] (⟨#[]⟩ : ByteArray) t131).extract 0 3) ++ (⟨#[44, 32]⟩ : ByteArray)) ++ t132) ++ (⟨#[32]⟩ : ByteArray)) ++ (arrAt [t133, t134, t135, t136, t137, t138, t139, t140, t141, t142, t143, t144] (⟨#[]⟩ : ByteArray) (wrap64 (t119 - 1)))) ++ (⟨#[32]⟩ : ByteArray)) ++ t145).size + 1 ≤ 9223372036854775807 then (if (((((((((arrAt [t124, t125, t126, t127, t128, t129, t130] (⟨#[]⟩ : ByteArray) t131).extract 0 3) ++ (⟨#[44, 32]⟩ : ByteArray)) ++ t132) ++ (⟨#[32]⟩ : ByteArray)) ++ (arrAt [t133, t134, t135, t136, t137, t138, t139, t140, t141, t142, t143, t144] (⟨#[]⟩ : ByteArray) (wrap64 (t119 - 1)))) ++ (⟨#[32]⟩ : ByteArray)) ++ t145) ++ (⟨#[32]⟩ : ByteArray)).size + ((((t121 ++ (⟨#[58]⟩ : ByteArray)) ++ t122) ++ (⟨#[58]⟩ : ByteArray)) ++ t123).size ≤ 9223372036854775807 then (if ((((((((((arrAt [t124, t125, t126, t127, t128, t129, t130] (⟨#[]⟩ : ByteArray) t131).extract 0 3) ++ (⟨#[44, 32]⟩ : ByteArray)) ++ t132) ++ (⟨#[32]⟩ : ByteArray)) ++ (arrAt [t133, t134, t135, t136, t137, t138, t139, t140, t141, t142, t143, t144] (⟨#[]⟩ : ByteArray) (wrap64 (t119 - 1)))) ++ (⟨#[32]⟩ : ByteArray)) ++ t145) ++ (⟨#[32]⟩ : ByteArray)) ++ ((((t121 ++ (⟨#[58]⟩ : ByteArray)) ++ t122) ++ (⟨#[58]⟩ : ByteArray)) ++ t123)).size + 4 ≤ 9223372036854775807 then (some (((((((((((arrAt [t124, t125, t126, t127, t128, t129, t130] (⟨#[]⟩ : ByteArray) t131).extract 0 3) ++ (⟨#[44, 32]⟩ : ByteArray)) ++ t132) ++ (⟨#[32]⟩ : ByteArray)) ++ (arrAt [t133, t134, t135, t136, t137, t138, t139, t140, t141, t142, t143, t144] (⟨#[]⟩ : ByteArray) (wrap64 (t119 - 1)))) ++ (⟨#[32]⟩ : ByteArray)) ++ t145) ++ (⟨#[32]⟩ : ByteArray)) ++ ((((t121 ++ (⟨#[58]⟩ : ByteArray)) ++ t122) ++ (⟨#[58]⟩ : ByteArray)) ++ t123)) ++ (⟨#[32, 71, 77, 84]⟩ : ByteArray), 0)) else (none)) else (none)) else (none)) else (none))) else (none)) else (none)) else (none)) else (none)) = some (r1, r2) := H
               have A24 := Aside0.mk A240
               clear A240
               obtain ⟨ji25, hji25⟩ : ∃ j_ : Int, (wrap64 (t119 - 1)) = j_ := ⟨_, rfl⟩
               replace H : (if 0 ≤ (ji25) then (if (ji25) < 12 then (if (((((arrAt [t124, t125, t126, t127, t128, t129, t130] (⟨#[]⟩ : ByteArray) t131).extract 0 3) ++ (⟨#[44, 32]⟩ : ByteArray)) ++ t132) ++ (⟨#[32]⟩ : ByteArray)).size + (arrAt [t133, t134, t135, t136, t137, t138, t139, t140, t141, t142, t143, t144] (⟨#[]⟩ : ByteArray) (ji25)).size ≤ 9223372036854775807 then (if ((((((arrAt [t124, t125, t126, t127, t128, t129, t130] (⟨#[]⟩ : ByteArray) t131).extract 0 3) ++ (⟨#[44, 32]⟩ : ByteArray)) ++ t132) ++ (⟨#[32]⟩ : ByteArray)) ++ (arrAt [t133, t134, t135, t136, t137, t138, t139, t140, t141, t142, t143, t144] (⟨#[]⟩ : ByteArray) (ji25))).size + 1 ≤ 9223372036854775807 then ((date_digits.f kj1 t118 4).bind fun t145 => (if (((((((arrAt [t124, t125, t126, t127, t128, t129, t130] (⟨#[]⟩ : ByteArray) t131).extract 0 3) ++ (⟨#[44, 32]⟩ : ByteArray)) ++ t132) ++ (⟨#[32]⟩ : ByteArray)) ++ (arrAt [t133, t134, t135, t136, t137, t138, t139, t140, t141, t142, t143, t144] (⟨#[]⟩ : ByteArray) (ji25))) ++ (⟨#[32]⟩ : ByteArray)).size + t145.size ≤ 9223372036854775807 then (if ((((((((arrAt [t124, t125, t126, t127, t128, t129, t130] (⟨#[]⟩ : ByteArray) t131).extract 0 3) ++ (⟨#[44, 32]⟩ : ByteArray)) ++ t132) ++ (⟨#[32]⟩ : ByteArray)) ++ (arrAt [t133, t134, t135, t136, t137, t138, t139, t140, t141, t142, t143, t144] (⟨#[]⟩ : ByteArray) (ji25))) ++ (⟨#[32]⟩ : ByteArray)) ++ t145).size + 1 ≤ 9223372036854775807 then (if (((((((((arrAt [t124, t125, t126, t127, t128, t129, t130] (⟨#[]⟩ : ByteArray) t131).extract 0 3) ++ (⟨#[44, 32]⟩ : ByteArray)) ++ t132) ++ (⟨#[32]⟩ : ByteArray)) ++ (arrAt [t133, t134, t135, t136, t137, t138, t139, t140, t141, t142, t143, t144] (⟨#[]⟩ : ByteArray) (ji25))) ++ (⟨#[32]⟩ : ByteArray)) ++ t145) ++ (⟨#[32]⟩ : ByteArray)).size + ((((t121 ++ (⟨#[58]⟩ : ByteArray)) ++ t122) ++ (⟨#[58]⟩ : ByteArray)) ++ t123).size ≤ 9223372036854775807 then (if ((((((((((arrAt [t124, t125, t126, t127, t128, t129, t130] (⟨#[]⟩ : ByteArray) t131).extract 0 3) ++ (⟨#[44, 32]⟩ : ByteArray)) ++ t132) ++ (⟨#[32]⟩ : ByteArray)) ++ (arrAt [t133, t134, t135, t136, t137, t138, t139, t140, t141, t142, t143, t144] (⟨#[]⟩ : ByteArray) (ji25))) ++ (⟨#[32]⟩ : ByteArray)) ++ t145) ++ (⟨#[32]⟩ : ByteArray)) ++ ((((t121 ++ (⟨#[58]⟩ : ByteArray)) ++ t122) ++ (⟨#[58]⟩ : ByteArray)) ++ t123)).size + 4 ≤ 9223372036854775807 then (some (((((((((((arrAt [t124, t125, t126, t127, t128, t129, t130] (⟨#[]⟩ : ByteArray) t131).extract 0 3) ++ (⟨#[44, 32]⟩ : ByteArray)) ++ t132) ++ (⟨#[32]⟩ : ByteArray)) ++ (arrAt [t133, t134, t135, t136, t137, t138, t139, t140, t141, t142, t143, t144] (⟨#[]⟩ : ByteArray) (ji25))) ++ (⟨#[32]⟩ : ByteArray)) ++ t145) ++ (⟨#[32]⟩ : ByteArray)) ++ ((((t121 ++ (⟨#[58]⟩ : ByteArray)) ++ t122) ++ (⟨#[58]⟩ : ByteArray)) ++ t123)) ++ (⟨#[32, 71, 77, 84]⟩ : ByteArray), 0)) else (none)) else (none)) else (none)) else (none))) else (none)) else (none)) else (none)) else (none)) = some (r1, r2) := by first | (rw [hji25] at H; exact H) | (simp only [hji25] at H ⊢; exact H)
               (try rw [hji25] at A5)
               (try rw [hji25] at A6)
               (try rw [hji25] at A8)
               (try rw [hji25] at A11)
               (try rw [hji25] at A13)
               (try rw [hji25] at A14)
               (try rw [hji25] at A21)
               (try rw [hji25] at A24)
               have hji25w : (IntKind.i64.wrap (t119 - 1)) = ji25 := (i64_w _).trans hji25
               by_cases c26 : 0 ≤ (ji25)
               ·rw [if_pos c26] at H
                have c26b0 : decide (0 ≤ (ji25)) = true := decide_eq_true c26
                clear c26
                by_cases c27 : (ji25) < 12
                ·rw [if_pos c27] at H
                 have c27b0 : decide ((ji25) < 12) = true := decide_eq_true c27
                 clear c27
                 by_cases c29 : (((((arrAt [t124, t125, t126, t127, t128, t129, t130] (⟨#[]⟩ : ByteArray) t131).extract 0 3) ++ (⟨#[44, 32]⟩ : ByteArray)) ++ t132) ++ (⟨#[32]⟩ : ByteArray)).size + (arrAt [t133, t134, t135, t136, t137, t138, t139, t140, t141, t142, t143, t144] (⟨#[]⟩ : ByteArray) (ji25)).size ≤ 9223372036854775807
                 ·rw [if_pos c29] at H
                  have c29s := c29
                  (try simp only [ByteArray.size_append, ByteArray.size_extract, Nat.sub_zero, Nat.min_self, bsize_lit, List.size_toArray, List.length_cons, List.length_nil, Nat.zero_add, Nat.reduceAdd] at c29s)
                  have c29b2 := eq_false (Nat.not_lt.2 c29s)
                  have c29q := Aside0.mk c29
                  clear c29 c29s
                  by_cases c30 : ((((((arrAt [t124, t125, t126, t127, t128, t129, t130] (⟨#[]⟩ : ByteArray) t131).extract 0 3) ++ (⟨#[44, 32]⟩ : ByteArray)) ++ t132) ++ (⟨#[32]⟩ : ByteArray)) ++ (arrAt [t133, t134, t135, t136, t137, t138, t139, t140, t141, t142, t143, t144] (⟨#[]⟩ : ByteArray) (ji25))).size + 1 ≤ 9223372036854775807
                  ·rw [if_pos c30] at H
                   have c30s := c30
                   (try simp only [ByteArray.size_append, ByteArray.size_extract, Nat.sub_zero, Nat.min_self, bsize_lit, List.size_toArray, List.length_cons, List.length_nil, Nat.zero_add, Nat.reduceAdd] at c30s)
                   have c30b2 := eq_false (Nat.not_lt.2 c30s)
                   have c30q := Aside0.mk c30
                   clear c30 c30s
                   replace H := Option.bind_eq_some_iff.mp H
                   obtain ⟨t145, A310, H⟩ := H
                   have A31 := Aside0.mk A310
                   clear A310
                   by_cases c32 : (((((((arrAt [t124, t125, t126, t127, t128, t129, t130] (⟨#[]⟩ : ByteArray) t131).extract 0 3) ++ (⟨#[44, 32]⟩ : ByteArray)) ++ t132) ++ (⟨#[32]⟩ : ByteArray)) ++ (arrAt [t133, t134, t135, t136, t137, t138, t139, t140, t141, t142, t143, t144] (⟨#[]⟩ : ByteArray) (ji25))) ++ (⟨#[32]⟩ : ByteArray)).size + t145.size ≤ 9223372036854775807
                   ·rw [if_pos c32] at H
                    have c32s := c32
                    (try simp only [ByteArray.size_append, ByteArray.size_extract, Nat.sub_zero, Nat.min_self, bsize_lit, List.size_toArray, List.length_cons, List.length_nil, Nat.zero_add, Nat.reduceAdd] at c32s)
                    have c32b2 := eq_false (Nat.not_lt.2 c32s)
                    have c32q := Aside0.mk c32
                    clear c32 c32s
                    by_cases c33 : ((((((((arrAt [t124, t125, t126, t127, t128, t129, t130] (⟨#[]⟩ : ByteArray) t131).extract 0 3) ++ (⟨#[44, 32]⟩ : ByteArray)) ++ t132) ++ (⟨#[32]⟩ : ByteArray)) ++ (arrAt [t133, t134, t135, t136, t137, t138, t139, t140, t141, t142, t143, t144] (⟨#[]⟩ : ByteArray) (ji25))) ++ (⟨#[32]⟩ : ByteArray)) ++ t145).size + 1 ≤ 9223372036854775807
                    ·rw [if_pos c33] at H
                     have c33s := c33
                     (try simp only [ByteArray.size_append, ByteArray.size_extract, Nat.sub_zero, Nat.min_self, bsize_lit, List.size_toArray, List.length_cons, List.length_nil, Nat.zero_add, Nat.reduceAdd] at c33s)
                     have c33b2 := eq_false (Nat.not_lt.2 c33s)
                     have c33q := Aside0.mk c33
                     clear c33 c33s
                     by_cases c34 : (((((((((arrAt [t124, t125, t126, t127, t128, t129, t130] (⟨#[]⟩ : ByteArray) t131).extract 0 3) ++ (⟨#[44, 32]⟩ : ByteArray)) ++ t132) ++ (⟨#[32]⟩ : ByteArray)) ++ (arrAt [t133, t134, t135, t136, t137, t138, t139, t140, t141, t142, t143, t144] (⟨#[]⟩ : ByteArray) (ji25))) ++ (⟨#[32]⟩ : ByteArray)) ++ t145) ++ (⟨#[32]⟩ : ByteArray)).size + ((((t121 ++ (⟨#[58]⟩ : ByteArray)) ++ t122) ++ (⟨#[58]⟩ : ByteArray)) ++ t123).size ≤ 9223372036854775807
                     ·rw [if_pos c34] at H
                      have c34s := c34
                      (try simp only [ByteArray.size_append, ByteArray.size_extract, Nat.sub_zero, Nat.min_self, bsize_lit, List.size_toArray, List.length_cons, List.length_nil, Nat.zero_add, Nat.reduceAdd] at c34s)
                      have c34b2 := eq_false (Nat.not_lt.2 c34s)
                      have c34q := Aside0.mk c34
                      clear c34 c34s
                      by_cases c35 : ((((((((((arrAt [t124, t125, t126, t127, t128, t129, t130] (⟨#[]⟩ : ByteArray) t131).extract 0 3) ++ (⟨#[44, 32]⟩ : ByteArray)) ++ t132) ++ (⟨#[32]⟩ : ByteArray)) ++ (arrAt [t133, t134, t135, t136, t137, t138, t139, t140, t141, t142, t143, t144] (⟨#[]⟩ : ByteArray) (ji25))) ++ (⟨#[32]⟩ : ByteArray)) ++ t145) ++ (⟨#[32]⟩ : ByteArray)) ++ ((((t121 ++ (⟨#[58]⟩ : ByteArray)) ++ t122) ++ (⟨#[58]⟩ : ByteArray)) ++ t123)).size + 4 ≤ 9223372036854775807
                      ·rw [if_pos c35] at H
                       have c35s := c35
                       (try simp only [ByteArray.size_append, ByteArray.size_extract, Nat.sub_zero, Nat.min_self, bsize_lit, List.size_toArray, List.length_cons, List.length_nil, Nat.zero_add, Nat.reduceAdd] at c35s)
                       have c35b2 := eq_false (Nat.not_lt.2 c35s)
                       have c35q := Aside0.mk c35
                       clear c35 c35s
                       simp only [Option.some.injEq, Prod.mk.injEq] at H
                       obtain ⟨rfl, rfl⟩ := H
                       try go_wp2_with (first | ((with_reducible refine gate_callee (f := 36) rfl ?_); refine goesL_ (some 22) rfl rfl Try.func36 (by kernel_rfl) rfl #[.int .i64 (wrap64 (Int.tdiv a0 86400))] rfl (by (try simp only [List.map_toArray, List.map_cons, List.map_nil]); first | done | rfl | (simp only [List.length_drop, List.length_take]; rfl)) ?_; (with_reducible refine (date_of.calls kj1 (wrap64 (Int.tdiv a0 86400)) t118 t119 t120 _ A5.out).mono ?_); rintro e w' ⟨rfl, ⟨nd, rfl⟩⟩; refine ⟨_, rfl, ?_⟩) | ((with_reducible refine gate_callee (f := 37) rfl ?_); refine goesL_ (some 28) rfl rfl Try.func37 (by kernel_rfl) rfl #[.int .i64 (wrap64 (Int.tdiv (Int.tmod a0 86400) 3600)), .int .i64 2] rfl (by (try simp only [List.map_toArray, List.map_cons, List.map_nil]); first | done | rfl | (simp only [List.length_drop, List.length_take]; rfl)) ?_; (with_reducible refine (date_digits.calls kj1 (wrap64 (Int.tdiv (Int.tmod a0 86400) 3600)) 2 t121 _ A6.out).mono ?_); rintro e w36 ⟨rfl, hb⟩; refine ⟨_, rfl, ?_⟩; have n0_ := Aside0.mk (below_step (by repeat (first | (with_reducible first | exact HB.out | apply below_alloc | apply pw_below_drewN | apply below_drew1) | exact HB.out)) hb); clear HB; have HB := n0_; clear n0_; (try clear hb); (try clear hb2); (try clear hk); (try clear hi)) | ((with_reducible refine gate_callee (f := 37) rfl ?_); refine goesL_ (some 33) rfl rfl Try.func37 (by kernel_rfl) rfl #[.int .i64 (Int.tmod (wrap64 (Int.tdiv (Int.tmod a0 86400) 60)) 60), .int .i64 2] rfl (by (try simp only [List.map_toArray, List.map_cons, List.map_nil]); first | done | rfl | (simp only [List.length_drop, List.length_take]; rfl)) ?_; (with_reducible refine (date_digits.calls kj1 (Int.tmod (wrap64 (Int.tdiv (Int.tmod a0 86400) 60)) 60) 2 t122 _ A8.out).mono ?_); rintro e w37 ⟨rfl, hb⟩; refine ⟨_, rfl, ?_⟩; have n0_ := Aside0.mk (below_step (by repeat (first | (with_reducible first | exact HB.out | apply below_alloc | apply pw_below_drewN | apply below_drew1) | exact HB.out)) hb); clear HB; have HB := n0_; clear n0_; (try clear hb); (try clear hb2); (try clear hk); (try clear hi)) | ((with_reducible refine gate_callee (f := 37) rfl ?_); refine goesL_ (some 38) rfl rfl Try.func37 (by kernel_rfl) rfl #[.int .i64 (Int.tmod a0 60), .int .i64 2] rfl (by (try simp only [List.map_toArray, List.map_cons, List.map_nil]); first | done | rfl | (simp only [List.length_drop, List.length_take]; rfl)) ?_; (with_reducible refine (date_digits.calls kj1 (Int.tmod a0 60) 2 t123 _ A11.out).mono ?_); rintro e w38 ⟨rfl, hb⟩; refine ⟨_, rfl, ?_⟩; have n0_ := Aside0.mk (below_step (by repeat (first | (with_reducible first | exact HB.out | apply below_alloc | apply pw_below_drewN | apply below_drew1) | exact HB.out)) hb); clear HB; have HB := n0_; clear n0_; (try clear hb); (try clear hb2); (try clear hk); (try clear hi)))
                       have n0_ := Aside0.mk (below_drew1 HB.out)
                       clear HB
                       have HB := n0_
                       clear n0_
                       refine start_ (n := 25) (S := fun w' => True) (ds := []) #[false, false, false, false, false, false, false, false, false, false, false, false, false, false, false, false, false, false, false, false, false, false, false, false, false] (by kernel_rfl) rfl rfl trivial (fun hHeld => ?_); refine with_tabW date_Print.tab6 date_Print.bits6 (fun HT_ HW_ => ?_)
                       generalize w38.drew = w39 at HB hHeld ⊢
                       refine pure_ (i := 1) (N := some 41) (v := ?_) (a' := ?_) #[false, true, false, false, false, false, false, false, false, false, false, false, false, false, false, false, false, false, false, false, false, false, false, false, false] rfl rfl (any_of HT_.out (by kernel_rfl)) (fun _ _ _ h => h) (Or.inl ⟨by rfl, ?_⟩) ?_ ?_
                       rotate_left
                       ·intro w'
                        go_simp
                        with_reducible rfl
                       rotate_left
                       ·simp only [Act.put, List.setIfInBounds_toArray, List.set_cons_zero, List.set_cons_succ, i64_w, i32_w]
                        rfl
                       refine pure_ (i := 6) (N := some 46) (v := ?_) (a' := ?_) #[false, true, false, false, false, false, true, false, false, false, false, false, false, false, false, false, false, false, false, false, false, false, false, false, false] rfl rfl (any_of HT_.out (by kernel_rfl)) (fun _ _ _ h => h) (Or.inl ⟨by rfl, ?_⟩) ?_ ?_
                       rotate_left
                       ·intro w'
                        go_simp
                        with_reducible rfl
                       rotate_left
                       ·simp only [Act.put, List.setIfInBounds_toArray, List.set_cons_zero, List.set_cons_succ, i64_w, i32_w]
                        rfl
                       refine pure_ (i := 11) (N := some 51) (v := ?_) (a' := ?_) #[false, true, false, false, false, false, true, false, false, false, false, true, false, false, false, false, false, false, false, false, false, false, false, false, false] rfl rfl (any_of HT_.out (by kernel_rfl)) (fun _ _ _ h => h) (Or.inl ⟨by rfl, ?_⟩) ?_ ?_
                       rotate_left
                       ·intro w'
                        go_simp
                        with_reducible rfl
                       rotate_left
                       ·simp only [Act.put, List.setIfInBounds_toArray, List.set_cons_zero, List.set_cons_succ, i64_w, i32_w]
                        rfl
                       refine pure_ (i := 12) (N := some 52) (v := ?_) (a' := ?_) #[false, true, false, false, false, false, true, false, false, false, false, true, true, false, false, false, false, false, false, false, false, false, false, false, false] rfl rfl (any_of HT_.out (by kernel_rfl)) (fun _ _ _ h => h) (Or.inl ⟨by rfl, ?_⟩) ?_ ?_
                       rotate_left
                       ·intro w'
                        go_simp
                        with_reducible rfl
                       rotate_left
                       ·simp only [Act.put, List.setIfInBounds_toArray, List.set_cons_zero, List.set_cons_succ, i64_w, i32_w]
                        rfl
                       refine pure_ (i := 16) (N := some 56) (v := ?_) (a' := ?_) #[false, true, false, false, false, false, true, false, false, false, false, true, true, false, false, false, true, false, false, false, false, false, false, false, false] rfl rfl (any_of HT_.out (by kernel_rfl)) (fun _ _ _ h => h) (Or.inl ⟨by rfl, ?_⟩) ?_ ?_
                       rotate_left
                       ·intro w'
                        go_simp
                        with_reducible rfl
                       rotate_left
                       ·simp only [Act.put, List.setIfInBounds_toArray, List.set_cons_zero, List.set_cons_succ, i64_w, i32_w]
                        rfl
                       refine pure_ (i := 20) (N := some 60) (v := ?_) (a' := ?_) #[false, true, false, false, false, false, true, false, false, false, false, true, true, false, false, false, true, false, false, false, true, false, false, false, false] rfl rfl (any_of HT_.out (by kernel_rfl)) (fun _ _ _ h => h) (Or.inl ⟨by rfl, ?_⟩) ?_ ?_
                       rotate_left
                       ·intro w'
                        go_simp
                        with_reducible rfl
                       rotate_left
                       ·simp only [Act.put, List.setIfInBounds_toArray, List.set_cons_zero, List.set_cons_succ, i64_w, i32_w]
                        rfl
                       refine one_ (i := 0) (N := some 40) #[true, true, false, false, false, false, true, false, false, false, false, true, true, false, false, false, true, false, false, false, true, false, false, false, false] rfl rfl (one_of HT_.out (by kernel_rfl)) (by decide) (fun K hK => ?_)
                       refine goes_ Try.func38 (by kernel_rfl) rfl #[] (by rfl) rfl rfl (by (try simp only [List.map_toArray, List.map_cons, List.map_nil]); first | done | rfl | (simp only [List.length_drop, List.length_take]; rfl)) ?_
                       with_reducible refine (date_weekdays.calls  t124 t125 t126 t127 t128 t129 t130 _ A13.out).mono ?_
                       rintro e w40 ⟨rfl, hb⟩
                       refine ⟨_, rfl, ?_⟩
                       have n0_ := Aside0.mk (below_step (by repeat (first | (with_reducible first | exact HB.out | apply below_alloc | apply pw_below_drewN | apply below_drew1) | exact HB.out)) hb)
                       clear HB
                       have HB := n0_
                       clear n0_
                       (try clear hb)
                       (try clear hb2)
                       (try clear hk)
                       (try clear hi)
                       refine hK.out _ _ trivial (fun hHeld => ?_)
                       clear hK K
                       refine norm_ (a' := ?_) ?_ ?_
                       rotate_left
                       ·show Act.put _ (some 40) _ = _
                        simp only [Act.put, List.setIfInBounds_toArray, List.set_cons_zero, List.set_cons_succ, i64_w, i32_w]
                        rfl
                       refine one_ (i := 2) (N := some 42) #[true, true, true, false, false, false, true, false, false, false, false, true, true, false, false, false, true, false, false, false, true, false, false, false, false] rfl rfl (one_of HT_.out (by kernel_rfl)) (by decide) (fun K hK => ?_)
                       refine goes_ Try.func16 (by kernel_rfl) rfl #[.int .i64 (wrap64 (Int.tdiv a0 86400))] (by rfl) rfl rfl (by (try simp only [List.map_toArray, List.map_cons, List.map_nil]); first | done | rfl | (simp only [List.length_drop, List.length_take]; rfl)) ?_
                       with_reducible refine (date_Weekday.calls (wrap64 (Int.tdiv a0 86400)) t131 _ A14.out).mono ?_
                       rintro e w' ⟨rfl, ⟨nd, rfl⟩⟩
                       refine ⟨_, rfl, ?_⟩
                       have p17 : 0 ≤ (t131 : Int) := of_decide_eq_true (by first | (with_reducible assumption) | assumption)
                       have q17 : t131 < (7 : Int) := of_decide_eq_true (by first | (with_reducible assumption) | assumption)
                       replace p17 := eq_true p17
                       replace q17 := eq_true q17
                       refine hK.out _ _ trivial (fun hHeld => ?_)
                       clear hK K
                       refine norm_ (a' := ?_) ?_ ?_
                       rotate_left
                       ·show Act.put _ (some 42) _ = _
                        simp only [Act.put, List.setIfInBounds_toArray, List.set_cons_zero, List.set_cons_succ, i64_w, i32_w]
                        rfl
                       refine take_ (i := 3) (N := some 43) (v := ?_) (a' := ?_) #[true, true, true, true, false, false, true, false, false, false, false, true, true, false, false, false, true, false, false, false, true, false, false, false, false] rfl rfl (take_ofW HT_.out HW_.out (by kernel_rfl)) (fun _ _ _ h => h) (Or.inl ⟨by rfl, ?_⟩) hHeld ?_ ?_
                       rotate_left
                       ·intro w' _
                        go_simp
                        with_reducible rfl
                       rotate_left
                       ·simp only [Act.put, List.setIfInBounds_toArray, List.set_cons_zero, List.set_cons_succ, i64_w, i32_w]
                        rfl
                       refine pure_ (i := 4) (N := some 44) (v := ?_) (a' := ?_) #[true, true, true, true, true, false, true, false, false, false, false, true, true, false, false, false, true, false, false, false, true, false, false, false, false] rfl rfl (any_of HT_.out (by kernel_rfl)) (fun _ _ _ h => h) (Or.inl ⟨by rfl, ?_⟩) ?_ ?_
                       rotate_left
                       ·intro w'
                        go_simp
                        with_reducible rfl
                       rotate_left
                       ·simp only [Act.put, List.setIfInBounds_toArray, List.set_cons_zero, List.set_cons_succ, i64_w, i32_w]
                        rfl
                       refine pure_ (i := 5) (N := some 45) (v := ?_) (a' := ?_) #[true, true, true, true, true, true, true, false, false, false, false, true, true, false, false, false, true, false, false, false, true, false, false, false, false] rfl rfl (any_of HT_.out (by kernel_rfl)) (fun _ _ _ h => h) (Or.inl ⟨by rfl, ?_⟩) ?_ ?_
                       rotate_left
                       ·intro w'
                        go_simp
                        with_reducible rfl
                       rotate_left
                       ·simp only [Act.put, List.setIfInBounds_toArray, List.set_cons_zero, List.set_cons_succ, i64_w, i32_w]
                        rfl
                       refine one_ (i := 7) (N := some 47) #[true, true, true, true, true, true, true, true, false, false, false, true, true, false, false, false, true, false, false, false, true, false, false, false, false] rfl rfl (one_of HT_.out (by kernel_rfl)) (by decide) (fun K hK => ?_)
                       refine goes_ Try.func37 (by kernel_rfl) rfl #[.int .i64 t120, .int .i64 2] (by rfl) rfl rfl (by (try simp only [List.map_toArray, List.map_cons, List.map_nil]); first | done | rfl | (simp only [List.length_drop, List.length_take]; rfl)) ?_
                       with_reducible refine (date_digits.calls kj1 t120 2 t132 _ A21.out).mono ?_
                       rintro e w41 ⟨rfl, hb⟩
                       refine ⟨_, rfl, ?_⟩
                       have n0_ := Aside0.mk (below_step (by repeat (first | (with_reducible first | exact HB.out | apply below_alloc | apply pw_below_drewN | apply below_drew1) | exact HB.out)) hb)
                       clear HB
                       have HB := n0_
                       clear n0_
                       (try clear hb)
                       (try clear hb2)
                       (try clear hk)
                       (try clear hi)
                       refine hK.out _ _ trivial (fun hHeld => ?_)
                       clear hK K
                       refine norm_ (a' := ?_) ?_ ?_
                       rotate_left
                       ·show Act.put _ (some 47) _ = _
                        simp only [Act.put, List.setIfInBounds_toArray, List.set_cons_zero, List.set_cons_succ, i64_w, i32_w]
                        rfl
                       refine pure_ (i := 8) (N := some 48) (v := ?_) (a' := ?_) #[true, true, true, true, true, true, true, true, true, false, false, true, true, false, false, false, true, false, false, false, true, false, false, false, false] rfl rfl (any_of HT_.out (by kernel_rfl)) (fun _ _ _ h => h) (Or.inl ⟨by rfl, ?_⟩) ?_ ?_
                       rotate_left
                       ·intro w'
                        go_simp
                        with_reducible rfl
                       rotate_left
                       ·simp only [Act.put, List.setIfInBounds_toArray, List.set_cons_zero, List.set_cons_succ, i64_w, i32_w]
                        rfl
                       refine pure_ (i := 9) (N := some 49) (v := ?_) (a' := ?_) #[true, true, true, true, true, true, true, true, true, true, false, true, true, false, false, false, true, false, false, false, true, false, false, false, false] rfl rfl (any_of HT_.out (by kernel_rfl)) (fun _ _ _ h => h) (Or.inl ⟨by rfl, ?_⟩) ?_ ?_
                       rotate_left
                       ·intro w'
                        go_simp
                        with_reducible rfl
                       rotate_left
                       ·simp only [Act.put, List.setIfInBounds_toArray, List.set_cons_zero, List.set_cons_succ, i64_w, i32_w]
                        rfl
                       refine one_ (i := 10) (N := some 50) #[true, true, true, true, true, true, true, true, true, true, true, true, true, false, false, false, true, false, false, false, true, false, false, false, false] rfl rfl (one_of HT_.out (by kernel_rfl)) (by decide) (fun K hK => ?_)
                       refine goes_ Try.func39 (by kernel_rfl) rfl #[] (by rfl) rfl rfl (by (try simp only [List.map_toArray, List.map_cons, List.map_nil]); first | done | rfl | (simp only [List.length_drop, List.length_take]; rfl)) ?_
                       with_reducible refine (date_names.calls  t133 t134 t135 t136 t137 t138 t139 t140 t141 t142 t143 t144 _ A24.out).mono ?_
                       rintro e w42 ⟨rfl, hb⟩
                       refine ⟨_, rfl, ?_⟩
                       have n0_ := Aside0.mk (below_step (by repeat (first | (with_reducible first | exact HB.out | apply below_alloc | apply pw_below_drewN | apply below_drew1) | exact HB.out)) hb)
                       clear HB
                       have HB := n0_
                       clear n0_
                       (try clear hb)
                       (try clear hb2)
                       (try clear hk)
                       (try clear hi)
                       have p28 : 0 ≤ ((ji25) : Int) := of_decide_eq_true (by first | (with_reducible assumption) | assumption)
                       have q28 : (ji25) < (12 : Int) := of_decide_eq_true (by first | (with_reducible assumption) | assumption)
                       replace p28 := eq_true p28
                       replace q28 := eq_true q28
                       refine hK.out _ _ trivial (fun hHeld => ?_)
                       clear hK K
                       refine norm_ (a' := ?_) ?_ ?_
                       rotate_left
                       ·show Act.put _ (some 50) _ = _
                        simp only [Act.put, List.setIfInBounds_toArray, List.set_cons_zero, List.set_cons_succ, i64_w, i32_w]
                        rfl
                       refine take_ (i := 13) (N := some 53) (v := ?_) (a' := ?_) #[true, true, true, true, true, true, true, true, true, true, true, true, true, true, false, false, true, false, false, false, true, false, false, false, false] rfl rfl (take_ofW HT_.out HW_.out (by kernel_rfl)) (fun _ _ _ h => h) (Or.inl ⟨by rfl, ?_⟩) hHeld ?_ ?_
                       rotate_left
                       ·intro w' _
                        go_simp
                        with_reducible rfl
                       rotate_left
                       ·simp only [Act.put, List.setIfInBounds_toArray, List.set_cons_zero, List.set_cons_succ, i64_w, i32_w]
                        rfl
                       refine pure_ (i := 14) (N := some 54) (v := ?_) (a' := ?_) #[true, true, true, true, true, true, true, true, true, true, true, true, true, true, true, false, true, false, false, false, true, false, false, false, false] rfl rfl (any_of HT_.out (by kernel_rfl)) (fun _ _ _ h => h) (Or.inl ⟨by rfl, ?_⟩) ?_ ?_
                       rotate_left
                       ·intro w'
                        go_simp
                        with_reducible rfl
                       rotate_left
                       ·simp only [Act.put, List.setIfInBounds_toArray, List.set_cons_zero, List.set_cons_succ, i64_w, i32_w]
                        rfl
                       refine pure_ (i := 15) (N := some 55) (v := ?_) (a' := ?_) #[true, true, true, true, true, true, true, true, true, true, true, true, true, true, true, true, true, false, false, false, true, false, false, false, false] rfl rfl (any_of HT_.out (by kernel_rfl)) (fun _ _ _ h => h) (Or.inl ⟨by rfl, ?_⟩) ?_ ?_
                       rotate_left
                       ·intro w'
                        go_simp
                        with_reducible rfl
                       rotate_left
                       ·simp only [Act.put, List.setIfInBounds_toArray, List.set_cons_zero, List.set_cons_succ, i64_w, i32_w]
                        rfl
                       refine one_ (i := 17) (N := some 57) #[true, true, true, true, true, true, true, true, true, true, true, true, true, true, true, true, true, true, false, false, true, false, false, false, false] rfl rfl (one_of HT_.out (by kernel_rfl)) (by decide) (fun K hK => ?_)
                       refine goes_ Try.func37 (by kernel_rfl) rfl #[.int .i64 t118, .int .i64 4] (by rfl) rfl rfl (by (try simp only [List.map_toArray, List.map_cons, List.map_nil]); first | done | rfl | (simp only [List.length_drop, List.length_take]; rfl)) ?_
                       with_reducible refine (date_digits.calls kj1 t118 4 t145 _ A31.out).mono ?_
                       rintro e w43 ⟨rfl, hb⟩
                       refine ⟨_, rfl, ?_⟩
                       have n0_ := Aside0.mk (below_step (by repeat (first | (with_reducible first | exact HB.out | apply below_alloc | apply pw_below_drewN | apply below_drew1) | exact HB.out)) hb)
                       clear HB
                       have HB := n0_
                       clear n0_
                       (try clear hb)
                       (try clear hb2)
                       (try clear hk)
                       (try clear hi)
                       refine hK.out _ _ trivial (fun hHeld => ?_)
                       clear hK K
                       refine norm_ (a' := ?_) ?_ ?_
                       rotate_left
                       ·show Act.put _ (some 57) _ = _
                        simp only [Act.put, List.setIfInBounds_toArray, List.set_cons_zero, List.set_cons_succ, i64_w, i32_w]
                        rfl
                       refine pure_ (i := 18) (N := some 58) (v := ?_) (a' := ?_) #[true, true, true, true, true, true, true, true, true, true, true, true, true, true, true, true, true, true, true, false, true, false, false, false, false] rfl rfl (any_of HT_.out (by kernel_rfl)) (fun _ _ _ h => h) (Or.inl ⟨by rfl, ?_⟩) ?_ ?_
                       rotate_left
                       ·intro w'
                        go_simp
                        with_reducible rfl
                       rotate_left
                       ·simp only [Act.put, List.setIfInBounds_toArray, List.set_cons_zero, List.set_cons_succ, i64_w, i32_w]
                        rfl
                       refine pure_ (i := 19) (N := some 59) (v := ?_) (a' := ?_) #[true, true, true, true, true, true, true, true, true, true, true, true, true, true, true, true, true, true, true, true, true, false, false, false, false] rfl rfl (any_of HT_.out (by kernel_rfl)) (fun _ _ _ h => h) (Or.inl ⟨by rfl, ?_⟩) ?_ ?_
                       rotate_left
                       ·intro w'
                        go_simp
                        with_reducible rfl
                       rotate_left
                       ·simp only [Act.put, List.setIfInBounds_toArray, List.set_cons_zero, List.set_cons_succ, i64_w, i32_w]
                        rfl
                       refine pure_ (i := 21) (N := some 61) (v := ?_) (a' := ?_) #[true, true, true, true, true, true, true, true, true, true, true, true, true, true, true, true, true, true, true, true, true, true, false, false, false] rfl rfl (any_of HT_.out (by kernel_rfl)) (fun _ _ _ h => h) (Or.inl ⟨by rfl, ?_⟩) ?_ ?_
                       rotate_left
                       ·intro w'
                        go_simp
                        with_reducible rfl
                       rotate_left
                       ·simp only [Act.put, List.setIfInBounds_toArray, List.set_cons_zero, List.set_cons_succ, i64_w, i32_w]
                        rfl
                       refine pure_ (i := 22) (N := some 62) (v := ?_) (a' := ?_) #[true, true, true, true, true, true, true, true, true, true, true, true, true, true, true, true, true, true, true, true, true, true, true, false, false] rfl rfl (any_of HT_.out (by kernel_rfl)) (fun _ _ _ h => h) (Or.inl ⟨by rfl, ?_⟩) ?_ ?_
                       rotate_left
                       ·intro w'
                        go_simp
                        with_reducible rfl
                       rotate_left
                       ·simp only [Act.put, List.setIfInBounds_toArray, List.set_cons_zero, List.set_cons_succ, i64_w, i32_w]
                        rfl
                       refine pure_ (i := 23) (N := some 2) (v := ?_) (a' := ?_) #[true, true, true, true, true, true, true, true, true, true, true, true, true, true, true, true, true, true, true, true, true, true, true, true, false] rfl rfl (any_of HT_.out (by kernel_rfl)) (fun _ _ _ h => h) (Or.inl ⟨by rfl, ?_⟩) ?_ ?_
                       rotate_left
                       ·intro w'
                        go_simp
                        with_reducible rfl
                       rotate_left
                       ·simp only [Act.put, List.setIfInBounds_toArray, List.set_cons_zero, List.set_cons_succ, i64_w, i32_w]
                        rfl
                       refine pure_ (i := 24) (N := some 3) (v := ?_) (a' := ?_) #[true, true, true, true, true, true, true, true, true, true, true, true, true, true, true, true, true, true, true, true, true, true, true, true, true] rfl rfl (any_of HT_.out (by kernel_rfl)) (fun _ _ _ h => h) (Or.inl ⟨by rfl, ?_⟩) ?_ ?_
                       rotate_left
                       ·intro w'
                        go_simp
                        with_reducible rfl
                       rotate_left
                       ·simp only [Act.put, List.setIfInBounds_toArray, List.set_cons_zero, List.set_cons_succ, i64_w, i32_w]
                        rfl
                       refine done_ (done_of HT_.out (by kernel_rfl)) ?_
                       try go_wp2
                       go_ret2
                       exact ⟨by first | rfl | (simp [errW_none, errW_some] <;> rfl) | (simp only [← hji25]; first | rfl | (simp [errW_none, errW_some] <;> rfl)) | (simp [*, errW_none, errW_some] <;> rfl), by repeat (first | (with_reducible first | exact HB.out | apply below_alloc | apply pw_below_drewN | apply below_drew1) | exact HB.out)⟩
                      ·rw [if_neg c35] at H
                       exact absurd H (by simp)
                     ·rw [if_neg c34] at H
                      exact absurd H (by simp)
                    ·rw [if_neg c33] at H
                     exact absurd H (by simp)
                   ·rw [if_neg c32] at H
                    exact absurd H (by simp)
                  ·rw [if_neg c30] at H
                   exact absurd H (by simp)
                 ·rw [if_neg c29] at H
                  exact absurd H (by simp)
                ·rw [if_neg c27] at H
                 exact absurd H (by simp)
               ·rw [if_neg c26] at H
                exact absurd H (by simp)
              ·rw [if_neg c23] at H
               exact absurd H (by simp)
             ·rw [if_neg c22] at H
              exact absurd H (by simp)
            ·rw [if_neg c20] at H
             exact absurd H (by simp)
           ·rw [if_neg c19] at H
            exact absurd H (by simp)
          ·rw [if_neg c18] at H
           exact absurd H (by simp)
         ·rw [if_neg c16] at H
          exact absurd H (by simp)
        ·rw [if_neg c15] at H
         exact absurd H (by simp)
       ·rw [if_neg c12] at H
        exact absurd H (by simp)
      ·rw [if_neg c10] at H
       exact absurd H (by simp)
     ·rw [if_neg c9] at H
      exact absurd H (by simp)
    ·rw [if_neg c7] at H
     exact absurd H (by simp)

/-! ### stringslite_HasPrefix: function 75 -/
def stringslite_HasPrefix.f (a0 : ByteArray) (a1 : ByteArray) : Option (Bool) := if (a0.size : Int) ≥ (a1.size : Int) then (if 0 ≤ (a1.size : Int) then (if (a1.size : Int) ≤ (a0.size : Int) then (some ((a0.extract 0 ((a1.size : Int) : Int).toNat).toList == a1.toList)) else (none)) else (none)) else (some false)
set_option maxHeartbeats 8000000 in
set_option maxRecDepth 100000 in
theorem stringslite_HasPrefix.calls (a0 : ByteArray) (a1 : ByteArray) (r : Bool) (w : World) (h : stringslite_HasPrefix.f a0 a1 = some r) :
  Calls Try.prog 75 #[.string a0, .string a1] w fun e w' => e = .returned (.bool r) ∧ Drawn0 w w' := by
 have H : (if (a0.size : Int) ≥ (a1.size : Int) then (if 0 ≤ (a1.size : Int) then (if (a1.size : Int) ≤ (a0.size : Int) then (some ((a0.extract 0 ((a1.size : Int) : Int).toNat).toList == a1.toList)) else (none)) else (none)) else (some false)) = some r := h
 clear h
 by_cases c3 : (a0.size : Int) ≥ (a1.size : Int)
 ·rw [if_pos c3] at H
  have c3b0 : decide ((a1.size : Int) ≤ (a0.size : Int)) = true := decide_eq_true c3
  have c3b1 : decide (a1.size ≤ a0.size) = true := decide_eq_true (Int.ofNat_le.mp c3)
  clear c3
  by_cases c4 : 0 ≤ (a1.size : Int)
  ·rw [if_pos c4] at H
   have c4b0 := eq_true c4
   have c4b1 : decide (0 ≤ (a1.size : Int)) = true := decide_eq_true c4
   clear c4
   by_cases c5 : (a1.size : Int) ≤ (a0.size : Int)
   ·rw [if_pos c5] at H
    have c5b0 := eq_true c5
    have c5b1 : decide ((a1.size : Int) ≤ (a0.size : Int)) = true := decide_eq_true c5
    clear c5
    obtain rfl := Option.some.inj H
    go_enter Try.func75, Try.ntmps75
    go_wp2
    go_ret
    exact ⟨by first | rfl | (simp; done) | (simp [*]; done), by repeat (first | exact Drawn0.refl _ | apply Drawn0.step)⟩
   ·rw [if_neg c5] at H
    exact absurd H (by simp)
  ·rw [if_neg c4] at H
   exact absurd H (by simp)
 ·rw [if_neg c3] at H
  have c3b0 : decide ((a1.size : Int) ≤ (a0.size : Int)) = false := decide_eq_false c3
  have c3b1 : decide (a1.size ≤ a0.size) = false := decide_eq_false (fun h => c3 (Int.ofNat_le.mpr h))
  clear c3
  obtain rfl := Option.some.inj H
  go_enter Try.func75, Try.ntmps75
  go_wp2
  go_ret
  exact ⟨by first | rfl | (simp; done) | (simp [*]; done), by repeat (first | exact Drawn0.refl _ | apply Drawn0.step)⟩

/-! ### stringslite_CutPrefix: function 76 -/
def stringslite_CutPrefix.f (a0 : ByteArray) (a1 : ByteArray) : Option (ByteArray × Bool) := (stringslite_HasPrefix.f a0 a1).bind fun t146 => (if t146 = true then (if 0 ≤ (a1.size : Int) then (if (a1.size : Int) ≤ (a0.size : Int) then (some (a0.extract ((a1.size : Int) : Int).toNat a0.size, true)) else (none)) else (none)) else (some (a0, false)))
set_option maxHeartbeats 8000000 in
set_option maxRecDepth 100000 in
theorem stringslite_CutPrefix.calls (a0 : ByteArray) (a1 : ByteArray) (r1 : ByteArray) (r2 : Bool) (w : World) (h : stringslite_CutPrefix.f a0 a1 = some (r1, r2)) :
  Calls Try.prog 76 #[.string a0, .string a1] w fun e w' => e = .returned (.tuple #[.string r1, .bool r2]) ∧ Drawn0 w w' := by
 have H : ((stringslite_HasPrefix.f a0 a1).bind fun t146 => (if t146 = true then (if 0 ≤ (a1.size : Int) then (if (a1.size : Int) ≤ (a0.size : Int) then (some (a0.extract ((a1.size : Int) : Int).toNat a0.size, true)) else (none)) else (none)) else (some (a0, false)))) = some (r1, r2) := h
 clear h
 replace H := Option.bind_eq_some_iff.mp H
 obtain ⟨t146, A30, H⟩ := H
 have A3 := Aside0.mk A30
 clear A30
 by_cases c4 : t146 = true
 ·subst c4
  have H1 : (if 0 ≤ (a1.size : Int) then (if (a1.size : Int) ≤ (a0.size : Int) then (some (a0.extract ((a1.size : Int) : Int).toNat a0.size, true)) else (none)) else (none)) = some (r1, r2) := by rw [if_pos rfl] at H; exact H
  clear H
  have H := H1
  clear H1
  by_cases c5 : 0 ≤ (a1.size : Int)
  ·rw [if_pos c5] at H
   have c5b0 := eq_true c5
   have c5b1 : decide (0 ≤ (a1.size : Int)) = true := decide_eq_true c5
   clear c5
   by_cases c6 : (a1.size : Int) ≤ (a0.size : Int)
   ·rw [if_pos c6] at H
    have c6b0 := eq_true c6
    have c6b1 : decide ((a1.size : Int) ≤ (a0.size : Int)) = true := decide_eq_true c6
    clear c6
    simp only [Option.some.injEq, Prod.mk.injEq] at H
    obtain ⟨rfl, rfl⟩ := H
    go_enter Try.func76, Try.ntmps76
    go_wp2_with (first | ((with_reducible refine gate_callee (f := 75) rfl ?_); refine goesL_ (some 8) rfl rfl Try.func75 (by kernel_rfl) rfl #[.string a0, .string a1] rfl (by (try simp only [List.map_toArray, List.map_cons, List.map_nil]); first | done | rfl | (simp only [List.length_drop, List.length_take]; rfl)) ?_; (with_reducible refine (stringslite_HasPrefix.calls a0 a1 true _ A3.out).mono ?_); rintro e w' ⟨rfl, ⟨nd, rfl⟩⟩; refine ⟨_, rfl, ?_⟩))
    go_ret2
    exact ⟨by first | rfl | (simp; done) | (simp [*]; done), by repeat (first | exact Drawn0.refl _ | apply Drawn0.step)⟩
   ·rw [if_neg c6] at H
    exact absurd H (by simp)
  ·rw [if_neg c5] at H
   exact absurd H (by simp)
 ·replace c4 := Bool.eq_false_iff.mpr c4
  subst c4
  have H1 : (some (a0, false)) = some (r1, r2) := by rw [if_neg (show ¬ (false = true) by decide)] at H; exact H
  clear H
  have H := H1
  clear H1
  simp only [Option.some.injEq, Prod.mk.injEq] at H
  obtain ⟨rfl, rfl⟩ := H
  go_enter Try.func76, Try.ntmps76
  go_wp2_with (first | ((with_reducible refine gate_callee (f := 75) rfl ?_); refine goesL_ (some 8) rfl rfl Try.func75 (by kernel_rfl) rfl #[.string a0, .string a1] rfl (by (try simp only [List.map_toArray, List.map_cons, List.map_nil]); first | done | rfl | (simp only [List.length_drop, List.length_take]; rfl)) ?_; (with_reducible refine (stringslite_HasPrefix.calls a0 a1 false _ A3.out).mono ?_); rintro e w' ⟨rfl, ⟨nd, rfl⟩⟩; refine ⟨_, rfl, ?_⟩))
  go_ret2
  exact ⟨by first | rfl | (simp; done) | (simp [*]; done), by repeat (first | exact Drawn0.refl _ | apply Drawn0.step)⟩

/-! ### strings_CutPrefix: function 66 -/
def strings_CutPrefix.f (a0 : ByteArray) (a1 : ByteArray) : Option (ByteArray × Bool) := (stringslite_CutPrefix.f a0 a1).bind fun bt147 => (some (bt147.1, bt147.2))
set_option maxHeartbeats 8000000 in
set_option maxRecDepth 100000 in
theorem strings_CutPrefix.calls (a0 : ByteArray) (a1 : ByteArray) (r1 : ByteArray) (r2 : Bool) (w : World) (h : strings_CutPrefix.f a0 a1 = some (r1, r2)) :
  Calls Try.prog 66 #[.string a0, .string a1] w fun e w' => e = .returned (.tuple #[.string r1, .bool r2]) ∧ Drawn0 w w' := by
 have H : ((stringslite_CutPrefix.f a0 a1).bind fun bt147 => (some (bt147.1, bt147.2))) = some (r1, r2) := h
 clear h
 replace H := Option.bind_eq_some_iff.mp H
 obtain ⟨⟨t147, t148⟩, A30, H⟩ := H
 replace H : (some (t147, t148)) = some (r1, r2) := H
 have A3 := Aside0.mk A30
 clear A30
 simp only [Option.some.injEq, Prod.mk.injEq] at H
 obtain ⟨rfl, rfl⟩ := H
 go_enter Try.func66, Try.ntmps66
 go_wp2_with (first | ((with_reducible refine gate_callee (f := 76) rfl ?_); refine goesL_ (some 8) rfl rfl Try.func76 (by kernel_rfl) rfl #[.string a0, .string a1] rfl (by (try simp only [List.map_toArray, List.map_cons, List.map_nil]); first | done | rfl | (simp only [List.length_drop, List.length_take]; rfl)) ?_; (with_reducible refine (stringslite_CutPrefix.calls a0 a1 t147 t148 _ A3.out).mono ?_); rintro e w' ⟨rfl, ⟨nd, rfl⟩⟩; refine ⟨_, rfl, ?_⟩))
 go_ret2
 exact ⟨by first | rfl | (simp; done) | (simp [*]; done), by repeat (first | exact Drawn0.refl _ | apply Drawn0.step)⟩

/-- A state of type 67 at block g of W; what its slices lead to came in by w0. -/
def IsS67 (w0 W : World) (g : Nat) (f0 : ByteArray) (f1 : Bool) : Prop := W.heap[g]? = some (.cells #[.string f0, .bool f1] 67 (0, 0)) ∧ w0.heap.size ≤ g
theorem IsS67.grown {w0 W : World} {g : Nat} {f0 : ByteArray} {f1 : Bool} {W1 : World} {row : Option Nat} (h : IsS67 w0 W g f0 f1) (hw : W.grownBy W1 row) (hne : some g ≠ row) : IsS67 w0 W1 g f0 f1 := by
 obtain ⟨hb, hg⟩ := h
 exact ⟨blk_grown hb hw hne, hg⟩
theorem IsS67.own_neN {w0 W : World} {g : Nat} {f0 : ByteArray} {f1 : Bool} {α : Type} {d : Kd α} {e : Nat} {base : Nat} {ok : Nat → Prop} {v : Value} {xs : List α} (h : IsS67 w0 W g f0 f1) (ho : Kd.N d e W base ok v xs) (ht : e ≠ 67) : some g ≠ v.ownBlock := by
 obtain ⟨hb, hg⟩ := h
 exact Kd.N_ne ho hb ht
theorem IsS67.fresh {w0 W : World} {g : Nat} {f0 : ByteArray} {f1 : Bool} (h : IsS67 w0 W g f0 f1) : ∀ k, W.heap.size ≤ k → k ≠ g := by
 obtain ⟨hb, hg⟩ := h
 exact Kd.freshB hb
theorem IsS67.kept {w0 W : World} {g : Nat} {f0 : ByteArray} {f1 : Bool} {W1 : World} {S : Nat → Prop} (h : IsS67 w0 W g f0 f1) (hk : Kept W W1 S) (hne : ¬ S g) : IsS67 w0 W1 g f0 f1 := by
 obtain ⟨hb, hg⟩ := h
 exact ⟨blk_kept hb hk hne, hg⟩
theorem IsS67.below {w0 W : World} {g : Nat} {f0 : ByteArray} {f1 : Bool} {W1 : World} (h : IsS67 w0 W g f0 f1) (hw : Below W.heap.size W W1) : IsS67 w0 W1 g f0 f1 := h.grown (grown_of_below hw none) (by simp)
theorem IsS67.alloc {w0 W : World} {g : Nat} {f0 : ByteArray} {f1 : Bool} (h : IsS67 w0 W g f0 f1) (o : Obj) : IsS67 w0 (W.alloc o) g f0 f1 := h.below (below_alloc (Below.refl _ _) o)
theorem IsS67.drewN {w0 W : World} {g : Nat} {f0 : ByteArray} {f1 : Bool} (h : IsS67 w0 W g f0 f1) (m : Nat) : IsS67 w0 (W.drewN m) g f0 f1 := h
theorem IsS67.drew {w0 W : World} {g : Nat} {f0 : ByteArray} {f1 : Bool} (h : IsS67 w0 W g f0 f1) : IsS67 w0 W.drew g f0 f1 := h
theorem IsS67.at_ {w0 W : World} {g : Nat} {f0 : ByteArray} {f1 : Bool} {w' : World} {m : Nat} (hq : W.drewN m = w') (h : IsS67 w0 W g f0 f1) : IsS67 w0 w' g f0 f1 := by subst hq; exact IsS67.drewN h m
theorem IsS67.apart {w0 W : World} {g : Nat} {f0 : ByteArray} {f1 : Bool} {α : Type} {d : Kd α} {e : Nat} {base : Nat} {ok : Nat → Prop} {v : Value} {xs : List α} (h : IsS67 w0 W g f0 f1) (ho : d.R e W base ok v xs) (ht : ∀ q, q ∈ e :: d.E → q ≠ 67) : d.R e W base (fun k => ok k ∧ k ≠ g) v xs := by
 obtain ⟨hb, hg⟩ := h
 exact Kd.R_types ho hb ht
theorem IsS67.own_ne {w0 W : World} {g : Nat} {f0 : ByteArray} {f1 : Bool} {α : Type} {d : Kd α} {e : Nat} {base : Nat} {ok : Nat → Prop} {v : Value} {xs : List α} (h : IsS67 w0 W g f0 f1) (ho : d.R e W base ok v xs) (ht : e ≠ 67) : some g ≠ v.ownBlock := by
 obtain ⟨hb, hg⟩ := h
 exact Kd.R_ne ho hb ht
theorem IsS67.apartQ {w0 W : World} {g : Nat} {f0 : ByteArray} {f1 : Bool} {α : Type} {d : Kd α} {e : Nat} {base : Nat} {ok : Nat → Prop} {v : Value} {xs : List α} (h : IsS67 w0 W g f0 f1) (ho : d.Q e W base ok v xs) (ht : ∀ q, q ∈ e :: d.E → q ≠ 67) : d.Q e W base (fun k => ok k ∧ k ≠ g) v xs := by
 obtain ⟨hb, hg⟩ := h
 exact Kd.Q_types ho hb ht
theorem IsS67.own_neQ {w0 W : World} {g : Nat} {f0 : ByteArray} {f1 : Bool} {α : Type} {d : Kd α} {e : Nat} {base : Nat} {ok : Nat → Prop} {v : Value} {xs : List α} (h : IsS67 w0 W g f0 f1) (ho : d.Q e W base ok v xs) (ht : e ≠ 67) : some g ≠ v.ownBlock := by
 obtain ⟨hb, hg⟩ := h
 exact Kd.Q_ne ho hb ht
theorem IsS67.apartS {w0 W : World} {g : Nat} {f0 : ByteArray} {f1 : Bool} {α : Type} {d : Kd α} {e : Nat} {base : Nat} {ok : Nat → Prop} {v : Value} {xs : List α} (h : IsS67 w0 W g f0 f1) (ho : d.S e W base ok v xs) (ht : ∀ q, q ∈ e :: d.E → q ≠ 67) : d.S e W base (fun k => ok k ∧ k ≠ g) v xs := by
 obtain ⟨hb, hg⟩ := h
 exact Kd.S_types ho hb ht
theorem IsS67.own_neS {w0 W : World} {g : Nat} {f0 : ByteArray} {f1 : Bool} {α : Type} {d : Kd α} {e : Nat} {base : Nat} {ok : Nat → Prop} {v : Value} {xs : List α} (h : IsS67 w0 W g f0 f1) (ho : d.S e W base ok v xs) (ht : e ≠ 67) : some g ≠ v.ownBlock := by
 obtain ⟨hb, hg⟩ := h
 exact Kd.S_ne ho hb ht
theorem IsS67.lt {w0 W : World} {g : Nat} {f0 : ByteArray} {f1 : Bool} (h : IsS67 w0 W g f0 f1) : g < W.heap.size := by
 obtain ⟨hb, hg⟩ := h
 exact blk_lt hb
theorem IsS67.ge {w0 W : World} {g : Nat} {f0 : ByteArray} {f1 : Bool} (h : IsS67 w0 W g f0 f1) : w0.heap.size ≤ g := by
 obtain ⟨hb, hg⟩ := h
 exact hg
theorem IsS67.ne_blk {w0 W : World} {g : Nat} {f0 : ByteArray} {f1 : Bool} {a : Nat} {cs : Array Value} {t : TypeId} {fr : Nat × Nat} (h : IsS67 w0 W g f0 f1) (hb2 : W.heap[a]? = some (.cells cs t fr)) (ht : t ≠ 67) : g ≠ a := by
 obtain ⟨hb, hg⟩ := h
 rintro rfl
 rw [hb] at hb2
 injection hb2 with hb2
 injection hb2 with _ ht2
 exact ht ht2.symm
theorem IsS67.far {w0 W : World} {g : Nat} {f0 : ByteArray} {f1 : Bool} {p : Addr} (h : IsS67 w0 W g f0 f1) (hne : g ≠ p.block) (u : Value) : IsS67 w0 (W.setCell p u) g f0 f1 := by
 obtain ⟨hb, hg⟩ := h
 exact ⟨blk_far hb hne u, hg⟩
theorem cellS67_0 {W : World} {g : Nat} {f0 : ByteArray} {f1 : Bool} (h : W.heap[g]? = some (.cells #[.string f0, .bool f1] 67 (0, 0))) : W.cell? ⟨g, 0, none⟩ = some (.string f0) := (blk_cell h 0).trans rfl
theorem IsS67.set_0 {w0 W : World} {g : Nat} {f0 : ByteArray} {f1 : Bool} (h : IsS67 w0 W g f0 f1) (x : ByteArray) : IsS67 w0 (W.setCell ⟨g, 0, none⟩ (.string x)) g x f1 := by
 obtain ⟨hb, hg⟩ := h
 exact ⟨by simpa using blk_set hb 0 (.string x), hg⟩
theorem cellS67_1 {W : World} {g : Nat} {f0 : ByteArray} {f1 : Bool} (h : W.heap[g]? = some (.cells #[.string f0, .bool f1] 67 (0, 0))) : W.cell? ⟨g, 1, none⟩ = some (.bool f1) := (blk_cell h 1).trans rfl
theorem IsS67.set_1 {w0 W : World} {g : Nat} {f0 : ByteArray} {f1 : Bool} (h : IsS67 w0 W g f0 f1) (x : Bool) : IsS67 w0 (W.setCell ⟨g, 1, none⟩ (.bool x)) g f0 x := by
 obtain ⟨hb, hg⟩ := h
 exact ⟨by simpa using blk_set hb 1 (.bool x), hg⟩
theorem IsS67.new (w0 W : World) (f0 : ByteArray) (f1 : Bool) (hB : Below w0.heap.size w0 W) : IsS67 w0 (W.alloc (.cells #[.string f0, .bool f1] 67)) W.heap.size f0 f1 := ⟨by simpa using heap_alloc_new W _, hB.size⟩

/-! ### date_scan_word: function 44 -/
def date_scan_word.f (s0_0 : ByteArray) (s0_1 : Bool) (a1 : ByteArray) : Option (ByteArray × Bool) := (strings_CutPrefix.f s0_0 a1).bind fun bt149 => (if s0_1 = true then (some (bt149.1, true)) else (some (bt149.1, !bt149.2)))
set_option maxHeartbeats 8000000 in
set_option maxRecDepth 100000 in
theorem date_scan_word.calls (g : Nat) (s0_0 : ByteArray) (s0_1 : Bool) (a1 : ByteArray) (r1 : ByteArray) (r2 : Bool) (w0 w : World) (hI : IsS67 w0 w g s0_0 s0_1) (hB : Below w0.heap.size w0 w) (h : date_scan_word.f s0_0 s0_1 a1 = some (r1, r2)) :
  Calls Try.prog 44 #[.pointer (some ⟨g, 0, none⟩), .string a1] w fun e w' => e = .returned (.tuple #[]) ∧ IsS67 w0 w' g r1 r2 ∧ Below w0.heap.size w0 w' ∧ KeepBut w w' g none := by
 have HI0 := Aside0.mk hI
 have HK := Aside0.mk (KeepBut.refl w g none)
 have HL := Aside0.mk hB.size
 clear hI
 have HW0 := Aside0.mk hB.size
 have HB := Aside0.mk hB
 clear hB
 have H : ((strings_CutPrefix.f s0_0 a1).bind fun bt149 => (if s0_1 = true then (some (bt149.1, true)) else (some (bt149.1, !bt149.2)))) = some (r1, r2) := h
 clear h
 replace H := Option.bind_eq_some_iff.mp H
 obtain ⟨⟨t149, t150⟩, A30, H⟩ := H
 replace H : (if s0_1 = true then (some (t149, true)) else (some (t149, !t150))) = some (r1, r2) := H
 have A3 := Aside0.mk A30
 clear A30
 by_cases c4 : s0_1 = true
 ·subst c4
  have H1 : (some (t149, true)) = some (r1, r2) := by rw [if_pos rfl] at H; exact H
  clear H
  have H := H1
  clear H1
  simp only [Option.some.injEq, Prod.mk.injEq] at H
  obtain ⟨rfl, rfl⟩ := H
  obtain ⟨HGz5, hgz5⟩ := HI0.out
  have hcz5_0 := cellS67_0 HGz5
  have hcz5_1 := cellS67_1 HGz5
  have hfz5_0 := blk_frozen HGz5 0
  have hfz5_1 := blk_frozen HGz5 1
  clear HGz5 hgz5
  go_enter Try.func44, Try.ntmps44
  go_wp2_with (first | ((with_reducible refine gate_callee (f := 66) rfl ?_); refine goesL_ (some 12) rfl rfl Try.func66 (by kernel_rfl) rfl #[.string s0_0, .string a1] rfl (by (try simp only [List.map_toArray, List.map_cons, List.map_nil]); first | done | rfl | (simp only [List.length_drop, List.length_take]; rfl)) ?_; (with_reducible refine (strings_CutPrefix.calls s0_0 a1 t149 t150 _ A3.out).mono ?_); rintro e w' ⟨rfl, ⟨nd, rfl⟩⟩; refine ⟨_, rfl, ?_⟩))
  first | go_end0 | ((try simp only [Exit.inBlock, Exit.then]); refine bodyPost_ret (results_none rfl _ _ _) rfl ?_)
  exact ⟨by first | rfl | (simp [errW_none, errW_some] <;> rfl) | (simp [*, errW_none, errW_some] <;> rfl), by repeat (first | (with_reducible first | exact HI0.out | apply IsS67.alloc | apply IsS67.drewN | apply IsS67.drew | apply IsS67.set_0 | apply IsS67.set_1) | exact HI0.out), by repeat (first | (with_reducible first | exact HB.out | apply below_alloc | apply pw_below_drewN | apply below_drew1 | refine below_set ?_ (IsS67.ge HI0.out)) | exact HB.out), by repeat (first | (with_reducible first | exact HK.out | apply KeepBut.set_ | apply keep_drewN | apply keep_drew | apply keep_alloc) | exact HK.out)⟩
 ·replace c4 := Bool.eq_false_iff.mpr c4
  subst c4
  have H1 : (some (t149, !t150)) = some (r1, r2) := by rw [if_neg (show ¬ (false = true) by decide)] at H; exact H
  clear H
  have H := H1
  clear H1
  simp only [Option.some.injEq, Prod.mk.injEq] at H
  obtain ⟨rfl, rfl⟩ := H
  obtain ⟨HGz6, hgz6⟩ := HI0.out
  have hcz6_0 := cellS67_0 HGz6
  have hcz6_1 := cellS67_1 HGz6
  have hfz6_0 := blk_frozen HGz6 0
  have hfz6_1 := blk_frozen HGz6 1
  clear HGz6 hgz6
  go_enter Try.func44, Try.ntmps44
  go_wp2_with (first | ((with_reducible refine gate_callee (f := 66) rfl ?_); refine goesL_ (some 12) rfl rfl Try.func66 (by kernel_rfl) rfl #[.string s0_0, .string a1] rfl (by (try simp only [List.map_toArray, List.map_cons, List.map_nil]); first | done | rfl | (simp only [List.length_drop, List.length_take]; rfl)) ?_; (with_reducible refine (strings_CutPrefix.calls s0_0 a1 t149 t150 _ A3.out).mono ?_); rintro e w' ⟨rfl, ⟨nd, rfl⟩⟩; refine ⟨_, rfl, ?_⟩))
  first | go_end0 | ((try simp only [Exit.inBlock, Exit.then]); refine bodyPost_ret (results_none rfl _ _ _) rfl ?_)
  exact ⟨by first | rfl | (simp [errW_none, errW_some] <;> rfl) | (simp [*, errW_none, errW_some] <;> rfl), by repeat (first | (with_reducible first | exact HI0.out | apply IsS67.alloc | apply IsS67.drewN | apply IsS67.drew | apply IsS67.set_0 | apply IsS67.set_1) | exact HI0.out), by repeat (first | (with_reducible first | exact HB.out | apply below_alloc | apply pw_below_drewN | apply below_drew1 | refine below_set ?_ (IsS67.ge HI0.out)) | exact HB.out), by repeat (first | (with_reducible first | exact HK.out | apply KeepBut.set_ | apply keep_drewN | apply keep_drew | apply keep_alloc) | exact HK.out)⟩

end Go.Proofs.Ytpddbfodjeoofaa.PDate
