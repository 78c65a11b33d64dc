-- Laid by this session's own program (wip/tools/myprint.sh) out of the translation.
import Derived.Test.YtpddbfodjeoofaaPDatex0
import Derived.Test.YtpddbfodjeoofaaPDatex6
import Derived.Test.YtpddbfodjeoofaaPDatex7
namespace Go.Proofs.Ytpddbfodjeoofaa.PDate
open Go.RowKit Go.Proofs.YtpddbfodjeoofaaW.PrintWords Go.Proofs.YtpddbfodjeoofaaW.PrintLast Go.Proofs.YtpddbfodjeoofaaW.PrintMore
attribute [local go_sem] max2_int min2_int max_two min_two max_three min_three max_four min_four   -- for this text's walks alone
set_option linter.unusedVariables false
set_option linter.unusedSimpArgs false

/-! ### sculleryref05_forms: function 40 -/
def sculleryref05_forms.j0 : Nat → Int → Int → Int → ByteArray → ByteArray → ByteArray → ByteArray → Option (ByteArray × ByteArray × ByteArray)
 | 0, _, _, _, _, _, _, _ => none
 | k + 1, x3, x4, x5, x6, x8, x9, x10 => if x6.size + 2 ≤ 9223372036854775807 then ((sculleryref05_two.f x5).bind fun t368 => (if (x6 ++ (⟨#[44, 32]⟩ : ByteArray)).size + t368.size ≤ 9223372036854775807 then (if ((x6 ++ (⟨#[44, 32]⟩ : ByteArray)) ++ t368).size + 1 ≤ 9223372036854775807 then ((sculleryref05_month.f x4).bind fun t369 => (if (((x6 ++ (⟨#[44, 32]⟩ : ByteArray)) ++ t368) ++ (⟨#[45]⟩ : ByteArray)).size + t369.size ≤ 9223372036854775807 then (if ((((x6 ++ (⟨#[44, 32]⟩ : ByteArray)) ++ t368) ++ (⟨#[45]⟩ : ByteArray)) ++ t369).size + 1 ≤ 9223372036854775807 then ((sculleryref05_two.f (Int.tmod x3 100)).bind fun t370 => (if (((((x6 ++ (⟨#[44, 32]⟩ : ByteArray)) ++ t368) ++ (⟨#[45]⟩ : ByteArray)) ++ t369) ++ (⟨#[45]⟩ : ByteArray)).size + t370.size ≤ 9223372036854775807 then (if ((((((x6 ++ (⟨#[44, 32]⟩ : ByteArray)) ++ t368) ++ (⟨#[45]⟩ : ByteArray)) ++ t369) ++ (⟨#[45]⟩ : ByteArray)) ++ t370).size + 1 ≤ 9223372036854775807 then (if (((((((x6 ++ (⟨#[44, 32]⟩ : ByteArray)) ++ t368) ++ (⟨#[45]⟩ : ByteArray)) ++ t369) ++ (⟨#[45]⟩ : ByteArray)) ++ t370) ++ (⟨#[32]⟩ : ByteArray)).size + x8.size ≤ 9223372036854775807 then (if ((((((((x6 ++ (⟨#[44, 32]⟩ : ByteArray)) ++ t368) ++ (⟨#[45]⟩ : ByteArray)) ++ t369) ++ (⟨#[45]⟩ : ByteArray)) ++ t370) ++ (⟨#[32]⟩ : ByteArray)) ++ x8).size + 4 ≤ 9223372036854775807 then (if x3 > 2069 then (if 0 ≤ 3 then (if 3 ≤ (x6.size : Int) then (if (x6.extract 0 3).size + 2 ≤ 9223372036854775807 then ((sculleryref05_two.f x5).bind fun t371 => (if ((x6.extract 0 3) ++ (⟨#[44, 32]⟩ : ByteArray)).size + t371.size ≤ 9223372036854775807 then (if (((x6.extract 0 3) ++ (⟨#[44, 32]⟩ : ByteArray)) ++ t371).size + 1 ≤ 9223372036854775807 then ((sculleryref05_month.f x4).bind fun t372 => (if ((((x6.extract 0 3) ++ (⟨#[44, 32]⟩ : ByteArray)) ++ t371) ++ (⟨#[32]⟩ : ByteArray)).size + t372.size ≤ 9223372036854775807 then (if (((((x6.extract 0 3) ++ (⟨#[44, 32]⟩ : ByteArray)) ++ t371) ++ (⟨#[32]⟩ : ByteArray)) ++ t372).size + 1 ≤ 9223372036854775807 then (if ((((((x6.extract 0 3) ++ (⟨#[44, 32]⟩ : ByteArray)) ++ t371) ++ (⟨#[32]⟩ : ByteArray)) ++ t372) ++ (⟨#[32]⟩ : ByteArray)).size + x9.size ≤ 9223372036854775807 then (if (((((((x6.extract 0 3) ++ (⟨#[44, 32]⟩ : ByteArray)) ++ t371) ++ (⟨#[32]⟩ : ByteArray)) ++ t372) ++ (⟨#[32]⟩ : ByteArray)) ++ x9).size + 1 ≤ 9223372036854775807 then (if ((((((((x6.extract 0 3) ++ (⟨#[44, 32]⟩ : ByteArray)) ++ t371) ++ (⟨#[32]⟩ : ByteArray)) ++ t372) ++ (⟨#[32]⟩ : ByteArray)) ++ x9) ++ (⟨#[32]⟩ : ByteArray)).size + x8.size ≤ 9223372036854775807 then (if (((((((((x6.extract 0 3) ++ (⟨#[44, 32]⟩ : ByteArray)) ++ t371) ++ (⟨#[32]⟩ : ByteArray)) ++ t372) ++ (⟨#[32]⟩ : ByteArray)) ++ x9) ++ (⟨#[32]⟩ : ByteArray)) ++ x8).size + 4 ≤ 9223372036854775807 then (if (x6.extract 0 3).size + 1 ≤ 9223372036854775807 then ((sculleryref05_month.f x4).bind fun t373 => (if ((x6.extract 0 3) ++ (⟨#[32]⟩ : ByteArray)).size + t373.size ≤ 9223372036854775807 then (if (((x6.extract 0 3) ++ (⟨#[32]⟩ : ByteArray)) ++ t373).size + 1 ≤ 9223372036854775807 then (if ((((x6.extract 0 3) ++ (⟨#[32]⟩ : ByteArray)) ++ t373) ++ (⟨#[32]⟩ : ByteArray)).size + x10.size ≤ 9223372036854775807 then (if (((((x6.extract 0 3) ++ (⟨#[32]⟩ : ByteArray)) ++ t373) ++ (⟨#[32]⟩ : ByteArray)) ++ x10).size + 1 ≤ 9223372036854775807 then (if ((((((x6.extract 0 3) ++ (⟨#[32]⟩ : ByteArray)) ++ t373) ++ (⟨#[32]⟩ : ByteArray)) ++ x10) ++ (⟨#[32]⟩ : ByteArray)).size + x8.size ≤ 9223372036854775807 then (if (((((((x6.extract 0 3) ++ (⟨#[32]⟩ : ByteArray)) ++ t373) ++ (⟨#[32]⟩ : ByteArray)) ++ x10) ++ (⟨#[32]⟩ : ByteArray)) ++ x8).size + 1 ≤ 9223372036854775807 then (if ((((((((x6.extract 0 3) ++ (⟨#[32]⟩ : ByteArray)) ++ t373) ++ (⟨#[32]⟩ : ByteArray)) ++ x10) ++ (⟨#[32]⟩ : ByteArray)) ++ x8) ++ (⟨#[32]⟩ : ByteArray)).size + x9.size ≤ 9223372036854775807 then (some ((((((((((x6.extract 0 3) ++ (⟨#[44, 32]⟩ : ByteArray)) ++ t371) ++ (⟨#[32]⟩ : ByteArray)) ++ t372) ++ (⟨#[32]⟩ : ByteArray)) ++ x9) ++ (⟨#[32]⟩ : ByteArray)) ++ x8) ++ (⟨#[32, 71, 77, 84]⟩ : ByteArray), (⟨#[]⟩ : ByteArray), ((((((((x6.extract 0 3) ++ (⟨#[32]⟩ : ByteArray)) ++ t373) ++ (⟨#[32]⟩ : ByteArray)) ++ x10) ++ (⟨#[32]⟩ : ByteArray)) ++ x8) ++ (⟨#[32]⟩ : ByteArray)) ++ x9)) else (none)) else (none)) else (none)) else (none)) else (none)) else (none)) else (none))) else (none)) else (none)) else (none)) else (none)) else (none)) else (none)) else (none))) else (none)) else (none))) else (none)) else (none)) else (none)) else (if 0 ≤ 3 then (if 3 ≤ (x6.size : Int) then (if (x6.extract 0 3).size + 2 ≤ 9223372036854775807 then ((sculleryref05_two.f x5).bind fun t374 => (if ((x6.extract 0 3) ++ (⟨#[44, 32]⟩ : ByteArray)).size + t374.size ≤ 9223372036854775807 then (if (((x6.extract 0 3) ++ (⟨#[44, 32]⟩ : ByteArray)) ++ t374).size + 1 ≤ 9223372036854775807 then ((sculleryref05_month.f x4).bind fun t375 => (if ((((x6.extract 0 3) ++ (⟨#[44, 32]⟩ : ByteArray)) ++ t374) ++ (⟨#[32]⟩ : ByteArray)).size + t375.size ≤ 9223372036854775807 then (if (((((x6.extract 0 3) ++ (⟨#[44, 32]⟩ : ByteArray)) ++ t374) ++ (⟨#[32]⟩ : ByteArray)) ++ t375).size + 1 ≤ 9223372036854775807 then (if ((((((x6.extract 0 3) ++ (⟨#[44, 32]⟩ : ByteArray)) ++ t374) ++ (⟨#[32]⟩ : ByteArray)) ++ t375) ++ (⟨#[32]⟩ : ByteArray)).size + x9.size ≤ 9223372036854775807 then (if (((((((x6.extract 0 3) ++ (⟨#[44, 32]⟩ : ByteArray)) ++ t374) ++ (⟨#[32]⟩ : ByteArray)) ++ t375) ++ (⟨#[32]⟩ : ByteArray)) ++ x9).size + 1 ≤ 9223372036854775807 then (if ((((((((x6.extract 0 3) ++ (⟨#[44, 32]⟩ : ByteArray)) ++ t374) ++ (⟨#[32]⟩ : ByteArray)) ++ t375) ++ (⟨#[32]⟩ : ByteArray)) ++ x9) ++ (⟨#[32]⟩ : ByteArray)).size + x8.size ≤ 9223372036854775807 then (if (((((((((x6.extract 0 3) ++ (⟨#[44, 32]⟩ : ByteArray)) ++ t374) ++ (⟨#[32]⟩ : ByteArray)) ++ t375) ++ (⟨#[32]⟩ : ByteArray)) ++ x9) ++ (⟨#[32]⟩ : ByteArray)) ++ x8).size + 4 ≤ 9223372036854775807 then (if (x6.extract 0 3).size + 1 ≤ 9223372036854775807 then ((sculleryref05_month.f x4).bind fun t376 => (if ((x6.extract 0 3) ++ (⟨#[32]⟩ : ByteArray)).size + t376.size ≤ 9223372036854775807 then (if (((x6.extract 0 3) ++ (⟨#[32]⟩ : ByteArray)) ++ t376).size + 1 ≤ 9223372036854775807 then (if ((((x6.extract 0 3) ++ (⟨#[32]⟩ : ByteArray)) ++ t376) ++ (⟨#[32]⟩ : ByteArray)).size + x10.size ≤ 9223372036854775807 then (if (((((x6.extract 0 3) ++ (⟨#[32]⟩ : ByteArray)) ++ t376) ++ (⟨#[32]⟩ : ByteArray)) ++ x10).size + 1 ≤ 9223372036854775807 then (if ((((((x6.extract 0 3) ++ (⟨#[32]⟩ : ByteArray)) ++ t376) ++ (⟨#[32]⟩ : ByteArray)) ++ x10) ++ (⟨#[32]⟩ : ByteArray)).size + x8.size ≤ 9223372036854775807 then (if (((((((x6.extract 0 3) ++ (⟨#[32]⟩ : ByteArray)) ++ t376) ++ (⟨#[32]⟩ : ByteArray)) ++ x10) ++ (⟨#[32]⟩ : ByteArray)) ++ x8).size + 1 ≤ 9223372036854775807 then (if ((((((((x6.extract 0 3) ++ (⟨#[32]⟩ : ByteArray)) ++ t376) ++ (⟨#[32]⟩ : ByteArray)) ++ x10) ++ (⟨#[32]⟩ : ByteArray)) ++ x8) ++ (⟨#[32]⟩ : ByteArray)).size + x9.size ≤ 9223372036854775807 then (some ((((((((((x6.extract 0 3) ++ (⟨#[44, 32]⟩ : ByteArray)) ++ t374) ++ (⟨#[32]⟩ : ByteArray)) ++ t375) ++ (⟨#[32]⟩ : ByteArray)) ++ x9) ++ (⟨#[32]⟩ : ByteArray)) ++ x8) ++ (⟨#[32, 71, 77, 84]⟩ : ByteArray), ((((((((x6 ++ (⟨#[44, 32]⟩ : ByteArray)) ++ t368) ++ (⟨#[45]⟩ : ByteArray)) ++ t369) ++ (⟨#[45]⟩ : ByteArray)) ++ t370) ++ (⟨#[32]⟩ : ByteArray)) ++ x8) ++ (⟨#[32, 71, 77, 84]⟩ : ByteArray), ((((((((x6.extract 0 3) ++ (⟨#[32]⟩ : ByteArray)) ++ t376) ++ (⟨#[32]⟩ : ByteArray)) ++ x10) ++ (⟨#[32]⟩ : ByteArray)) ++ x8) ++ (⟨#[32]⟩ : ByteArray)) ++ x9)) else (none)) else (none)) else (none)) else (none)) else (none)) else (none)) else (none))) else (none)) else (none)) else (none)) else (none)) else (none)) else (none)) else (none))) else (none)) else (none))) else (none)) else (none)) else (none))) else (none)) else (none)) else (none)) else (none))) else (none)) else (none))) else (none)) else (none))) else (none)
def sculleryref05_forms.f (k : Nat) (a0 : Int) : Option (ByteArray × ByteArray × ByteArray) := (sculleryref05_day.f k (wrap64 (Int.tdiv a0 86400))).bind fun bt357 => ((sculleryref05_Weekday.f (wrap64 (Int.tdiv a0 86400))).bind fun t360 => ((sculleryref05_weekday.f t360).bind fun t361 => ((sculleryref05_two.f (wrap64 (Int.tdiv (Int.tmod a0 86400) 3600))).bind fun t362 => (if t362.size + 1 ≤ 9223372036854775807 then ((sculleryref05_two.f (Int.tmod (wrap64 (Int.tdiv (Int.tmod a0 86400) 60)) 60)).bind fun t363 => (if (t362 ++ (⟨#[58]⟩ : ByteArray)).size + t363.size ≤ 9223372036854775807 then (if ((t362 ++ (⟨#[58]⟩ : ByteArray)) ++ t363).size + 1 ≤ 9223372036854775807 then ((sculleryref05_two.f (Int.tmod a0 60)).bind fun t364 => (if (((t362 ++ (⟨#[58]⟩ : ByteArray)) ++ t363) ++ (⟨#[58]⟩ : ByteArray)).size + t364.size ≤ 9223372036854775807 then ((sculleryref05_two.f (wrap64 (Int.tdiv bt357.1 100))).bind fun t365 => ((sculleryref05_two.f (Int.tmod bt357.1 100)).bind fun t366 => (if t365.size + t366.size ≤ 9223372036854775807 then ((sculleryref05_two.f bt357.2.2).bind fun t367 => (if bt357.2.2 < 10 then (if 1 ≤ (t367.size : Int) then (if 1 + (t367.extract 1 t367.size).size ≤ 9223372036854775807 then (sculleryref05_forms.j0 k bt357.1 bt357.2.1 bt357.2.2 t361 ((((t362 ++ (⟨#[58]⟩ : ByteArray)) ++ t363) ++ (⟨#[58]⟩ : ByteArray)) ++ t364) (t365 ++ t366) ((⟨#[32]⟩ : ByteArray) ++ (t367.extract 1 t367.size))) else (none)) else (none)) else (sculleryref05_forms.j0 k bt357.1 bt357.2.1 bt357.2.2 t361 ((((t362 ++ (⟨#[58]⟩ : ByteArray)) ++ t363) ++ (⟨#[58]⟩ : ByteArray)) ++ t364) (t365 ++ t366) t367))) else (none)))) else (none))) else (none)) else (none))) else (none)))))
theorem sculleryref05_forms.mono_l : ∀ k, (∀ y0 y1 y2 y3 y4 y5 y6, LeO (sculleryref05_forms.j0 k y0 y1 y2 y3 y4 y5 y6) (sculleryref05_forms.j0 (k + 1) y0 y1 y2 y3 y4 y5 y6))
 | 0 => fun _ _ _ _ _ _ _ r h => by simp [sculleryref05_forms.j0] at h
 | k + 1 => by
  have ih0 := sculleryref05_forms.mono_l k
  ·intro y0 y1 y2 y3 y4 y5 y6
   unfold sculleryref05_forms.j0
   repeat' first
   | (with_reducible exact ih0 _ _ _ _ _ _ _)
   | (with_reducible exact sculleryref05_day.mono _ _)
   | (with_reducible exact LeO.refl _)
   | (with_reducible exact LeO.none _)
   | (with_reducible refine LeO.ite ?_ ?_)
   | (with_reducible refine LeO.bind ?_ (fun _ => ?_))
   | exact ih0 _ _ _ _ _ _ _
   | exact sculleryref05_day.mono _ _
   | exact LeO.none _
   | refine LeO.ite ?_ ?_
   | refine LeO.bind ?_ (fun _ => ?_)
theorem sculleryref05_forms.mono : ∀ a0 k, LeO (sculleryref05_forms.f k a0) (sculleryref05_forms.f (k + 1) a0) := by
 intro a0 k
 have ih0 := sculleryref05_forms.mono_l k
 unfold sculleryref05_forms.f
 repeat' first
   | (with_reducible exact ih0 _ _ _ _ _ _ _)
   | (with_reducible exact sculleryref05_day.mono _ _)
   | (with_reducible exact LeO.refl _)
   | (with_reducible exact LeO.none _)
   | (with_reducible refine LeO.ite ?_ ?_)
   | (with_reducible refine LeO.bind ?_ (fun _ => ?_))
   | exact ih0 _ _ _ _ _ _ _
   | exact sculleryref05_day.mono _ _
   | exact LeO.none _
   | refine LeO.ite ?_ ?_
   | refine LeO.bind ?_ (fun _ => ?_)
def sculleryref05_forms.T12 : Bool × List (List Nat × List Nat) := (true, [([], []), ([0], [0]), ([1], [1]), ([], []), ([3], [3]), ([2, 4], [2, 4]), ([5], [5]), ([], []), ([7, 4], [7]), ([6, 8], [6, 8]), ([9], [9]), ([], []), ([10, 11], [10, 11]), ([12], [12]), ([], []), ([13, 14], [13, 14]), ([15], [15]), ([], []), ([], []), ([18], [18]), ([19], [19]), ([], []), ([21, 8], [21]), ([20, 22], [20, 22]), ([23], [23]), ([], []), ([24, 25], [24, 25]), ([26], [26]), ([], []), ([27, 28], [27, 28]), ([29], [29]), ([], []), ([30, 31], [30, 31]), ([16, 17, 32], [16, 17, 32]), ([33, 22, 0, 1, 2, 3, 4, 5, 6, 7, 8, 9, 10, 11, 12, 13, 14, 15, 16, 17, 18, 19, 20, 21, 22, 23, 24, 25, 26, 27, 28, 29, 30, 31, 32, 33], [33])])
def sculleryref05_forms.B12 : List Nat := [0, 1, 3, 0, 8, 31, 63, 0, 152, 511, 1023, 0, 4095, 8191, 0, 32767, 65535, 0, 0, 262144, 786432, 0, 2097560, 8126872, 16515480, 0, 66847128, 133955992, 0, 536609176, 1073480088, 0, 4294705560, 8589934591, 17179869183]
theorem sculleryref05_forms.tab12 : rtab .any (opsOf Try.f40 12) = sculleryref05_forms.T12 := by kernel_rfl
theorem sculleryref05_forms.bits12 : waitsOk sculleryref05_forms.T12.2 sculleryref05_forms.B12 = true := by kernel_rfl
set_option maxHeartbeats 8000000 in
set_option maxRecDepth 100000 in
theorem sculleryref05_forms.calls (k : Nat) (a0 : Int) (r1 : ByteArray) (r2 : ByteArray) (r3 : ByteArray) (w : World) (h : sculleryref05_forms.f k a0 = some (r1, r2, r3)) :
  Calls Try.prog 40 #[.int .i64 a0] w fun e w' => e = .returned (.agg #[.string r1, .string r2, .string r3]) ∧ Below w.heap.size w w' := by
 have hu59 := Try.underlying59
 have HB := Aside0.mk (Below.refl w.heap.size w)
 have H : ((sculleryref05_day.f k (wrap64 (Int.tdiv a0 86400))).bind fun bt357 => ((sculleryref05_Weekday.f (wrap64 (Int.tdiv a0 86400))).bind fun t360 => ((sculleryref05_weekday.f t360).bind fun t361 => ((sculleryref05_two.f (wrap64 (Int.tdiv (Int.tmod a0 86400) 3600))).bind fun t362 => (if t362.size + 1 ≤ 9223372036854775807 then ((sculleryref05_two.f (Int.tmod (wrap64 (Int.tdiv (Int.tmod a0 86400) 60)) 60)).bind fun t363 => (if (t362 ++ (⟨#[58]⟩ : ByteArray)).size + t363.size ≤ 9223372036854775807 then (if ((t362 ++ (⟨#[58]⟩ : ByteArray)) ++ t363).size + 1 ≤ 9223372036854775807 then ((sculleryref05_two.f (Int.tmod a0 60)).bind fun t364 => (if (((t362 ++ (⟨#[58]⟩ : ByteArray)) ++ t363) ++ (⟨#[58]⟩ : ByteArray)).size + t364.size ≤ 9223372036854775807 then ((sculleryref05_two.f (wrap64 (Int.tdiv bt357.1 100))).bind fun t365 => ((sculleryref05_two.f (Int.tmod bt357.1 100)).bind fun t366 => (if t365.size + t366.size ≤ 9223372036854775807 then ((sculleryref05_two.f bt357.2.2).bind fun t367 => (if bt357.2.2 < 10 then (if 1 ≤ (t367.size : Int) then (if 1 + (t367.extract 1 t367.size).size ≤ 9223372036854775807 then (sculleryref05_forms.j0 k bt357.1 bt357.2.1 bt357.2.2 t361 ((((t362 ++ (⟨#[58]⟩ : ByteArray)) ++ t363) ++ (⟨#[58]⟩ : ByteArray)) ++ t364) (t365 ++ t366) ((⟨#[32]⟩ : ByteArray) ++ (t367.extract 1 t367.size))) else (none)) else (none)) else (sculleryref05_forms.j0 k bt357.1 bt357.2.1 bt357.2.2 t361 ((((t362 ++ (⟨#[58]⟩ : ByteArray)) ++ t363) ++ (⟨#[58]⟩ : ByteArray)) ++ t364) (t365 ++ t366) t367))) else (none)))) else (none))) else (none)) else (none))) else (none)))))) = some (r1, r2, r3) := h
 clear h
 replace H := Option.bind_eq_some_iff.mp H
 obtain ⟨⟨t357, t358, t359⟩, A20, H⟩ := H
 replace H : ((sculleryref05_Weekday.f (wrap64 (Int.tdiv a0 86400))).bind fun t360 => ((sculleryref05_weekday.f t360).bind fun t361 => ((sculleryref05_two.f (wrap64 (Int.tdiv (Int.tmod a0 86400) 3600))).bind fun t362 => (if t362.size + 1 ≤ 9223372036854775807 then ((sculleryref05_two.f (Int.tmod (wrap64 (Int.tdiv (Int.tmod a0 86400) 60)) 60)).bind fun t363 => (if (t362 ++ (⟨#[58]⟩ : ByteArray)).size + t363.size ≤ 9223372036854775807 then (if ((t362 ++ (⟨#[58]⟩ : ByteArray)) ++ t363).size + 1 ≤ 9223372036854775807 then ((sculleryref05_two.f (Int.tmod a0 60)).bind fun t364 => (if (((t362 ++ (⟨#[58]⟩ : ByteArray)) ++ t363) ++ (⟨#[58]⟩ : ByteArray)).size + t364.size ≤ 9223372036854775807 then ((sculleryref05_two.f (wrap64 (Int.tdiv t357 100))).bind fun t365 => ((sculleryref05_two.f (Int.tmod t357 100)).bind fun t366 => (if t365.size + t366.size ≤ 9223372036854775807 then ((sculleryref05_two.f t359).bind fun t367 => (if t359 < 10 then (if 1 ≤ (t367.size : Int) then (if 1 + (t367.extract 1 t367.size).size ≤ 9223372036854775807 then (sculleryref05_forms.j0 k t357 t358 t359 t361 ((((t362 ++ (⟨#[58]⟩ : ByteArray)) ++ t363) ++ (⟨#[58]⟩ : ByteArray)) ++ t364) (t365 ++ t366) ((⟨#[32]⟩ : ByteArray) ++ (t367.extract 1 t367.size))) else (none)) else (none)) else (sculleryref05_forms.j0 k t357 t358 t359 t361 ((((t362 ++ (⟨#[58]⟩ : ByteArray)) ++ t363) ++ (⟨#[58]⟩ : ByteArray)) ++ t364) (t365 ++ t366) t367))) else (none)))) else (none))) else (none)) else (none))) else (none))))) = some (r1, r2, r3) := H
 have A2 := Aside0.mk A20
 clear A20
 replace H := Option.bind_eq_some_iff.mp H
 obtain ⟨t360, A30, H⟩ := H
 have A3 := Aside0.mk A30
 clear A30
 replace H := Option.bind_eq_some_iff.mp H
 obtain ⟨t361, A40, H⟩ := H
 have A4 := Aside0.mk A40
 clear A40
 replace H := Option.bind_eq_some_iff.mp H
 obtain ⟨t362, A50, H⟩ := H
 have A5 := Aside0.mk A50
 clear A50
 by_cases c6 : t362.size + 1 ≤ 9223372036854775807
 ·rw [if_pos c6] at H
  have c6s := c6
  (try simp only [ByteArray.size_append, ByteArray.size_extract, Nat.sub_zero, Nat.min_self, bsize_lit, List.size_toArray, List.length_cons, List.length_nil, Nat.zero_add, Nat.reduceAdd] at c6s)
  have c6b2 := eq_false (Nat.not_lt.2 c6s)
  have c6q := Aside0.mk c6
  clear c6 c6s
  replace H := Option.bind_eq_some_iff.mp H
  obtain ⟨t363, A70, H⟩ := H
  have A7 := Aside0.mk A70
  clear A70
  by_cases c8 : (t362 ++ (⟨#[58]⟩ : ByteArray)).size + t363.size ≤ 9223372036854775807
  ·rw [if_pos c8] at H
   have c8s := c8
   (try simp only [ByteArray.size_append, ByteArray.size_extract, Nat.sub_zero, Nat.min_self, bsize_lit, List.size_toArray, List.length_cons, List.length_nil, Nat.zero_add, Nat.reduceAdd] at c8s)
   have c8b2 := eq_false (Nat.not_lt.2 c8s)
   have c8q := Aside0.mk c8
   clear c8 c8s
   by_cases c9 : ((t362 ++ (⟨#[58]⟩ : ByteArray)) ++ t363).size + 1 ≤ 9223372036854775807
   ·rw [if_pos c9] at H
    have c9s := c9
    (try simp only [ByteArray.size_append, ByteArray.size_extract, Nat.sub_zero, Nat.min_self, bsize_lit, List.size_toArray, List.length_cons, List.length_nil, Nat.zero_add, Nat.reduceAdd] at c9s)
    have c9b2 := eq_false (Nat.not_lt.2 c9s)
    have c9q := Aside0.mk c9
    clear c9 c9s
    replace H := Option.bind_eq_some_iff.mp H
    obtain ⟨t364, A100, H⟩ := H
    have A10 := Aside0.mk A100
    clear A100
    by_cases c11 : (((t362 ++ (⟨#[58]⟩ : ByteArray)) ++ t363) ++ (⟨#[58]⟩ : ByteArray)).size + t364.size ≤ 9223372036854775807
    ·rw [if_pos c11] at H
     have c11s := c11
     (try simp only [ByteArray.size_append, ByteArray.size_extract, Nat.sub_zero, Nat.min_self, bsize_lit, List.size_toArray, List.length_cons, List.length_nil, Nat.zero_add, Nat.reduceAdd] at c11s)
     have c11b2 := eq_false (Nat.not_lt.2 c11s)
     have c11q := Aside0.mk c11
     clear c11 c11s
     replace H := Option.bind_eq_some_iff.mp H
     obtain ⟨t365, A120, H⟩ := H
     have A12 := Aside0.mk A120
     clear A120
     replace H := Option.bind_eq_some_iff.mp H
     obtain ⟨t366, A130, H⟩ := H
     have A13 := Aside0.mk A130
     clear A130
     by_cases c14 : t365.size + t366.size ≤ 9223372036854775807
     ·rw [if_pos c14] at H
      have c14s := c14
      (try simp only [ByteArray.size_append, ByteArray.size_extract, Nat.sub_zero, Nat.min_self, bsize_lit, List.size_toArray, List.length_cons, List.length_nil, Nat.zero_add, Nat.reduceAdd] at c14s)
      have c14b2 := eq_false (Nat.not_lt.2 c14s)
      have c14q := Aside0.mk c14
      clear c14 c14s
      replace H := Option.bind_eq_some_iff.mp H
      obtain ⟨t367, A150, H⟩ := H
      have A15 := Aside0.mk A150
      clear A150
      have HC16 := Aside0.mk H
      clear H
      go_enter Try.func40, Try.ntmps40
      go_upto_if 49 with (first | ((with_reducible refine gate_dst (N := 2) rfl ?_); refine box_event ?hg (N := 2) ?hd (cs := #[.string (⟨#[]⟩ : ByteArray), .string (⟨#[]⟩ : ByteArray), .string (⟨#[]⟩ : ByteArray)]) (t := 59) ?hr ?_; (case hd => rfl); (case hg => rfl); (case hr => first | (go_simp; done) | (go_simp; rfl)); intro gb356 hg w17 hbox hb; have n0_ := Aside0.mk (below_step (by repeat (first | (with_reducible first | exact HB.out | apply below_alloc | apply pw_below_drewN | apply below_drew1) | exact HB.out)) hb); have n1_ := Aside0.mk (hbox); have n2_ := Aside0.mk ((by rw [hg]; exact (below_size (by repeat (first | (with_reducible first | exact HB.out | apply below_alloc | apply pw_below_drewN | apply below_drew1) | exact HB.out))) : w.heap.size ≤ gb356)); have n3_ := Aside0.mk ((by rw [hg]; exact (below_size (by repeat (first | (with_reducible first | exact HB.out | apply below_alloc | apply pw_below_drewN | apply below_drew1) | exact HB.out))) : w.heap.size ≤ gb356)); clear HB; have HB := n0_; have BK356 := n1_; have GW356 := n2_; have GE356 := n3_; clear n0_ n1_ n2_ n3_; clear hb hbox hg) | ((with_reducible refine gate_callee (f := 58) rfl ?_); refine goesL_ (some 15) rfl rfl Try.func58 (by kernel_rfl) rfl #[.int .i64 (wrap64 (Int.tdiv a0 86400))] rfl (by (try simp only [List.map_toArray, List.map_cons, List.map_nil]); first | done | rfl | (simp only [List.length_drop, List.length_take]; rfl)) ?_; (with_reducible refine (sculleryref05_day.calls k (wrap64 (Int.tdiv a0 86400)) t357 t358 t359 _ A2.out).mono ?_); rintro e w18 ⟨rfl, hb⟩; refine ⟨_, rfl, ?_⟩; have n0_ := Aside0.mk (blk_below (g := gb356) (o := .cells #[.string (⟨#[]⟩ : ByteArray), .string (⟨#[]⟩ : ByteArray), .string (⟨#[]⟩ : ByteArray)] 59 (0, 0)) (by (with_reducible repeat (first | refine blk_drewN ?_ _ | refine blk_drew ?_ | refine blk_alloc ?_ _)); exact BK356.out) hb); have n1_ := Aside0.mk (below_step (by repeat (first | (with_reducible first | exact HB.out | apply below_alloc | apply pw_below_drewN | apply below_drew1 | refine below_set ?_ GE356.out) | exact HB.out)) hb); clear BK356; clear HB; have BK356 := n0_; have HB := n1_; clear n0_ n1_; (try clear hb); (try clear hb2); (try clear hk); (try clear hi)) | ((with_reducible refine gate_callee (f := 17) rfl ?_); refine goesL_ (some 21) rfl rfl Try.func17 (by kernel_rfl) rfl #[.int .i64 (wrap64 (Int.tdiv a0 86400))] rfl (by (try simp only [List.map_toArray, List.map_cons, List.map_nil]); first | done | rfl | (simp only [List.length_drop, List.length_take]; rfl)) ?_; (with_reducible refine (sculleryref05_Weekday.calls (wrap64 (Int.tdiv a0 86400)) t360 _ A3.out).mono ?_); rintro e w' ⟨rfl, ⟨nd, rfl⟩⟩; refine ⟨_, rfl, ?_⟩) | ((with_reducible refine gate_callee (f := 59) rfl ?_); refine goesL_ (some 22) rfl rfl Try.func59 (by kernel_rfl) rfl #[.int .i64 t360] rfl (by (try simp only [List.map_toArray, List.map_cons, List.map_nil]); first | done | rfl | (simp only [List.length_drop, List.length_take]; rfl)) ?_; (with_reducible refine (sculleryref05_weekday.calls t360 t361 _ A4.out).mono ?_); rintro e w19 ⟨rfl, hb⟩; refine ⟨_, rfl, ?_⟩; have n0_ := Aside0.mk (blk_below (g := gb356) (o := .cells #[.string (⟨#[]⟩ : ByteArray), .string (⟨#[]⟩ : ByteArray), .string (⟨#[]⟩ : ByteArray)] 59 (0, 0)) (by (with_reducible repeat (first | refine blk_drewN ?_ _ | refine blk_drew ?_ | refine blk_alloc ?_ _)); exact BK356.out) hb); have n1_ := Aside0.mk (below_step (by repeat (first | (with_reducible first | exact HB.out | apply below_alloc | apply pw_below_drewN | apply below_drew1 | refine below_set ?_ GE356.out) | exact HB.out)) hb); clear BK356; clear HB; have BK356 := n0_; have HB := n1_; clear n0_ n1_; (try clear hb); (try clear hb2); (try clear hk); (try clear hi)) | ((with_reducible refine gate_callee (f := 60) rfl ?_); refine goesL_ (some 27) rfl rfl Try.func60 (by kernel_rfl) rfl #[.int .i64 (wrap64 (Int.tdiv (Int.tmod a0 86400) 3600))] rfl (by (try simp only [List.map_toArray, List.map_cons, List.map_nil]); first | done | rfl | (simp only [List.length_drop, List.length_take]; rfl)) ?_; (with_reducible refine (sculleryref05_two.calls (wrap64 (Int.tdiv (Int.tmod a0 86400) 3600)) t362 _ A5.out).mono ?_); rintro e w' ⟨rfl, ⟨nd, rfl⟩⟩; refine ⟨_, rfl, ?_⟩) | ((with_reducible refine gate_callee (f := 60) rfl ?_); refine goesL_ (some 32) rfl rfl Try.func60 (by kernel_rfl) rfl #[.int .i64 (Int.tmod (wrap64 (Int.tdiv (Int.tmod a0 86400) 60)) 60)] rfl (by (try simp only [List.map_toArray, List.map_cons, List.map_nil]); first | done | rfl | (simp only [List.length_drop, List.length_take]; rfl)) ?_; (with_reducible refine (sculleryref05_two.calls (Int.tmod (wrap64 (Int.tdiv (Int.tmod a0 86400) 60)) 60) t363 _ A7.out).mono ?_); rintro e w' ⟨rfl, ⟨nd, rfl⟩⟩; refine ⟨_, rfl, ?_⟩) | ((with_reducible refine gate_callee (f := 60) rfl ?_); refine goesL_ (some 37) rfl rfl Try.func60 (by kernel_rfl) rfl #[.int .i64 (Int.tmod a0 60)] rfl (by (try simp only [List.map_toArray, List.map_cons, List.map_nil]); first | done | rfl | (simp only [List.length_drop, List.length_take]; rfl)) ?_; (with_reducible refine (sculleryref05_two.calls (Int.tmod a0 60) t364 _ A10.out).mono ?_); rintro e w' ⟨rfl, ⟨nd, rfl⟩⟩; refine ⟨_, rfl, ?_⟩) | ((with_reducible refine gate_callee (f := 60) rfl ?_); refine goesL_ (some 41) rfl rfl Try.func60 (by kernel_rfl) rfl #[.int .i64 (wrap64 (Int.tdiv t357 100))] rfl (by (try simp only [List.map_toArray, List.map_cons, List.map_nil]); first | done | rfl | (simp only [List.length_drop, List.length_take]; rfl)) ?_; (with_reducible refine (sculleryref05_two.calls (wrap64 (Int.tdiv t357 100)) t365 _ A12.out).mono ?_); rintro e w' ⟨rfl, ⟨nd, rfl⟩⟩; refine ⟨_, rfl, ?_⟩) | ((with_reducible refine gate_callee (f := 60) rfl ?_); refine goesL_ (some 44) rfl rfl Try.func60 (by kernel_rfl) rfl #[.int .i64 (Int.tmod t357 100)] rfl (by (try simp only [List.map_toArray, List.map_cons, List.map_nil]); first | done | rfl | (simp only [List.length_drop, List.length_take]; rfl)) ?_; (with_reducible refine (sculleryref05_two.calls (Int.tmod t357 100) t366 _ A13.out).mono ?_); rintro e w' ⟨rfl, ⟨nd, rfl⟩⟩; refine ⟨_, rfl, ?_⟩) | ((with_reducible refine gate_callee (f := 60) rfl ?_); refine goesL_ (some 47) rfl rfl Try.func60 (by kernel_rfl) rfl #[.int .i64 t359] rfl (by (try simp only [List.map_toArray, List.map_cons, List.map_nil]); first | done | rfl | (simp only [List.length_drop, List.length_take]; rfl)) ?_; (with_reducible refine (sculleryref05_two.calls t359 t367 _ A15.out).mono ?_); rintro e w' ⟨rfl, ⟨nd, rfl⟩⟩; refine ⟨_, rfl, ?_⟩))
      (try simp only [Act.put, List.setIfInBounds_toArray, List.set_cons_zero, List.set_cons_succ])
      go_cut [10] (fun v10 wc => ∃ (kq : Nat) (x10_15 : ByteArray), v10 = .string x10_15 ∧ Aside0 (sculleryref05_forms.j0 kq t357 t358 t359 t361 ((((t362 ++ (⟨#[58]⟩ : ByteArray)) ++ t363) ++ (⟨#[58]⟩ : ByteArray)) ++ t364) (t365 ++ t366) x10_15 = some (r1, r2, r3)) ∧ Aside0 (kq ≤ k) ∧ Aside0 (wc.heap[gb356]? = some (.cells #[.string (⟨#[]⟩ : ByteArray), .string (⟨#[]⟩ : ByteArray), .string (⟨#[]⟩ : ByteArray)] 59 (0, 0))) ∧ Aside0 (Below w.heap.size w wc))
      case first =>
       have H := HC16.out
       clear HC16
       by_cases c20 : t359 < 10
       ·rw [if_pos c20] at H
        have c20b0 : decide (t359 < 10) = true := decide_eq_true c20
        clear c20
        (first | rw [c20b0] | (simp only [i64_w, i32_w]; rw [c20b0]) | skip)
        by_cases c21 : 1 ≤ (t367.size : Int)
        ·rw [if_pos c21] at H
         have c21b0 := eq_true c21
         have c21b1 : decide (1 ≤ (t367.size : Int)) = true := decide_eq_true c21
         clear c21
         by_cases c22 : 1 + (t367.extract 1 t367.size).size ≤ 9223372036854775807
         ·rw [if_pos c22] at H
          have c22s := c22
          (try simp only [ByteArray.size_append, ByteArray.size_extract, Nat.sub_zero, Nat.min_self, bsize_lit, List.size_toArray, List.length_cons, List.length_nil, Nat.zero_add, Nat.reduceAdd] at c22s)
          have c22b2 := eq_false (Nat.not_lt.2 c22s)
          have c22q := Aside0.mk c22
          clear c22 c22s
          have H' := Aside0.mk H
          clear H
          go_wp2
          go_meet
          case rel => exact ⟨_, ((⟨#[32]⟩ : ByteArray) ++ (t367.extract 1 t367.size)), (by first | rfl | (simp; done) | (simp [*]; done)), H', ⟨by first | omega | exact Nat.le_refl _⟩, ⟨by (with_reducible repeat (first | refine blk_drewN ?_ _ | refine blk_drew ?_ | refine blk_alloc ?_ _)); exact BK356.out⟩, ⟨by repeat (first | (with_reducible first | exact HB.out | apply below_alloc | apply pw_below_drewN | apply below_drew1 | refine below_set ?_ GE356.out) | exact HB.out)⟩⟩
         ·rw [if_neg c22] at H
          exact absurd H (by simp)
        ·rw [if_neg c21] at H
         exact absurd H (by simp)
       ·rw [if_neg c20] at H
        have c20b0 : decide (t359 < 10) = false := decide_eq_false c20
        clear c20
        (first | rw [c20b0] | (simp only [i64_w, i32_w]; rw [c20b0]) | skip)
        have H' := Aside0.mk H
        clear H
        go_wp2
        go_meet
        case rel => exact ⟨_, (t367), (by first | rfl | (simp; done) | (simp [*]; done)), H', ⟨by first | omega | exact Nat.le_refl _⟩, ⟨by (with_reducible repeat (first | refine blk_drewN ?_ _ | refine blk_drew ?_ | refine blk_alloc ?_ _)); exact BK356.out⟩, ⟨by repeat (first | (with_reducible first | exact HB.out | apply below_alloc | apply pw_below_drewN | apply below_drew1 | refine below_set ?_ GE356.out) | exact HB.out)⟩⟩
      case rest =>
       clear HC16
       try clear c1
       try clear c2
       try clear p2
       try clear c4
       try clear c5
       try clear c6
       try clear c6b2
       try clear p6
       try clear c8
       try clear c8b2
       try clear c9
       try clear c9b2
       try clear c11
       try clear c11b2
       try clear c14
       try clear c14b2
       try clear c17
       try clear c20
       try clear c20b0
       try clear c21
       try clear c21b0
       try clear c21b1
       try clear c22
       try clear c22b2
       obtain ⟨kq, x10_15, rfl, HA, HJ15, BK356, HB⟩ := hcut
       cases kq with
       | zero => exact absurd HA.out (by simp [sculleryref05_forms.j0])
       | succ kj15 =>
        have H := HA.out
        clear HA
        simp only [sculleryref05_forms.j0] at H
        by_cases c23 : t361.size + 2 ≤ 9223372036854775807
        ·rw [if_pos c23] at H
         have c23s := c23
         (try simp only [ByteArray.size_append, ByteArray.size_extract, Nat.sub_zero, Nat.min_self, bsize_lit, List.size_toArray, List.length_cons, List.length_nil, Nat.zero_add, Nat.reduceAdd] at c23s)
         have c23b2 := eq_false (Nat.not_lt.2 c23s)
         have c23q := Aside0.mk c23
         clear c23 c23s
         replace H := Option.bind_eq_some_iff.mp H
         obtain ⟨t368, A240, H⟩ := H
         have A24 := Aside0.mk A240
         clear A240
         by_cases c25 : (t361 ++ (⟨#[44, 32]⟩ : ByteArray)).size + t368.size ≤ 9223372036854775807
         ·rw [if_pos c25] at H
          have c25s := c25
          (try simp only [ByteArray.size_append, ByteArray.size_extract, Nat.sub_zero, Nat.min_self, bsize_lit, List.size_toArray, List.length_cons, List.length_nil, Nat.zero_add, Nat.reduceAdd] at c25s)
          have c25b2 := eq_false (Nat.not_lt.2 c25s)
          have c25q := Aside0.mk c25
          clear c25 c25s
          by_cases c26 : ((t361 ++ (⟨#[44, 32]⟩ : ByteArray)) ++ t368).size + 1 ≤ 9223372036854775807
          ·rw [if_pos c26] at H
           have c26s := c26
           (try simp only [ByteArray.size_append, ByteArray.size_extract, Nat.sub_zero, Nat.min_self, bsize_lit, List.size_toArray, List.length_cons, List.length_nil, Nat.zero_add, Nat.reduceAdd] at c26s)
           have c26b2 := eq_false (Nat.not_lt.2 c26s)
           have c26q := Aside0.mk c26
           clear c26 c26s
           replace H := Option.bind_eq_some_iff.mp H
           obtain ⟨t369, A270, H⟩ := H
           have A27 := Aside0.mk A270
           clear A270
           by_cases c28 : (((t361 ++ (⟨#[44, 32]⟩ : ByteArray)) ++ t368) ++ (⟨#[45]⟩ : ByteArray)).size + t369.size ≤ 9223372036854775807
           ·rw [if_pos c28] at H
            have c28s := c28
            (try simp only [ByteArray.size_append, ByteArray.size_extract, Nat.sub_zero, Nat.min_self, bsize_lit, List.size_toArray, List.length_cons, List.length_nil, Nat.zero_add, Nat.reduceAdd] at c28s)
            have c28b2 := eq_false (Nat.not_lt.2 c28s)
            have c28q := Aside0.mk c28
            clear c28 c28s
            by_cases c29 : ((((t361 ++ (⟨#[44, 32]⟩ : ByteArray)) ++ t368) ++ (⟨#[45]⟩ : ByteArray)) ++ t369).size + 1 ≤ 9223372036854775807
            ·rw [if_pos c29] at H
             have c29s := c29
             (try simp only [ByteArray.size_append, ByteArray.size_extract, Nat.sub_zero, Nat.min_self, bsize_lit, List.size_toArray, List.length_cons, List.length_nil, Nat.zero_add, Nat.reduceAdd] at c29s)
             have c29b2 := eq_false (Nat.not_lt.2 c29s)
             have c29q := Aside0.mk c29
             clear c29 c29s
             replace H := Option.bind_eq_some_iff.mp H
             obtain ⟨t370, A300, H⟩ := H
             have A30 := Aside0.mk A300
             clear A300
             by_cases c31 : (((((t361 ++ (⟨#[44, 32]⟩ : ByteArray)) ++ t368) ++ (⟨#[45]⟩ : ByteArray)) ++ t369) ++ (⟨#[45]⟩ : ByteArray)).size + t370.size ≤ 9223372036854775807
             ·rw [if_pos c31] at H
              have c31s := c31
              (try simp only [ByteArray.size_append, ByteArray.size_extract, Nat.sub_zero, Nat.min_self, bsize_lit, List.size_toArray, List.length_cons, List.length_nil, Nat.zero_add, Nat.reduceAdd] at c31s)
              have c31b2 := eq_false (Nat.not_lt.2 c31s)
              have c31q := Aside0.mk c31
              clear c31 c31s
              by_cases c32 : ((((((t361 ++ (⟨#[44, 32]⟩ : ByteArray)) ++ t368) ++ (⟨#[45]⟩ : ByteArray)) ++ t369) ++ (⟨#[45]⟩ : ByteArray)) ++ t370).size + 1 ≤ 9223372036854775807
              ·rw [if_pos c32] at H
               have c32s := c32
               (try simp only [ByteArray.size_append, ByteArray.size_extract, Nat.sub_zero, Nat.min_self, bsize_lit, List.size_toArray, List.length_cons, List.length_nil, Nat.zero_add, Nat.reduceAdd] at c32s)
               have c32b2 := eq_false (Nat.not_lt.2 c32s)
               have c32q := Aside0.mk c32
               clear c32 c32s
               by_cases c33 : (((((((t361 ++ (⟨#[44, 32]⟩ : ByteArray)) ++ t368) ++ (⟨#[45]⟩ : ByteArray)) ++ t369) ++ (⟨#[45]⟩ : ByteArray)) ++ t370) ++ (⟨#[32]⟩ : ByteArray)).size + ((((t362 ++ (⟨#[58]⟩ : ByteArray)) ++ t363) ++ (⟨#[58]⟩ : ByteArray)) ++ t364).size ≤ 9223372036854775807
               ·rw [if_pos c33] at H
                have c33s := c33
                (try simp only [ByteArray.size_append, ByteArray.size_extract, Nat.sub_zero, Nat.min_self, bsize_lit, List.size_toArray, List.length_cons, List.length_nil, Nat.zero_add, Nat.reduceAdd] at c33s)
                have c33b2 := eq_false (Nat.not_lt.2 c33s)
                have c33q := Aside0.mk c33
                clear c33 c33s
                by_cases c34 : ((((((((t361 ++ (⟨#[44, 32]⟩ : ByteArray)) ++ t368) ++ (⟨#[45]⟩ : ByteArray)) ++ t369) ++ (⟨#[45]⟩ : ByteArray)) ++ t370) ++ (⟨#[32]⟩ : ByteArray)) ++ ((((t362 ++ (⟨#[58]⟩ : ByteArray)) ++ t363) ++ (⟨#[58]⟩ : ByteArray)) ++ t364)).size + 4 ≤ 9223372036854775807
                ·rw [if_pos c34] at H
                 have c34s := c34
                 (try simp only [ByteArray.size_append, ByteArray.size_extract, Nat.sub_zero, Nat.min_self, bsize_lit, List.size_toArray, List.length_cons, List.length_nil, Nat.zero_add, Nat.reduceAdd] at c34s)
                 have c34b2 := eq_false (Nat.not_lt.2 c34s)
                 have c34q := Aside0.mk c34
                 clear c34 c34s
                 by_cases c35 : t357 > 2069
                 ·rw [if_pos c35] at H
                  have c35b0 : decide (2069 < t357) = true := decide_eq_true c35
                  clear c35
                  by_cases c36 : 0 ≤ 3
                  ·rw [if_pos c36] at H
                   have c36b0 := eq_true c36
                   have c36b1 : decide (0 ≤ 3) = true := decide_eq_true c36
                   clear c36
                   by_cases c37 : 3 ≤ (t361.size : Int)
                   ·rw [if_pos c37] at H
                    have c37b0 := eq_true c37
                    have c37b1 : decide (3 ≤ (t361.size : Int)) = true := decide_eq_true c37
                    clear c37
                    by_cases c38 : (t361.extract 0 3).size + 2 ≤ 9223372036854775807
                    ·rw [if_pos c38] at H
                     have c38s := c38
                     (try simp only [ByteArray.size_append, ByteArray.size_extract, Nat.sub_zero, Nat.min_self, bsize_lit, List.size_toArray, List.length_cons, List.length_nil, Nat.zero_add, Nat.reduceAdd] at c38s)
                     have c38b2 := eq_false (Nat.not_lt.2 c38s)
                     have c38q := Aside0.mk c38
                     clear c38 c38s
                     replace H := Option.bind_eq_some_iff.mp H
                     obtain ⟨t371, A390, H⟩ := H
                     have A39 := Aside0.mk A390
                     clear A390
                     by_cases c40 : ((t361.extract 0 3) ++ (⟨#[44, 32]⟩ : ByteArray)).size + t371.size ≤ 9223372036854775807
                     ·rw [if_pos c40] at H
                      have c40s := c40
                      (try simp only [ByteArray.size_append, ByteArray.size_extract, Nat.sub_zero, Nat.min_self, bsize_lit, List.size_toArray, List.length_cons, List.length_nil, Nat.zero_add, Nat.reduceAdd] at c40s)
                      have c40b2 := eq_false (Nat.not_lt.2 c40s)
                      have c40q := Aside0.mk c40
                      clear c40 c40s
                      by_cases c41 : (((t361.extract 0 3) ++ (⟨#[44, 32]⟩ : ByteArray)) ++ t371).size + 1 ≤ 9223372036854775807
                      ·rw [if_pos c41] at H
                       have c41s := c41
                       (try simp only [ByteArray.size_append, ByteArray.size_extract, Nat.sub_zero, Nat.min_self, bsize_lit, List.size_toArray, List.length_cons, List.length_nil, Nat.zero_add, Nat.reduceAdd] at c41s)
                       have c41b2 := eq_false (Nat.not_lt.2 c41s)
                       have c41q := Aside0.mk c41
                       clear c41 c41s
                       replace H := Option.bind_eq_some_iff.mp H
                       obtain ⟨t372, A420, H⟩ := H
                       have A42 := Aside0.mk A420
                       clear A420
                       by_cases c43 : ((((t361.extract 0 3) ++ (⟨#[44, 32]⟩ : ByteArray)) ++ t371) ++ (⟨#[32]⟩ : ByteArray)).size + t372.size ≤ 9223372036854775807
                       ·rw [if_pos c43] at H
                        have c43s := c43
                        (try simp only [ByteArray.size_append, ByteArray.size_extract, Nat.sub_zero, Nat.min_self, bsize_lit, List.size_toArray, List.length_cons, List.length_nil, Nat.zero_add, Nat.reduceAdd] at c43s)
                        have c43b2 := eq_false (Nat.not_lt.2 c43s)
                        have c43q := Aside0.mk c43
                        clear c43 c43s
                        by_cases c44 : (((((t361.extract 0 3) ++ (⟨#[44, 32]⟩ : ByteArray)) ++ t371) ++ (⟨#[32]⟩ : ByteArray)) ++ t372).size + 1 ≤ 9223372036854775807
                        ·rw [if_pos c44] at H
                         have c44s := c44
                         (try simp only [ByteArray.size_append, ByteArray.size_extract, Nat.sub_zero, Nat.min_self, bsize_lit, List.size_toArray, List.length_cons, List.length_nil, Nat.zero_add, Nat.reduceAdd] at c44s)
                         have c44b2 := eq_false (Nat.not_lt.2 c44s)
                         have c44q := Aside0.mk c44
                         clear c44 c44s
                         by_cases c45 : ((((((t361.extract 0 3) ++ (⟨#[44, 32]⟩ : ByteArray)) ++ t371) ++ (⟨#[32]⟩ : ByteArray)) ++ t372) ++ (⟨#[32]⟩ : ByteArray)).size + (t365 ++ t366).size ≤ 9223372036854775807
                         ·rw [if_pos c45] at H
                          have c45s := c45
                          (try simp only [ByteArray.size_append, ByteArray.size_extract, Nat.sub_zero, Nat.min_self, bsize_lit, List.size_toArray, List.length_cons, List.length_nil, Nat.zero_add, Nat.reduceAdd] at c45s)
                          have c45b2 := eq_false (Nat.not_lt.2 c45s)
                          have c45q := Aside0.mk c45
                          clear c45 c45s
                          by_cases c46 : (((((((t361.extract 0 3) ++ (⟨#[44, 32]⟩ : ByteArray)) ++ t371) ++ (⟨#[32]⟩ : ByteArray)) ++ t372) ++ (⟨#[32]⟩ : ByteArray)) ++ (t365 ++ t366)).size + 1 ≤ 9223372036854775807
                          ·rw [if_pos c46] at H
                           have c46s := c46
                           (try simp only [ByteArray.size_append, ByteArray.size_extract, Nat.sub_zero, Nat.min_self, bsize_lit, List.size_toArray, List.length_cons, List.length_nil, Nat.zero_add, Nat.reduceAdd] at c46s)
                           have c46b2 := eq_false (Nat.not_lt.2 c46s)
                           have c46q := Aside0.mk c46
                           clear c46 c46s
                           by_cases c47 : ((((((((t361.extract 0 3) ++ (⟨#[44, 32]⟩ : ByteArray)) ++ t371) ++ (⟨#[32]⟩ : ByteArray)) ++ t372) ++ (⟨#[32]⟩ : ByteArray)) ++ (t365 ++ t366)) ++ (⟨#[32]⟩ : ByteArray)).size + ((((t362 ++ (⟨#[58]⟩ : ByteArray)) ++ t363) ++ (⟨#[58]⟩ : ByteArray)) ++ t364).size ≤ 9223372036854775807
                           ·rw [if_pos c47] at H
                            have c47s := c47
                            (try simp only [ByteArray.size_append, ByteArray.size_extract, Nat.sub_zero, Nat.min_self, bsize_lit, List.size_toArray, List.length_cons, List.length_nil, Nat.zero_add, Nat.reduceAdd] at c47s)
                            have c47b2 := eq_false (Nat.not_lt.2 c47s)
                            have c47q := Aside0.mk c47
                            clear c47 c47s
                            by_cases c48 : (((((((((t361.extract 0 3) ++ (⟨#[44, 32]⟩ : ByteArray)) ++ t371) ++ (⟨#[32]⟩ : ByteArray)) ++ t372) ++ (⟨#[32]⟩ : ByteArray)) ++ (t365 ++ t366)) ++ (⟨#[32]⟩ : ByteArray)) ++ ((((t362 ++ (⟨#[58]⟩ : ByteArray)) ++ t363) ++ (⟨#[58]⟩ : ByteArray)) ++ t364)).size + 4 ≤ 9223372036854775807
                            ·rw [if_pos c48] at H
                             have c48s := c48
                             (try simp only [ByteArray.size_append, ByteArray.size_extract, Nat.sub_zero, Nat.min_self, bsize_lit, List.size_toArray, List.length_cons, List.length_nil, Nat.zero_add, Nat.reduceAdd] at c48s)
                             have c48b2 := eq_false (Nat.not_lt.2 c48s)
                             have c48q := Aside0.mk c48
                             clear c48 c48s
                             have c49b0 := eq_true (of_decide_eq_true (by first | (with_reducible assumption) | assumption) : 0 ≤ 3)
                             have c50b0 := eq_true (of_decide_eq_true (by first | (with_reducible assumption) | assumption) : 3 ≤ (t361.size : Int))
                             by_cases c51 : (t361.extract 0 3).size + 1 ≤ 9223372036854775807
                             ·rw [if_pos c51] at H
                              have c51s := c51
                              (try simp only [ByteArray.size_append, ByteArray.size_extract, Nat.sub_zero, Nat.min_self, bsize_lit, List.size_toArray, List.length_cons, List.length_nil, Nat.zero_add, Nat.reduceAdd] at c51s)
                              have c51b2 := eq_false (Nat.not_lt.2 c51s)
                              have c51q := Aside0.mk c51
                              clear c51 c51s
                              replace H := Option.bind_eq_some_iff.mp H
                              obtain ⟨t373, A520, H⟩ := H
                              have A52 := Aside0.mk A520
                              clear A520
                              by_cases c53 : ((t361.extract 0 3) ++ (⟨#[32]⟩ : ByteArray)).size + t373.size ≤ 9223372036854775807
                              ·rw [if_pos c53] at H
                               have c53s := c53
                               (try simp only [ByteArray.size_append, ByteArray.size_extract, Nat.sub_zero, Nat.min_self, bsize_lit, List.size_toArray, List.length_cons, List.length_nil, Nat.zero_add, Nat.reduceAdd] at c53s)
                               have c53b2 := eq_false (Nat.not_lt.2 c53s)
                               have c53q := Aside0.mk c53
                               clear c53 c53s
                               by_cases c54 : (((t361.extract 0 3) ++ (⟨#[32]⟩ : ByteArray)) ++ t373).size + 1 ≤ 9223372036854775807
                               ·rw [if_pos c54] at H
                                have c54s := c54
                                (try simp only [ByteArray.size_append, ByteArray.size_extract, Nat.sub_zero, Nat.min_self, bsize_lit, List.size_toArray, List.length_cons, List.length_nil, Nat.zero_add, Nat.reduceAdd] at c54s)
                                have c54b2 := eq_false (Nat.not_lt.2 c54s)
                                have c54q := Aside0.mk c54
                                clear c54 c54s
                                by_cases c55 : ((((t361.extract 0 3) ++ (⟨#[32]⟩ : ByteArray)) ++ t373) ++ (⟨#[32]⟩ : ByteArray)).size + x10_15.size ≤ 9223372036854775807
                                ·rw [if_pos c55] at H
                                 have c55s := c55
                                 (try simp only [ByteArray.size_append, ByteArray.size_extract, Nat.sub_zero, Nat.min_self, bsize_lit, List.size_toArray, List.length_cons, List.length_nil, Nat.zero_add, Nat.reduceAdd] at c55s)
                                 have c55b2 := eq_false (Nat.not_lt.2 c55s)
                                 have c55q := Aside0.mk c55
                                 clear c55 c55s
                                 by_cases c56 : (((((t361.extract 0 3) ++ (⟨#[32]⟩ : ByteArray)) ++ t373) ++ (⟨#[32]⟩ : ByteArray)) ++ x10_15).size + 1 ≤ 9223372036854775807
                                 ·rw [if_pos c56] at H
                                  have c56s := c56
                                  (try simp only [ByteArray.size_append, ByteArray.size_extract, Nat.sub_zero, Nat.min_self, bsize_lit, List.size_toArray, List.length_cons, List.length_nil, Nat.zero_add, Nat.reduceAdd] at c56s)
                                  have c56b2 := eq_false (Nat.not_lt.2 c56s)
                                  have c56q := Aside0.mk c56
                                  clear c56 c56s
                                  by_cases c57 : ((((((t361.extract 0 3) ++ (⟨#[32]⟩ : ByteArray)) ++ t373) ++ (⟨#[32]⟩ : ByteArray)) ++ x10_15) ++ (⟨#[32]⟩ : ByteArray)).size + ((((t362 ++ (⟨#[58]⟩ : ByteArray)) ++ t363) ++ (⟨#[58]⟩ : ByteArray)) ++ t364).size ≤ 9223372036854775807
                                  ·rw [if_pos c57] at H
                                   have c57s := c57
                                   (try simp only [ByteArray.size_append, ByteArray.size_extract, Nat.sub_zero, Nat.min_self, bsize_lit, List.size_toArray, List.length_cons, List.length_nil, Nat.zero_add, Nat.reduceAdd] at c57s)
                                   have c57b2 := eq_false (Nat.not_lt.2 c57s)
                                   have c57q := Aside0.mk c57
                                   clear c57 c57s
                                   by_cases c58 : (((((((t361.extract 0 3) ++ (⟨#[32]⟩ : ByteArray)) ++ t373) ++ (⟨#[32]⟩ : ByteArray)) ++ x10_15) ++ (⟨#[32]⟩ : ByteArray)) ++ ((((t362 ++ (⟨#[58]⟩ : ByteArray)) ++ t363) ++ (⟨#[58]⟩ : ByteArray)) ++ t364)).size + 1 ≤ 9223372036854775807
                                   ·rw [if_pos c58] at H
                                    have c58s := c58
                                    (try simp only [ByteArray.size_append, ByteArray.size_extract, Nat.sub_zero, Nat.min_self, bsize_lit, List.size_toArray, List.length_cons, List.length_nil, Nat.zero_add, Nat.reduceAdd] at c58s)
                                    have c58b2 := eq_false (Nat.not_lt.2 c58s)
                                    have c58q := Aside0.mk c58
                                    clear c58 c58s
                                    by_cases c59 : ((((((((t361.extract 0 3) ++ (⟨#[32]⟩ : ByteArray)) ++ t373) ++ (⟨#[32]⟩ : ByteArray)) ++ x10_15) ++ (⟨#[32]⟩ : ByteArray)) ++ ((((t362 ++ (⟨#[58]⟩ : ByteArray)) ++ t363) ++ (⟨#[58]⟩ : ByteArray)) ++ t364)) ++ (⟨#[32]⟩ : ByteArray)).size + (t365 ++ t366).size ≤ 9223372036854775807
                                    ·rw [if_pos c59] at H
                                     have c59s := c59
                                     (try simp only [ByteArray.size_append, ByteArray.size_extract, Nat.sub_zero, Nat.min_self, bsize_lit, List.size_toArray, List.length_cons, List.length_nil, Nat.zero_add, Nat.reduceAdd] at c59s)
                                     have c59b2 := eq_false (Nat.not_lt.2 c59s)
                                     have c59q := Aside0.mk c59
                                     clear c59 c59s
                                     simp only [Option.some.injEq, Prod.mk.injEq] at H
                                     obtain ⟨rfl, rfl, rfl⟩ := H
                                     try go_wp2_with (first | ((with_reducible refine gate_callee (f := 60) rfl ?_); refine goesL_ (some 56) rfl rfl Try.func60 (by kernel_rfl) rfl #[.int .i64 t359] rfl (by (try simp only [List.map_toArray, List.map_cons, List.map_nil]); first | done | rfl | (simp only [List.length_drop, List.length_take]; rfl)) ?_; (with_reducible refine (sculleryref05_two.calls t359 t368 _ A24.out).mono ?_); rintro e w' ⟨rfl, ⟨nd, rfl⟩⟩; refine ⟨_, rfl, ?_⟩; (try (rw [drewN_self wc]; generalize hq_ : World.drewN wc _ = wc; have n0_ : Aside0 (wc.heap[gb356]? = some (.cells #[.string (⟨#[]⟩ : ByteArray), .string (⟨#[]⟩ : ByteArray), .string (⟨#[]⟩ : ByteArray)] 59 (0, 0))) := ⟨by rw [← hq_]; exact (by (with_reducible repeat (first | refine blk_drewN ?_ _ | refine blk_drew ?_ | refine blk_alloc ?_ _)); exact BK356.out)⟩; have n1_ : Aside0 (Below w.heap.size w wc) := ⟨by rw [← hq_]; exact (by repeat (first | (with_reducible first | exact HB.out | apply below_alloc | apply pw_below_drewN | apply below_drew1 | refine below_set ?_ GE356.out) | exact HB.out))⟩; clear BK356 HB hq_; have BK356 := n0_; have HB := n1_; clear n0_ n1_))) | ((with_reducible refine gate_callee (f := 61) rfl ?_); refine goesL_ (some 60) rfl rfl Try.func61 (by kernel_rfl) rfl #[.int .i64 t358] rfl (by (try simp only [List.map_toArray, List.map_cons, List.map_nil]); first | done | rfl | (simp only [List.length_drop, List.length_take]; rfl)) ?_; (with_reducible refine (sculleryref05_month.calls t358 t369 _ A27.out).mono ?_); rintro e w60 ⟨rfl, hb⟩; refine ⟨_, rfl, ?_⟩; have n0_ := Aside0.mk (blk_below (g := gb356) (o := .cells #[.string (⟨#[]⟩ : ByteArray), .string (⟨#[]⟩ : ByteArray), .string (⟨#[]⟩ : ByteArray)] 59 (0, 0)) (by (with_reducible repeat (first | refine blk_drewN ?_ _ | refine blk_drew ?_ | refine blk_alloc ?_ _)); exact BK356.out) hb); have n1_ := Aside0.mk (below_step (by repeat (first | (with_reducible first | exact HB.out | apply below_alloc | apply pw_below_drewN | apply below_drew1 | refine below_set ?_ GE356.out) | exact HB.out)) hb); clear BK356; clear HB; have BK356 := n0_; have HB := n1_; clear n0_ n1_; (try clear hb); (try clear hb2); (try clear hk); (try clear hi)) | ((with_reducible refine gate_callee (f := 60) rfl ?_); refine goesL_ (some 65) rfl rfl Try.func60 (by kernel_rfl) rfl #[.int .i64 (Int.tmod t357 100)] rfl (by (try simp only [List.map_toArray, List.map_cons, List.map_nil]); first | done | rfl | (simp only [List.length_drop, List.length_take]; rfl)) ?_; (with_reducible refine (sculleryref05_two.calls (Int.tmod t357 100) t370 _ A30.out).mono ?_); rintro e w' ⟨rfl, ⟨nd, rfl⟩⟩; refine ⟨_, rfl, ?_⟩; (try (rw [drewN_self w60]; generalize hq_ : World.drewN w60 _ = w60; have n0_ : Aside0 (w60.heap[gb356]? = some (.cells #[.string (⟨#[]⟩ : ByteArray), .string (⟨#[]⟩ : ByteArray), .string (⟨#[]⟩ : ByteArray)] 59 (0, 0))) := ⟨by rw [← hq_]; exact (by (with_reducible repeat (first | refine blk_drewN ?_ _ | refine blk_drew ?_ | refine blk_alloc ?_ _)); exact BK356.out)⟩; have n1_ : Aside0 (Below w.heap.size w w60) := ⟨by rw [← hq_]; exact (by repeat (first | (with_reducible first | exact HB.out | apply below_alloc | apply pw_below_drewN | apply below_drew1 | refine below_set ?_ GE356.out) | exact HB.out))⟩; clear BK356 HB hq_; have BK356 := n0_; have HB := n1_; clear n0_ n1_))))
                                     have n0_ := Aside0.mk (blk_drew BK356.out)
                                     have n1_ := Aside0.mk (below_drew1 HB.out)
                                     clear BK356
                                     clear HB
                                     have BK356 := n0_
                                     have HB := n1_
                                     clear n0_ n1_
                                     refine start_ (n := 35) (S := fun w' => True) (ds := []) #[false, false, false, false, false, false, false, false, false, false, false, false, false, false, false, false, false, false, false, false, false, false, false, false, false, false, false, false, false, false, false, false, false, false, false] (by kernel_rfl) rfl rfl trivial (fun hHeld => ?_); refine with_tabW sculleryref05_forms.tab12 sculleryref05_forms.bits12 (fun HT_ HW_ => ?_)
                                     generalize w60.drew = w61 at BK356 HB hHeld ⊢
                                     refine pure_ (i := 0) (N := some 73) (v := ?_) (a' := ?_) #[true, false, false, false, false, false, false, false, false, false, false, false, false, false, false, false, false, false, false, false, false, false, false, false, false, false, false, false, false, false, false, false, false, false, false] rfl rfl (any_of HT_.out (by kernel_rfl)) (fun _ _ _ h => h) (Or.inl ⟨by rfl, ?_⟩) ?_ ?_
                                     rotate_left
                                     ·intro w'
                                      go_simp
                                      with_reducible rfl
                                     rotate_left
                                     ·simp only [Act.put, List.setIfInBounds_toArray, List.set_cons_zero, List.set_cons_succ, i64_w, i32_w]
                                      rfl
                                     refine pure_ (i := 1) (N := some 74) (v := ?_) (a' := ?_) #[true, true, false, false, false, false, false, false, false, false, false, false, false, false, false, false, false, false, false, false, false, false, false, false, false, false, false, false, false, false, false, false, false, false, false] rfl rfl (any_of HT_.out (by kernel_rfl)) (fun _ _ _ h => h) (Or.inl ⟨by rfl, ?_⟩) ?_ ?_
                                     rotate_left
                                     ·intro w'
                                      go_simp
                                      with_reducible rfl
                                     rotate_left
                                     ·simp only [Act.put, List.setIfInBounds_toArray, List.set_cons_zero, List.set_cons_succ, i64_w, i32_w]
                                      rfl
                                     refine pure_ (i := 2) (N := some 75) (v := ?_) (a' := ?_) #[true, true, true, false, false, false, false, false, false, false, false, false, false, false, false, false, false, false, false, false, false, false, false, false, false, false, false, false, false, false, false, false, false, false, false] rfl rfl (any_of HT_.out (by kernel_rfl)) (fun _ _ _ h => h) (Or.inl ⟨by rfl, ?_⟩) ?_ ?_
                                     rotate_left
                                     ·intro w'
                                      go_simp
                                      with_reducible rfl
                                     rotate_left
                                     ·simp only [Act.put, List.setIfInBounds_toArray, List.set_cons_zero, List.set_cons_succ, i64_w, i32_w]
                                      rfl
                                     refine pure_ (i := 3) (N := some 76) (v := ?_) (a' := ?_) #[true, true, true, true, false, false, false, false, false, false, false, false, false, false, false, false, false, false, false, false, false, false, false, false, false, false, false, false, false, false, false, false, false, false, false] rfl rfl (any_of HT_.out (by kernel_rfl)) (fun _ _ _ h => h) (Or.inl ⟨by rfl, ?_⟩) ?_ ?_
                                     rotate_left
                                     ·intro w'
                                      go_simp
                                      with_reducible rfl
                                     rotate_left
                                     ·simp only [Act.put, List.setIfInBounds_toArray, List.set_cons_zero, List.set_cons_succ, i64_w, i32_w]
                                      rfl
                                     refine pure_ (i := 7) (N := some 80) (v := ?_) (a' := ?_) #[true, true, true, true, false, false, false, true, false, false, false, false, false, false, false, false, false, false, false, false, false, false, false, false, false, false, false, false, false, false, false, false, false, false, false] rfl rfl (any_of HT_.out (by kernel_rfl)) (fun _ _ _ h => h) (Or.inl ⟨by rfl, ?_⟩) ?_ ?_
                                     rotate_left
                                     ·intro w'
                                      go_simp
                                      with_reducible rfl
                                     rotate_left
                                     ·simp only [Act.put, List.setIfInBounds_toArray, List.set_cons_zero, List.set_cons_succ, i64_w, i32_w]
                                      rfl
                                     refine pure_ (i := 11) (N := some 84) (v := ?_) (a' := ?_) #[true, true, true, true, false, false, false, true, false, false, false, true, false, false, false, false, false, false, false, false, false, false, false, false, false, false, false, false, false, false, false, false, false, false, false] rfl rfl (any_of HT_.out (by kernel_rfl)) (fun _ _ _ h => h) (Or.inl ⟨by rfl, ?_⟩) ?_ ?_
                                     rotate_left
                                     ·intro w'
                                      go_simp
                                      with_reducible rfl
                                     rotate_left
                                     ·simp only [Act.put, List.setIfInBounds_toArray, List.set_cons_zero, List.set_cons_succ, i64_w, i32_w]
                                      rfl
                                     refine pure_ (i := 14) (N := some 87) (v := ?_) (a' := ?_) #[true, true, true, true, false, false, false, true, false, false, false, true, false, false, true, false, false, false, false, false, false, false, false, false, false, false, false, false, false, false, false, false, false, false, false] rfl rfl (any_of HT_.out (by kernel_rfl)) (fun _ _ _ h => h) (Or.inl ⟨by rfl, ?_⟩) ?_ ?_
                                     rotate_left
                                     ·intro w'
                                      go_simp
                                      with_reducible rfl
                                     rotate_left
                                     ·simp only [Act.put, List.setIfInBounds_toArray, List.set_cons_zero, List.set_cons_succ, i64_w, i32_w]
                                      rfl
                                     refine pure_ (i := 17) (N := some 90) (v := ?_) (a' := ?_) #[true, true, true, true, false, false, false, true, false, false, false, true, false, false, true, false, false, true, false, false, false, false, false, false, false, false, false, false, false, false, false, false, false, false, false] rfl rfl (any_of HT_.out (by kernel_rfl)) (fun _ _ _ h => h) (Or.inl ⟨by rfl, ?_⟩) ?_ ?_
                                     rotate_left
                                     ·intro w'
                                      go_simp
                                      with_reducible rfl
                                     rotate_left
                                     ·simp only [Act.put, List.setIfInBounds_toArray, List.set_cons_zero, List.set_cons_succ, i64_w, i32_w]
                                      rfl
                                     refine pure_ (i := 18) (N := some 91) (v := ?_) (a' := ?_) #[true, true, true, true, false, false, false, true, false, false, false, true, false, false, true, false, false, true, true, false, false, false, false, false, false, false, false, false, false, false, false, false, false, false, false] rfl rfl (any_of HT_.out (by kernel_rfl)) (fun _ _ _ h => h) (Or.inl ⟨by rfl, ?_⟩) ?_ ?_
                                     rotate_left
                                     ·intro w'
                                      go_simp
                                      with_reducible rfl
                                     rotate_left
                                     ·simp only [Act.put, List.setIfInBounds_toArray, List.set_cons_zero, List.set_cons_succ, i64_w, i32_w]
                                      rfl
                                     refine pure_ (i := 19) (N := some 92) (v := ?_) (a' := ?_) #[true, true, true, true, false, false, false, true, false, false, false, true, false, false, true, false, false, true, true, true, false, false, false, false, false, false, false, false, false, false, false, false, false, false, false] rfl rfl (any_of HT_.out (by kernel_rfl)) (fun _ _ _ h => h) (Or.inl ⟨by rfl, ?_⟩) ?_ ?_
                                     rotate_left
                                     ·intro w'
                                      go_simp
                                      with_reducible rfl
                                     rotate_left
                                     ·simp only [Act.put, List.setIfInBounds_toArray, List.set_cons_zero, List.set_cons_succ, i64_w, i32_w]
                                      rfl
                                     refine pure_ (i := 20) (N := some 93) (v := ?_) (a' := ?_) #[true, true, true, true, false, false, false, true, false, false, false, true, false, false, true, false, false, true, true, true, true, false, false, false, false, false, false, false, false, false, false, false, false, false, false] rfl rfl (any_of HT_.out (by kernel_rfl)) (fun _ _ _ h => h) (Or.inl ⟨by rfl, ?_⟩) ?_ ?_
                                     rotate_left
                                     ·intro w'
                                      go_simp
                                      with_reducible rfl
                                     rotate_left
                                     ·simp only [Act.put, List.setIfInBounds_toArray, List.set_cons_zero, List.set_cons_succ, i64_w, i32_w]
                                      rfl
                                     refine pure_ (i := 21) (N := some 94) (v := ?_) (a' := ?_) #[true, true, true, true, false, false, false, true, false, false, false, true, false, false, true, false, false, true, true, true, true, true, false, false, false, false, false, false, false, false, false, false, false, false, false] rfl rfl (any_of HT_.out (by kernel_rfl)) (fun _ _ _ h => h) (Or.inl ⟨by rfl, ?_⟩) ?_ ?_
                                     rotate_left
                                     ·intro w'
                                      go_simp
                                      with_reducible rfl
                                     rotate_left
                                     ·simp only [Act.put, List.setIfInBounds_toArray, List.set_cons_zero, List.set_cons_succ, i64_w, i32_w]
                                      rfl
                                     refine pure_ (i := 25) (N := some 98) (v := ?_) (a' := ?_) #[true, true, true, true, false, false, false, true, false, false, false, true, false, false, true, false, false, true, true, true, true, true, false, false, false, true, false, false, false, false, false, false, false, false, false] rfl rfl (any_of HT_.out (by kernel_rfl)) (fun _ _ _ h => h) (Or.inl ⟨by rfl, ?_⟩) ?_ ?_
                                     rotate_left
                                     ·intro w'
                                      go_simp
                                      with_reducible rfl
                                     rotate_left
                                     ·simp only [Act.put, List.setIfInBounds_toArray, List.set_cons_zero, List.set_cons_succ, i64_w, i32_w]
                                      rfl
                                     refine pure_ (i := 28) (N := some 101) (v := ?_) (a' := ?_) #[true, true, true, true, false, false, false, true, false, false, false, true, false, false, true, false, false, true, true, true, true, true, false, false, false, true, false, false, true, false, false, false, false, false, false] rfl rfl (any_of HT_.out (by kernel_rfl)) (fun _ _ _ h => h) (Or.inl ⟨by rfl, ?_⟩) ?_ ?_
                                     rotate_left
                                     ·intro w'
                                      go_simp
                                      with_reducible rfl
                                     rotate_left
                                     ·simp only [Act.put, List.setIfInBounds_toArray, List.set_cons_zero, List.set_cons_succ, i64_w, i32_w]
                                      rfl
                                     refine pure_ (i := 31) (N := some 104) (v := ?_) (a' := ?_) #[true, true, true, true, false, false, false, true, false, false, false, true, false, false, true, false, false, true, true, true, true, true, false, false, false, true, false, false, true, false, false, true, false, false, false] rfl rfl (any_of HT_.out (by kernel_rfl)) (fun _ _ _ h => h) (Or.inl ⟨by rfl, ?_⟩) ?_ ?_
                                     rotate_left
                                     ·intro w'
                                      go_simp
                                      with_reducible rfl
                                     rotate_left
                                     ·simp only [Act.put, List.setIfInBounds_toArray, List.set_cons_zero, List.set_cons_succ, i64_w, i32_w]
                                      rfl
                                     refine one_ (i := 4) (N := some 77) #[true, true, true, true, true, false, false, true, false, false, false, true, false, false, true, false, false, true, true, true, true, true, false, false, false, true, false, false, true, false, false, true, false, false, false] rfl rfl (one_of HT_.out (by kernel_rfl)) (by decide) (fun K hK => ?_)
                                     refine goes_ Try.func60 (by kernel_rfl) rfl #[.int .i64 t359] (by rfl) rfl rfl (by (try simp only [List.map_toArray, List.map_cons, List.map_nil]); first | done | rfl | (simp only [List.length_drop, List.length_take]; rfl)) ?_
                                     with_reducible refine (sculleryref05_two.calls t359 t371 _ A39.out).mono ?_
                                     rintro e w' ⟨rfl, ⟨nd, rfl⟩⟩
                                     refine ⟨_, rfl, ?_⟩
                                     refine hK.out _ _ trivial (fun hHeld => ?_)
                                     clear hK K
                                     refine norm_ (a' := ?_) ?_ ?_
                                     rotate_left
                                     ·show Act.put _ (some 77) _ = _
                                      simp only [Act.put, List.setIfInBounds_toArray, List.set_cons_zero, List.set_cons_succ, i64_w, i32_w]
                                      rfl
                                     refine pure_ (i := 5) (N := some 78) (v := ?_) (a' := ?_) #[true, true, true, true, true, true, false, true, false, false, false, true, false, false, true, false, false, true, true, true, true, true, false, false, false, true, false, false, true, false, false, true, false, false, false] rfl rfl (any_of HT_.out (by kernel_rfl)) (fun _ _ _ h => h) (Or.inl ⟨by rfl, ?_⟩) ?_ ?_
                                     rotate_left
                                     ·intro w'
                                      go_simp
                                      with_reducible rfl
                                     rotate_left
                                     ·simp only [Act.put, List.setIfInBounds_toArray, List.set_cons_zero, List.set_cons_succ, i64_w, i32_w]
                                      rfl
                                     refine pure_ (i := 6) (N := some 79) (v := ?_) (a' := ?_) #[true, true, true, true, true, true, true, true, false, false, false, true, false, false, true, false, false, true, true, true, true, true, false, false, false, true, false, false, true, false, false, true, false, false, false] rfl rfl (any_of HT_.out (by kernel_rfl)) (fun _ _ _ h => h) (Or.inl ⟨by rfl, ?_⟩) ?_ ?_
                                     rotate_left
                                     ·intro w'
                                      go_simp
                                      with_reducible rfl
                                     rotate_left
                                     ·simp only [Act.put, List.setIfInBounds_toArray, List.set_cons_zero, List.set_cons_succ, i64_w, i32_w]
                                      rfl
                                     refine one_ (i := 8) (N := some 81) #[true, true, true, true, true, true, true, true, true, false, false, true, false, false, true, false, false, true, true, true, true, true, false, false, false, true, false, false, true, false, false, true, false, false, false] rfl rfl (one_of HT_.out (by kernel_rfl)) (by decide) (fun K hK => ?_)
                                     refine goes_ Try.func61 (by kernel_rfl) rfl #[.int .i64 t358] (by rfl) rfl rfl (by (try simp only [List.map_toArray, List.map_cons, List.map_nil]); first | done | rfl | (simp only [List.length_drop, List.length_take]; rfl)) ?_
                                     with_reducible refine (sculleryref05_month.calls t358 t372 _ A42.out).mono ?_
                                     rintro e w62 ⟨rfl, hb⟩
                                     refine ⟨_, rfl, ?_⟩
                                     have n0_ := Aside0.mk (blk_below (g := gb356) (o := .cells #[.string (⟨#[]⟩ : ByteArray), .string (⟨#[]⟩ : ByteArray), .string (⟨#[]⟩ : ByteArray)] 59 (0, 0)) (by (with_reducible repeat (first | refine blk_drewN ?_ _ | refine blk_drew ?_ | refine blk_alloc ?_ _)); exact BK356.out) hb)
                                     have n1_ := Aside0.mk (below_step (by repeat (first | (with_reducible first | exact HB.out | apply below_alloc | apply pw_below_drewN | apply below_drew1 | refine below_set ?_ GE356.out) | exact HB.out)) hb)
                                     clear BK356
                                     clear HB
                                     have BK356 := n0_
                                     have HB := n1_
                                     clear n0_ n1_
                                     (try clear hb)
                                     (try clear hb2)
                                     (try clear hk)
                                     (try clear hi)
                                     refine hK.out _ _ trivial (fun hHeld => ?_)
                                     clear hK K
                                     refine norm_ (a' := ?_) ?_ ?_
                                     rotate_left
                                     ·show Act.put _ (some 81) _ = _
                                      simp only [Act.put, List.setIfInBounds_toArray, List.set_cons_zero, List.set_cons_succ, i64_w, i32_w]
                                      rfl
                                     refine pure_ (i := 9) (N := some 82) (v := ?_) (a' := ?_) #[true, true, true, true, true, true, true, true, true, true, false, true, false, false, true, false, false, true, true, true, true, true, false, false, false, true, false, false, true, false, false, true, false, false, false] rfl rfl (any_of HT_.out (by kernel_rfl)) (fun _ _ _ h => h) (Or.inl ⟨by rfl, ?_⟩) ?_ ?_
                                     rotate_left
                                     ·intro w'
                                      go_simp
                                      with_reducible rfl
                                     rotate_left
                                     ·simp only [Act.put, List.setIfInBounds_toArray, List.set_cons_zero, List.set_cons_succ, i64_w, i32_w]
                                      rfl
                                     refine pure_ (i := 10) (N := some 83) (v := ?_) (a' := ?_) #[true, true, true, true, true, true, true, true, true, true, true, true, false, false, true, false, false, true, true, true, true, true, false, false, false, true, false, false, true, false, false, true, false, false, false] rfl rfl (any_of HT_.out (by kernel_rfl)) (fun _ _ _ h => h) (Or.inl ⟨by rfl, ?_⟩) ?_ ?_
                                     rotate_left
                                     ·intro w'
                                      go_simp
                                      with_reducible rfl
                                     rotate_left
                                     ·simp only [Act.put, List.setIfInBounds_toArray, List.set_cons_zero, List.set_cons_succ, i64_w, i32_w]
                                      rfl
                                     refine pure_ (i := 12) (N := some 85) (v := ?_) (a' := ?_) #[true, true, true, true, true, true, true, true, true, true, true, true, true, false, true, false, false, true, true, true, true, true, false, false, false, true, false, false, true, false, false, true, false, false, false] rfl rfl (any_of HT_.out (by kernel_rfl)) (fun _ _ _ h => h) (Or.inl ⟨by rfl, ?_⟩) ?_ ?_
                                     rotate_left
                                     ·intro w'
                                      go_simp
                                      with_reducible rfl
                                     rotate_left
                                     ·simp only [Act.put, List.setIfInBounds_toArray, List.set_cons_zero, List.set_cons_succ, i64_w, i32_w]
                                      rfl
                                     refine pure_ (i := 13) (N := some 86) (v := ?_) (a' := ?_) #[true, true, true, true, true, true, true, true, true, true, true, true, true, true, true, false, false, true, true, true, true, true, false, false, false, true, false, false, true, false, false, true, false, false, false] rfl rfl (any_of HT_.out (by kernel_rfl)) (fun _ _ _ h => h) (Or.inl ⟨by rfl, ?_⟩) ?_ ?_
                                     rotate_left
                                     ·intro w'
                                      go_simp
                                      with_reducible rfl
                                     rotate_left
                                     ·simp only [Act.put, List.setIfInBounds_toArray, List.set_cons_zero, List.set_cons_succ, i64_w, i32_w]
                                      rfl
                                     refine pure_ (i := 15) (N := some 88) (v := ?_) (a' := ?_) #[true, true, true, true, true, true, true, true, true, true, true, true, true, true, true, true, false, true, true, true, true, true, false, false, false, true, false, false, true, false, false, true, false, false, false] rfl rfl (any_of HT_.out (by kernel_rfl)) (fun _ _ _ h => h) (Or.inl ⟨by rfl, ?_⟩) ?_ ?_
                                     rotate_left
                                     ·intro w'
                                      go_simp
                                      with_reducible rfl
                                     rotate_left
                                     ·simp only [Act.put, List.setIfInBounds_toArray, List.set_cons_zero, List.set_cons_succ, i64_w, i32_w]
                                      rfl
                                     refine pure_ (i := 16) (N := some 89) (v := ?_) (a' := ?_) #[true, true, true, true, true, true, true, true, true, true, true, true, true, true, true, true, true, true, true, true, true, true, false, false, false, true, false, false, true, false, false, true, false, false, false] rfl rfl (any_of HT_.out (by kernel_rfl)) (fun _ _ _ h => h) (Or.inl ⟨by rfl, ?_⟩) ?_ ?_
                                     rotate_left
                                     ·intro w'
                                      go_simp
                                      with_reducible rfl
                                     rotate_left
                                     ·simp only [Act.put, List.setIfInBounds_toArray, List.set_cons_zero, List.set_cons_succ, i64_w, i32_w]
                                      rfl
                                     refine one_ (i := 22) (N := some 95) #[true, true, true, true, true, true, true, true, true, true, true, true, true, true, true, true, true, true, true, true, true, true, true, false, false, true, false, false, true, false, false, true, false, false, false] rfl rfl (one_of HT_.out (by kernel_rfl)) (by decide) (fun K hK => ?_)
                                     refine goes_ Try.func61 (by kernel_rfl) rfl #[.int .i64 t358] (by rfl) rfl rfl (by (try simp only [List.map_toArray, List.map_cons, List.map_nil]); first | done | rfl | (simp only [List.length_drop, List.length_take]; rfl)) ?_
                                     with_reducible refine (sculleryref05_month.calls t358 t373 _ A52.out).mono ?_
                                     rintro e w63 ⟨rfl, hb⟩
                                     refine ⟨_, rfl, ?_⟩
                                     have n0_ := Aside0.mk (blk_below (g := gb356) (o := .cells #[.string (⟨#[]⟩ : ByteArray), .string (⟨#[]⟩ : ByteArray), .string (⟨#[]⟩ : ByteArray)] 59 (0, 0)) (by (with_reducible repeat (first | refine blk_drewN ?_ _ | refine blk_drew ?_ | refine blk_alloc ?_ _)); exact BK356.out) hb)
                                     have n1_ := Aside0.mk (below_step (by repeat (first | (with_reducible first | exact HB.out | apply below_alloc | apply pw_below_drewN | apply below_drew1 | refine below_set ?_ GE356.out) | exact HB.out)) hb)
                                     clear BK356
                                     clear HB
                                     have BK356 := n0_
                                     have HB := n1_
                                     clear n0_ n1_
                                     (try clear hb)
                                     (try clear hb2)
                                     (try clear hk)
                                     (try clear hi)
                                     refine hK.out _ _ trivial (fun hHeld => ?_)
                                     clear hK K
                                     refine norm_ (a' := ?_) ?_ ?_
                                     rotate_left
                                     ·show Act.put _ (some 95) _ = _
                                      simp only [Act.put, List.setIfInBounds_toArray, List.set_cons_zero, List.set_cons_succ, i64_w, i32_w]
                                      rfl
                                     refine pure_ (i := 23) (N := some 96) (v := ?_) (a' := ?_) #[true, true, true, true, true, true, true, true, true, true, true, true, true, true, true, true, true, true, true, true, true, true, true, true, false, true, false, false, true, false, false, true, false, false, false] rfl rfl (any_of HT_.out (by kernel_rfl)) (fun _ _ _ h => h) (Or.inl ⟨by rfl, ?_⟩) ?_ ?_
                                     rotate_left
                                     ·intro w'
                                      go_simp
                                      with_reducible rfl
                                     rotate_left
                                     ·simp only [Act.put, List.setIfInBounds_toArray, List.set_cons_zero, List.set_cons_succ, i64_w, i32_w]
                                      rfl
                                     refine pure_ (i := 24) (N := some 97) (v := ?_) (a' := ?_) #[true, true, true, true, true, true, true, true, true, true, true, true, true, true, true, true, true, true, true, true, true, true, true, true, true, true, false, false, true, false, false, true, false, false, false] rfl rfl (any_of HT_.out (by kernel_rfl)) (fun _ _ _ h => h) (Or.inl ⟨by rfl, ?_⟩) ?_ ?_
                                     rotate_left
                                     ·intro w'
                                      go_simp
                                      with_reducible rfl
                                     rotate_left
                                     ·simp only [Act.put, List.setIfInBounds_toArray, List.set_cons_zero, List.set_cons_succ, i64_w, i32_w]
                                      rfl
                                     refine pure_ (i := 26) (N := some 99) (v := ?_) (a' := ?_) #[true, true, true, true, true, true, true, true, true, true, true, true, true, true, true, true, true, true, true, true, true, true, true, true, true, true, true, false, true, false, false, true, false, false, false] rfl rfl (any_of HT_.out (by kernel_rfl)) (fun _ _ _ h => h) (Or.inl ⟨by rfl, ?_⟩) ?_ ?_
                                     rotate_left
                                     ·intro w'
                                      go_simp
                                      with_reducible rfl
                                     rotate_left
                                     ·simp only [Act.put, List.setIfInBounds_toArray, List.set_cons_zero, List.set_cons_succ, i64_w, i32_w]
                                      rfl
                                     refine pure_ (i := 27) (N := some 100) (v := ?_) (a' := ?_) #[true, true, true, true, true, true, true, true, true, true, true, true, true, true, true, true, true, true, true, true, true, true, true, true, true, true, true, true, true, false, false, true, false, false, false] rfl rfl (any_of HT_.out (by kernel_rfl)) (fun _ _ _ h => h) (Or.inl ⟨by rfl, ?_⟩) ?_ ?_
                                     rotate_left
                                     ·intro w'
                                      go_simp
                                      with_reducible rfl
                                     rotate_left
                                     ·simp only [Act.put, List.setIfInBounds_toArray, List.set_cons_zero, List.set_cons_succ, i64_w, i32_w]
                                      rfl
                                     refine pure_ (i := 29) (N := some 102) (v := ?_) (a' := ?_) #[true, true, true, true, true, true, true, true, true, true, true, true, true, true, true, true, true, true, true, true, true, true, true, true, true, true, true, true, true, true, false, true, false, false, false] rfl rfl (any_of HT_.out (by kernel_rfl)) (fun _ _ _ h => h) (Or.inl ⟨by rfl, ?_⟩) ?_ ?_
                                     rotate_left
                                     ·intro w'
                                      go_simp
                                      with_reducible rfl
                                     rotate_left
                                     ·simp only [Act.put, List.setIfInBounds_toArray, List.set_cons_zero, List.set_cons_succ, i64_w, i32_w]
                                      rfl
                                     refine pure_ (i := 30) (N := some 103) (v := ?_) (a' := ?_) #[true, true, true, true, true, true, true, true, true, true, true, true, true, true, true, true, true, true, true, true, true, true, true, true, true, true, true, true, true, true, true, true, false, false, false] rfl rfl (any_of HT_.out (by kernel_rfl)) (fun _ _ _ h => h) (Or.inl ⟨by rfl, ?_⟩) ?_ ?_
                                     rotate_left
                                     ·intro w'
                                      go_simp
                                      with_reducible rfl
                                     rotate_left
                                     ·simp only [Act.put, List.setIfInBounds_toArray, List.set_cons_zero, List.set_cons_succ, i64_w, i32_w]
                                      rfl
                                     refine pure_ (i := 32) (N := some 105) (v := ?_) (a' := ?_) #[true, true, true, true, true, true, true, true, true, true, true, true, true, true, true, true, true, true, true, true, true, true, true, true, true, true, true, true, true, true, true, true, true, false, false] rfl rfl (any_of HT_.out (by kernel_rfl)) (fun _ _ _ h => h) (Or.inl ⟨by rfl, ?_⟩) ?_ ?_
                                     rotate_left
                                     ·intro w'
                                      go_simp
                                      with_reducible rfl
                                     rotate_left
                                     ·simp only [Act.put, List.setIfInBounds_toArray, List.set_cons_zero, List.set_cons_succ, i64_w, i32_w]
                                      rfl
                                     refine pure_ (i := 33) (N := some 106) (v := ?_) (a' := ?_) #[true, true, true, true, true, true, true, true, true, true, true, true, true, true, true, true, true, true, true, true, true, true, true, true, true, true, true, true, true, true, true, true, true, true, false] rfl rfl (any_of HT_.out (by kernel_rfl)) (fun _ _ _ h => h) (Or.inl ⟨by rfl, ?_⟩) ?_ ?_
                                     rotate_left
                                     ·intro w'
                                      go_simp
                                      with_reducible rfl
                                     rotate_left
                                     ·simp only [Act.put, List.setIfInBounds_toArray, List.set_cons_zero, List.set_cons_succ, i64_w, i32_w]
                                      rfl
                                     refine one_ (i := 34) (N := none) #[true, true, true, true, true, true, true, true, true, true, true, true, true, true, true, true, true, true, true, true, true, true, true, true, true, true, true, true, true, true, true, true, true, true, true] rfl rfl (one_of HT_.out (by kernel_rfl)) (by decide) (fun K hK => ?_)
                                     have hs64 : w63.cell? ⟨gb356, 0, none⟩ = some (.string (⟨#[]⟩ : ByteArray)) := (blk_cell BK356.out 0).trans rfl
                                     have hfs64 := blk_frozen BK356.out 0
                                     have hs65 : w63.cell? ⟨gb356, 1, none⟩ = some (.string (⟨#[]⟩ : ByteArray)) := (blk_cell BK356.out 1).trans rfl
                                     have hfs65 := blk_frozen BK356.out 1
                                     have hs66 : w63.cell? ⟨gb356, 2, none⟩ = some (.string (⟨#[]⟩ : ByteArray)) := (blk_cell BK356.out 2).trans rfl
                                     have hfs66 := blk_frozen BK356.out 2
                                     refine skip_ (w1 := ?_) (by rfl) rfl ?_ ?_
                                     rotate_left
                                     ·go_simp
                                      rfl
                                     refine hK.out _ _ trivial (fun hHeld => ?_)
                                     clear hK K
                                     refine done_ (done_of HT_.out (by kernel_rfl)) ?_
                                     try go_wp2
                                     refine bodyPost_ret (results_cell_row rfl _ _ gb356 59 #[.string ((((((((((t361.extract 0 3) ++ (⟨#[44, 32]⟩ : ByteArray)) ++ t371) ++ (⟨#[32]⟩ : ByteArray)) ++ t372) ++ (⟨#[32]⟩ : ByteArray)) ++ (t365 ++ t366)) ++ (⟨#[32]⟩ : ByteArray)) ++ ((((t362 ++ (⟨#[58]⟩ : ByteArray)) ++ t363) ++ (⟨#[58]⟩ : ByteArray)) ++ t364)) ++ (⟨#[32, 71, 77, 84]⟩ : ByteArray)), .string (⟨#[]⟩ : ByteArray), .string (((((((((t361.extract 0 3) ++ (⟨#[32]⟩ : ByteArray)) ++ t373) ++ (⟨#[32]⟩ : ByteArray)) ++ x10_15) ++ (⟨#[32]⟩ : ByteArray)) ++ ((((t362 ++ (⟨#[58]⟩ : ByteArray)) ++ t363) ++ (⟨#[58]⟩ : ByteArray)) ++ t364)) ++ (⟨#[32]⟩ : ByteArray)) ++ (t365 ++ t366))] (0, 0) _ rfl (by (with_reducible repeat (first | refine blk_drewN ?_ _ | refine blk_drew ?_ | refine blk_alloc ?_ _)); refine blk_put (cs := #[.string ((((((((((t361.extract 0 3) ++ (⟨#[44, 32]⟩ : ByteArray)) ++ t371) ++ (⟨#[32]⟩ : ByteArray)) ++ t372) ++ (⟨#[32]⟩ : ByteArray)) ++ (t365 ++ t366)) ++ (⟨#[32]⟩ : ByteArray)) ++ ((((t362 ++ (⟨#[58]⟩ : ByteArray)) ++ t363) ++ (⟨#[58]⟩ : ByteArray)) ++ t364)) ++ (⟨#[32, 71, 77, 84]⟩ : ByteArray)), .string (⟨#[]⟩ : ByteArray), .string (⟨#[]⟩ : ByteArray)]) ?_ 2 _ rfl; (with_reducible repeat (first | refine blk_drewN ?_ _ | refine blk_drew ?_ | refine blk_alloc ?_ _)); refine blk_put (cs := #[.string ((((((((((t361.extract 0 3) ++ (⟨#[44, 32]⟩ : ByteArray)) ++ t371) ++ (⟨#[32]⟩ : ByteArray)) ++ t372) ++ (⟨#[32]⟩ : ByteArray)) ++ (t365 ++ t366)) ++ (⟨#[32]⟩ : ByteArray)) ++ ((((t362 ++ (⟨#[58]⟩ : ByteArray)) ++ t363) ++ (⟨#[58]⟩ : ByteArray)) ++ t364)) ++ (⟨#[32, 71, 77, 84]⟩ : ByteArray)), .string (⟨#[]⟩ : ByteArray), .string (⟨#[]⟩ : ByteArray)]) ?_ 1 _ rfl; (with_reducible repeat (first | refine blk_drewN ?_ _ | refine blk_drew ?_ | refine blk_alloc ?_ _)); refine blk_put (cs := #[.string (⟨#[]⟩ : ByteArray), .string (⟨#[]⟩ : ByteArray), .string (⟨#[]⟩ : ByteArray)]) ?_ 0 _ rfl; (with_reducible repeat (first | refine blk_drewN ?_ _ | refine blk_drew ?_ | refine blk_alloc ?_ _)); exact BK356.out) Try.underlying59 rfl (by kernel_rfl)) rfl ?_
                                     exact ⟨by first | rfl | (simp [errW_none, errW_some] <;> rfl) | (simp [*, errW_none, errW_some] <;> rfl), by repeat (first | (with_reducible first | exact HB.out | apply below_alloc | apply pw_below_drewN | apply below_drew1 | refine below_set ?_ GE356.out) | exact HB.out)⟩
                                    ·rw [if_neg c59] at H
                                     exact absurd H (by simp)
                                   ·rw [if_neg c58] at H
                                    exact absurd H (by simp)
                                  ·rw [if_neg c57] at H
                                   exact absurd H (by simp)
                                 ·rw [if_neg c56] at H
                                  exact absurd H (by simp)
                                ·rw [if_neg c55] at H
                                 exact absurd H (by simp)
                               ·rw [if_neg c54] at H
                                exact absurd H (by simp)
                              ·rw [if_neg c53] at H
                               exact absurd H (by simp)
                             ·rw [if_neg c51] at H
                              exact absurd H (by simp)
                            ·rw [if_neg c48] at H
                             exact absurd H (by simp)
                           ·rw [if_neg c47] at H
                            exact absurd H (by simp)
                          ·rw [if_neg c46] at H
                           exact absurd H (by simp)
                         ·rw [if_neg c45] at H
                          exact absurd H (by simp)
                        ·rw [if_neg c44] at H
                         exact absurd H (by simp)
                       ·rw [if_neg c43] at H
                        exact absurd H (by simp)
                      ·rw [if_neg c41] at H
                       exact absurd H (by simp)
                     ·rw [if_neg c40] at H
                      exact absurd H (by simp)
                    ·rw [if_neg c38] at H
                     exact absurd H (by simp)
                   ·rw [if_neg c37] at H
                    exact absurd H (by simp)
                  ·rw [if_neg c36] at H
                   exact absurd H (by simp)
                 ·rw [if_neg c35] at H
                  have c35b0 : decide (2069 < t357) = false := decide_eq_false c35
                  clear c35
                  by_cases c67 : 0 ≤ 3
                  ·rw [if_pos c67] at H
                   have c67b0 := eq_true c67
                   have c67b1 : decide (0 ≤ 3) = true := decide_eq_true c67
                   clear c67
                   by_cases c68 : 3 ≤ (t361.size : Int)
                   ·rw [if_pos c68] at H
                    have c68b0 := eq_true c68
                    have c68b1 : decide (3 ≤ (t361.size : Int)) = true := decide_eq_true c68
                    clear c68
                    by_cases c69 : (t361.extract 0 3).size + 2 ≤ 9223372036854775807
                    ·rw [if_pos c69] at H
                     have c69s := c69
                     (try simp only [ByteArray.size_append, ByteArray.size_extract, Nat.sub_zero, Nat.min_self, bsize_lit, List.size_toArray, List.length_cons, List.length_nil, Nat.zero_add, Nat.reduceAdd] at c69s)
                     have c69b2 := eq_false (Nat.not_lt.2 c69s)
                     have c69q := Aside0.mk c69
                     clear c69 c69s
                     replace H := Option.bind_eq_some_iff.mp H
                     obtain ⟨t374, A700, H⟩ := H
                     have A70 := Aside0.mk A700
                     clear A700
                     by_cases c71 : ((t361.extract 0 3) ++ (⟨#[44, 32]⟩ : ByteArray)).size + t374.size ≤ 9223372036854775807
                     ·rw [if_pos c71] at H
                      have c71s := c71
                      (try simp only [ByteArray.size_append, ByteArray.size_extract, Nat.sub_zero, Nat.min_self, bsize_lit, List.size_toArray, List.length_cons, List.length_nil, Nat.zero_add, Nat.reduceAdd] at c71s)
                      have c71b2 := eq_false (Nat.not_lt.2 c71s)
                      have c71q := Aside0.mk c71
                      clear c71 c71s
                      by_cases c72 : (((t361.extract 0 3) ++ (⟨#[44, 32]⟩ : ByteArray)) ++ t374).size + 1 ≤ 9223372036854775807
                      ·rw [if_pos c72] at H
                       have c72s := c72
                       (try simp only [ByteArray.size_append, ByteArray.size_extract, Nat.sub_zero, Nat.min_self, bsize_lit, List.size_toArray, List.length_cons, List.length_nil, Nat.zero_add, Nat.reduceAdd] at c72s)
                       have c72b2 := eq_false (Nat.not_lt.2 c72s)
                       have c72q := Aside0.mk c72
                       clear c72 c72s
                       replace H := Option.bind_eq_some_iff.mp H
                       obtain ⟨t375, A730, H⟩ := H
                       have A73 := Aside0.mk A730
                       clear A730
                       by_cases c74 : ((((t361.extract 0 3) ++ (⟨#[44, 32]⟩ : ByteArray)) ++ t374) ++ (⟨#[32]⟩ : ByteArray)).size + t375.size ≤ 9223372036854775807
                       ·rw [if_pos c74] at H
                        have c74s := c74
                        (try simp only [ByteArray.size_append, ByteArray.size_extract, Nat.sub_zero, Nat.min_self, bsize_lit, List.size_toArray, List.length_cons, List.length_nil, Nat.zero_add, Nat.reduceAdd] at c74s)
                        have c74b2 := eq_false (Nat.not_lt.2 c74s)
                        have c74q := Aside0.mk c74
                        clear c74 c74s
                        by_cases c75 : (((((t361.extract 0 3) ++ (⟨#[44, 32]⟩ : ByteArray)) ++ t374) ++ (⟨#[32]⟩ : ByteArray)) ++ t375).size + 1 ≤ 9223372036854775807
                        ·rw [if_pos c75] at H
                         have c75s := c75
                         (try simp only [ByteArray.size_append, ByteArray.size_extract, Nat.sub_zero, Nat.min_self, bsize_lit, List.size_toArray, List.length_cons, List.length_nil, Nat.zero_add, Nat.reduceAdd] at c75s)
                         have c75b2 := eq_false (Nat.not_lt.2 c75s)
                         have c75q := Aside0.mk c75
                         clear c75 c75s
                         by_cases c76 : ((((((t361.extract 0 3) ++ (⟨#[44, 32]⟩ : ByteArray)) ++ t374) ++ (⟨#[32]⟩ : ByteArray)) ++ t375) ++ (⟨#[32]⟩ : ByteArray)).size + (t365 ++ t366).size ≤ 9223372036854775807
                         ·rw [if_pos c76] at H
                          have c76s := c76
                          (try simp only [ByteArray.size_append, ByteArray.size_extract, Nat.sub_zero, Nat.min_self, bsize_lit, List.size_toArray, List.length_cons, List.length_nil, Nat.zero_add, Nat.reduceAdd] at c76s)
                          have c76b2 := eq_false (Nat.not_lt.2 c76s)
                          have c76q := Aside0.mk c76
                          clear c76 c76s
                          by_cases c77 : (((((((t361.extract 0 3) ++ (⟨#[44, 32]⟩ : ByteArray)) ++ t374) ++ (⟨#[32]⟩ : ByteArray)) ++ t375) ++ (⟨#[32]⟩ : ByteArray)) ++ (t365 ++ t366)).size + 1 ≤ 9223372036854775807
                          ·rw [if_pos c77] at H
                           have c77s := c77
                           (try simp only [ByteArray.size_append, ByteArray.size_extract, Nat.sub_zero, Nat.min_self, bsize_lit, List.size_toArray, List.length_cons, List.length_nil, Nat.zero_add, Nat.reduceAdd] at c77s)
                           have c77b2 := eq_false (Nat.not_lt.2 c77s)
                           have c77q := Aside0.mk c77
                           clear c77 c77s
                           by_cases c78 : ((((((((t361.extract 0 3) ++ (⟨#[44, 32]⟩ : ByteArray)) ++ t374) ++ (⟨#[32]⟩ : ByteArray)) ++ t375) ++ (⟨#[32]⟩ : ByteArray)) ++ (t365 ++ t366)) ++ (⟨#[32]⟩ : ByteArray)).size + ((((t362 ++ (⟨#[58]⟩ : ByteArray)) ++ t363) ++ (⟨#[58]⟩ : ByteArray)) ++ t364).size ≤ 9223372036854775807
                           ·rw [if_pos c78] at H
                            have c78s := c78
                            (try simp only [ByteArray.size_append, ByteArray.size_extract, Nat.sub_zero, Nat.min_self, bsize_lit, List.size_toArray, List.length_cons, List.length_nil, Nat.zero_add, Nat.reduceAdd] at c78s)
                            have c78b2 := eq_false (Nat.not_lt.2 c78s)
                            have c78q := Aside0.mk c78
                            clear c78 c78s
                            by_cases c79 : (((((((((t361.extract 0 3) ++ (⟨#[44, 32]⟩ : ByteArray)) ++ t374) ++ (⟨#[32]⟩ : ByteArray)) ++ t375) ++ (⟨#[32]⟩ : ByteArray)) ++ (t365 ++ t366)) ++ (⟨#[32]⟩ : ByteArray)) ++ ((((t362 ++ (⟨#[58]⟩ : ByteArray)) ++ t363) ++ (⟨#[58]⟩ : ByteArray)) ++ t364)).size + 4 ≤ 9223372036854775807
                            ·rw [if_pos c79] at H
                             have c79s := c79
                             (try simp only [ByteArray.size_append, ByteArray.size_extract, Nat.sub_zero, Nat.min_self, bsize_lit, List.size_toArray, List.length_cons, List.length_nil, Nat.zero_add, Nat.reduceAdd] at c79s)
                             have c79b2 := eq_false (Nat.not_lt.2 c79s)
                             have c79q := Aside0.mk c79
                             clear c79 c79s
                             have c80b0 := eq_true (of_decide_eq_true (by first | (with_reducible assumption) | assumption) : 0 ≤ 3)
                             have c81b0 := eq_true (of_decide_eq_true (by first | (with_reducible assumption) | assumption) : 3 ≤ (t361.size : Int))
                             by_cases c82 : (t361.extract 0 3).size + 1 ≤ 9223372036854775807
                             ·rw [if_pos c82] at H
                              have c82s := c82
                              (try simp only [ByteArray.size_append, ByteArray.size_extract, Nat.sub_zero, Nat.min_self, bsize_lit, List.size_toArray, List.length_cons, List.length_nil, Nat.zero_add, Nat.reduceAdd] at c82s)
                              have c82b2 := eq_false (Nat.not_lt.2 c82s)
                              have c82q := Aside0.mk c82
                              clear c82 c82s
                              replace H := Option.bind_eq_some_iff.mp H
                              obtain ⟨t376, A830, H⟩ := H
                              have A83 := Aside0.mk A830
                              clear A830
                              by_cases c84 : ((t361.extract 0 3) ++ (⟨#[32]⟩ : ByteArray)).size + t376.size ≤ 9223372036854775807
                              ·rw [if_pos c84] at H
                               have c84s := c84
                               (try simp only [ByteArray.size_append, ByteArray.size_extract, Nat.sub_zero, Nat.min_self, bsize_lit, List.size_toArray, List.length_cons, List.length_nil, Nat.zero_add, Nat.reduceAdd] at c84s)
                               have c84b2 := eq_false (Nat.not_lt.2 c84s)
                               have c84q := Aside0.mk c84
                               clear c84 c84s
                               by_cases c85 : (((t361.extract 0 3) ++ (⟨#[32]⟩ : ByteArray)) ++ t376).size + 1 ≤ 9223372036854775807
                               ·rw [if_pos c85] at H
                                have c85s := c85
                                (try simp only [ByteArray.size_append, ByteArray.size_extract, Nat.sub_zero, Nat.min_self, bsize_lit, List.size_toArray, List.length_cons, List.length_nil, Nat.zero_add, Nat.reduceAdd] at c85s)
                                have c85b2 := eq_false (Nat.not_lt.2 c85s)
                                have c85q := Aside0.mk c85
                                clear c85 c85s
                                by_cases c86 : ((((t361.extract 0 3) ++ (⟨#[32]⟩ : ByteArray)) ++ t376) ++ (⟨#[32]⟩ : ByteArray)).size + x10_15.size ≤ 9223372036854775807
                                ·rw [if_pos c86] at H
                                 have c86s := c86
                                 (try simp only [ByteArray.size_append, ByteArray.size_extract, Nat.sub_zero, Nat.min_self, bsize_lit, List.size_toArray, List.length_cons, List.length_nil, Nat.zero_add, Nat.reduceAdd] at c86s)
                                 have c86b2 := eq_false (Nat.not_lt.2 c86s)
                                 have c86q := Aside0.mk c86
                                 clear c86 c86s
                                 by_cases c87 : (((((t361.extract 0 3) ++ (⟨#[32]⟩ : ByteArray)) ++ t376) ++ (⟨#[32]⟩ : ByteArray)) ++ x10_15).size + 1 ≤ 9223372036854775807
                                 ·rw [if_pos c87] at H
                                  have c87s := c87
                                  (try simp only [ByteArray.size_append, ByteArray.size_extract, Nat.sub_zero, Nat.min_self, bsize_lit, List.size_toArray, List.length_cons, List.length_nil, Nat.zero_add, Nat.reduceAdd] at c87s)
                                  have c87b2 := eq_false (Nat.not_lt.2 c87s)
                                  have c87q := Aside0.mk c87
                                  clear c87 c87s
                                  by_cases c88 : ((((((t361.extract 0 3) ++ (⟨#[32]⟩ : ByteArray)) ++ t376) ++ (⟨#[32]⟩ : ByteArray)) ++ x10_15) ++ (⟨#[32]⟩ : ByteArray)).size + ((((t362 ++ (⟨#[58]⟩ : ByteArray)) ++ t363) ++ (⟨#[58]⟩ : ByteArray)) ++ t364).size ≤ 9223372036854775807
                                  ·rw [if_pos c88] at H
                                   have c88s := c88
                                   (try simp only [ByteArray.size_append, ByteArray.size_extract, Nat.sub_zero, Nat.min_self, bsize_lit, List.size_toArray, List.length_cons, List.length_nil, Nat.zero_add, Nat.reduceAdd] at c88s)
                                   have c88b2 := eq_false (Nat.not_lt.2 c88s)
                                   have c88q := Aside0.mk c88
                                   clear c88 c88s
                                   by_cases c89 : (((((((t361.extract 0 3) ++ (⟨#[32]⟩ : ByteArray)) ++ t376) ++ (⟨#[32]⟩ : ByteArray)) ++ x10_15) ++ (⟨#[32]⟩ : ByteArray)) ++ ((((t362 ++ (⟨#[58]⟩ : ByteArray)) ++ t363) ++ (⟨#[58]⟩ : ByteArray)) ++ t364)).size + 1 ≤ 9223372036854775807
                                   ·rw [if_pos c89] at H
                                    have c89s := c89
                                    (try simp only [ByteArray.size_append, ByteArray.size_extract, Nat.sub_zero, Nat.min_self, bsize_lit, List.size_toArray, List.length_cons, List.length_nil, Nat.zero_add, Nat.reduceAdd] at c89s)
                                    have c89b2 := eq_false (Nat.not_lt.2 c89s)
                                    have c89q := Aside0.mk c89
                                    clear c89 c89s
                                    by_cases c90 : ((((((((t361.extract 0 3) ++ (⟨#[32]⟩ : ByteArray)) ++ t376) ++ (⟨#[32]⟩ : ByteArray)) ++ x10_15) ++ (⟨#[32]⟩ : ByteArray)) ++ ((((t362 ++ (⟨#[58]⟩ : ByteArray)) ++ t363) ++ (⟨#[58]⟩ : ByteArray)) ++ t364)) ++ (⟨#[32]⟩ : ByteArray)).size + (t365 ++ t366).size ≤ 9223372036854775807
                                    ·rw [if_pos c90] at H
                                     have c90s := c90
                                     (try simp only [ByteArray.size_append, ByteArray.size_extract, Nat.sub_zero, Nat.min_self, bsize_lit, List.size_toArray, List.length_cons, List.length_nil, Nat.zero_add, Nat.reduceAdd] at c90s)
                                     have c90b2 := eq_false (Nat.not_lt.2 c90s)
                                     have c90q := Aside0.mk c90
                                     clear c90 c90s
                                     simp only [Option.some.injEq, Prod.mk.injEq] at H
                                     obtain ⟨rfl, rfl, rfl⟩ := H
                                     try go_wp2_with (first | ((with_reducible refine gate_callee (f := 60) rfl ?_); refine goesL_ (some 56) rfl rfl Try.func60 (by kernel_rfl) rfl #[.int .i64 t359] rfl (by (try simp only [List.map_toArray, List.map_cons, List.map_nil]); first | done | rfl | (simp only [List.length_drop, List.length_take]; rfl)) ?_; (with_reducible refine (sculleryref05_two.calls t359 t368 _ A24.out).mono ?_); rintro e w' ⟨rfl, ⟨nd, rfl⟩⟩; refine ⟨_, rfl, ?_⟩; (try (rw [drewN_self wc]; generalize hq_ : World.drewN wc _ = wc; have n0_ : Aside0 (wc.heap[gb356]? = some (.cells #[.string (⟨#[]⟩ : ByteArray), .string (⟨#[]⟩ : ByteArray), .string (⟨#[]⟩ : ByteArray)] 59 (0, 0))) := ⟨by rw [← hq_]; exact (by (with_reducible repeat (first | refine blk_drewN ?_ _ | refine blk_drew ?_ | refine blk_alloc ?_ _)); exact BK356.out)⟩; have n1_ : Aside0 (Below w.heap.size w wc) := ⟨by rw [← hq_]; exact (by repeat (first | (with_reducible first | exact HB.out | apply below_alloc | apply pw_below_drewN | apply below_drew1 | refine below_set ?_ GE356.out) | exact HB.out))⟩; clear BK356 HB hq_; have BK356 := n0_; have HB := n1_; clear n0_ n1_))) | ((with_reducible refine gate_callee (f := 61) rfl ?_); refine goesL_ (some 60) rfl rfl Try.func61 (by kernel_rfl) rfl #[.int .i64 t358] rfl (by (try simp only [List.map_toArray, List.map_cons, List.map_nil]); first | done | rfl | (simp only [List.length_drop, List.length_take]; rfl)) ?_; (with_reducible refine (sculleryref05_month.calls t358 t369 _ A27.out).mono ?_); rintro e w91 ⟨rfl, hb⟩; refine ⟨_, rfl, ?_⟩; have n0_ := Aside0.mk (blk_below (g := gb356) (o := .cells #[.string (⟨#[]⟩ : ByteArray), .string (⟨#[]⟩ : ByteArray), .string (⟨#[]⟩ : ByteArray)] 59 (0, 0)) (by (with_reducible repeat (first | refine blk_drewN ?_ _ | refine blk_drew ?_ | refine blk_alloc ?_ _)); exact BK356.out) hb); have n1_ := Aside0.mk (below_step (by repeat (first | (with_reducible first | exact HB.out | apply below_alloc | apply pw_below_drewN | apply below_drew1 | refine below_set ?_ GE356.out) | exact HB.out)) hb); clear BK356; clear HB; have BK356 := n0_; have HB := n1_; clear n0_ n1_; (try clear hb); (try clear hb2); (try clear hk); (try clear hi)) | ((with_reducible refine gate_callee (f := 60) rfl ?_); refine goesL_ (some 65) rfl rfl Try.func60 (by kernel_rfl) rfl #[.int .i64 (Int.tmod t357 100)] rfl (by (try simp only [List.map_toArray, List.map_cons, List.map_nil]); first | done | rfl | (simp only [List.length_drop, List.length_take]; rfl)) ?_; (with_reducible refine (sculleryref05_two.calls (Int.tmod t357 100) t370 _ A30.out).mono ?_); rintro e w' ⟨rfl, ⟨nd, rfl⟩⟩; refine ⟨_, rfl, ?_⟩; (try (rw [drewN_self w91]; generalize hq_ : World.drewN w91 _ = w91; have n0_ : Aside0 (w91.heap[gb356]? = some (.cells #[.string (⟨#[]⟩ : ByteArray), .string (⟨#[]⟩ : ByteArray), .string (⟨#[]⟩ : ByteArray)] 59 (0, 0))) := ⟨by rw [← hq_]; exact (by (with_reducible repeat (first | refine blk_drewN ?_ _ | refine blk_drew ?_ | refine blk_alloc ?_ _)); exact BK356.out)⟩; have n1_ : Aside0 (Below w.heap.size w w91) := ⟨by rw [← hq_]; exact (by repeat (first | (with_reducible first | exact HB.out | apply below_alloc | apply pw_below_drewN | apply below_drew1 | refine below_set ?_ GE356.out) | exact HB.out))⟩; clear BK356 HB hq_; have BK356 := n0_; have HB := n1_; clear n0_ n1_))))
                                     have n0_ := Aside0.mk (blk_drew BK356.out)
                                     have n1_ := Aside0.mk (below_drew1 HB.out)
                                     clear BK356
                                     clear HB
                                     have BK356 := n0_
                                     have HB := n1_
                                     clear n0_ n1_
                                     refine start_ (n := 35) (S := fun w' => True) (ds := []) #[false, false, false, false, false, false, false, false, false, false, false, false, false, false, false, false, false, false, false, false, false, false, false, false, false, false, false, false, false, false, false, false, false, false, false] (by kernel_rfl) rfl rfl trivial (fun hHeld => ?_); refine with_tabW sculleryref05_forms.tab12 sculleryref05_forms.bits12 (fun HT_ HW_ => ?_)
                                     generalize w91.drew = w92 at BK356 HB hHeld ⊢
                                     refine pure_ (i := 0) (N := some 73) (v := ?_) (a' := ?_) #[true, false, false, false, false, false, false, false, false, false, false, false, false, false, false, false, false, false, false, false, false, false, false, false, false, false, false, false, false, false, false, false, false, false, false] rfl rfl (any_of HT_.out (by kernel_rfl)) (fun _ _ _ h => h) (Or.inl ⟨by rfl, ?_⟩) ?_ ?_
                                     rotate_left
                                     ·intro w'
                                      go_simp
                                      with_reducible rfl
                                     rotate_left
                                     ·simp only [Act.put, List.setIfInBounds_toArray, List.set_cons_zero, List.set_cons_succ, i64_w, i32_w]
                                      rfl
                                     refine pure_ (i := 1) (N := some 74) (v := ?_) (a' := ?_) #[true, true, false, false, false, false, false, false, false, false, false, false, false, false, false, false, false, false, false, false, false, false, false, false, false, false, false, false, false, false, false, false, false, false, false] rfl rfl (any_of HT_.out (by kernel_rfl)) (fun _ _ _ h => h) (Or.inl ⟨by rfl, ?_⟩) ?_ ?_
                                     rotate_left
                                     ·intro w'
                                      go_simp
                                      with_reducible rfl
                                     rotate_left
                                     ·simp only [Act.put, List.setIfInBounds_toArray, List.set_cons_zero, List.set_cons_succ, i64_w, i32_w]
                                      rfl
                                     refine pure_ (i := 2) (N := some 75) (v := ?_) (a' := ?_) #[true, true, true, false, false, false, false, false, false, false, false, false, false, false, false, false, false, false, false, false, false, false, false, false, false, false, false, false, false, false, false, false, false, false, false] rfl rfl (any_of HT_.out (by kernel_rfl)) (fun _ _ _ h => h) (Or.inl ⟨by rfl, ?_⟩) ?_ ?_
                                     rotate_left
                                     ·intro w'
                                      go_simp
                                      with_reducible rfl
                                     rotate_left
                                     ·simp only [Act.put, List.setIfInBounds_toArray, List.set_cons_zero, List.set_cons_succ, i64_w, i32_w]
                                      rfl
                                     refine pure_ (i := 3) (N := some 76) (v := ?_) (a' := ?_) #[true, true, true, true, false, false, false, false, false, false, false, false, false, false, false, false, false, false, false, false, false, false, false, false, false, false, false, false, false, false, false, false, false, false, false] rfl rfl (any_of HT_.out (by kernel_rfl)) (fun _ _ _ h => h) (Or.inl ⟨by rfl, ?_⟩) ?_ ?_
                                     rotate_left
                                     ·intro w'
                                      go_simp
                                      with_reducible rfl
                                     rotate_left
                                     ·simp only [Act.put, List.setIfInBounds_toArray, List.set_cons_zero, List.set_cons_succ, i64_w, i32_w]
                                      rfl
                                     refine pure_ (i := 7) (N := some 80) (v := ?_) (a' := ?_) #[true, true, true, true, false, false, false, true, false, false, false, false, false, false, false, false, false, false, false, false, false, false, false, false, false, false, false, false, false, false, false, false, false, false, false] rfl rfl (any_of HT_.out (by kernel_rfl)) (fun _ _ _ h => h) (Or.inl ⟨by rfl, ?_⟩) ?_ ?_
                                     rotate_left
                                     ·intro w'
                                      go_simp
                                      with_reducible rfl
                                     rotate_left
                                     ·simp only [Act.put, List.setIfInBounds_toArray, List.set_cons_zero, List.set_cons_succ, i64_w, i32_w]
                                      rfl
                                     refine pure_ (i := 11) (N := some 84) (v := ?_) (a' := ?_) #[true, true, true, true, false, false, false, true, false, false, false, true, false, false, false, false, false, false, false, false, false, false, false, false, false, false, false, false, false, false, false, false, false, false, false] rfl rfl (any_of HT_.out (by kernel_rfl)) (fun _ _ _ h => h) (Or.inl ⟨by rfl, ?_⟩) ?_ ?_
                                     rotate_left
                                     ·intro w'
                                      go_simp
                                      with_reducible rfl
                                     rotate_left
                                     ·simp only [Act.put, List.setIfInBounds_toArray, List.set_cons_zero, List.set_cons_succ, i64_w, i32_w]
                                      rfl
                                     refine pure_ (i := 14) (N := some 87) (v := ?_) (a' := ?_) #[true, true, true, true, false, false, false, true, false, false, false, true, false, false, true, false, false, false, false, false, false, false, false, false, false, false, false, false, false, false, false, false, false, false, false] rfl rfl (any_of HT_.out (by kernel_rfl)) (fun _ _ _ h => h) (Or.inl ⟨by rfl, ?_⟩) ?_ ?_
                                     rotate_left
                                     ·intro w'
                                      go_simp
                                      with_reducible rfl
                                     rotate_left
                                     ·simp only [Act.put, List.setIfInBounds_toArray, List.set_cons_zero, List.set_cons_succ, i64_w, i32_w]
                                      rfl
                                     refine pure_ (i := 17) (N := some 90) (v := ?_) (a' := ?_) #[true, true, true, true, false, false, false, true, false, false, false, true, false, false, true, false, false, true, false, false, false, false, false, false, false, false, false, false, false, false, false, false, false, false, false] rfl rfl (any_of HT_.out (by kernel_rfl)) (fun _ _ _ h => h) (Or.inl ⟨by rfl, ?_⟩) ?_ ?_
                                     rotate_left
                                     ·intro w'
                                      go_simp
                                      with_reducible rfl
                                     rotate_left
                                     ·simp only [Act.put, List.setIfInBounds_toArray, List.set_cons_zero, List.set_cons_succ, i64_w, i32_w]
                                      rfl
                                     refine pure_ (i := 18) (N := some 91) (v := ?_) (a' := ?_) #[true, true, true, true, false, false, false, true, false, false, false, true, false, false, true, false, false, true, true, false, false, false, false, false, false, false, false, false, false, false, false, false, false, false, false] rfl rfl (any_of HT_.out (by kernel_rfl)) (fun _ _ _ h => h) (Or.inl ⟨by rfl, ?_⟩) ?_ ?_
                                     rotate_left
                                     ·intro w'
                                      go_simp
                                      with_reducible rfl
                                     rotate_left
                                     ·simp only [Act.put, List.setIfInBounds_toArray, List.set_cons_zero, List.set_cons_succ, i64_w, i32_w]
                                      rfl
                                     refine pure_ (i := 19) (N := some 92) (v := ?_) (a' := ?_) #[true, true, true, true, false, false, false, true, false, false, false, true, false, false, true, false, false, true, true, true, false, false, false, false, false, false, false, false, false, false, false, false, false, false, false] rfl rfl (any_of HT_.out (by kernel_rfl)) (fun _ _ _ h => h) (Or.inl ⟨by rfl, ?_⟩) ?_ ?_
                                     rotate_left
                                     ·intro w'
                                      go_simp
                                      with_reducible rfl
                                     rotate_left
                                     ·simp only [Act.put, List.setIfInBounds_toArray, List.set_cons_zero, List.set_cons_succ, i64_w, i32_w]
                                      rfl
                                     refine pure_ (i := 20) (N := some 93) (v := ?_) (a' := ?_) #[true, true, true, true, false, false, false, true, false, false, false, true, false, false, true, false, false, true, true, true, true, false, false, false, false, false, false, false, false, false, false, false, false, false, false] rfl rfl (any_of HT_.out (by kernel_rfl)) (fun _ _ _ h => h) (Or.inl ⟨by rfl, ?_⟩) ?_ ?_
                                     rotate_left
                                     ·intro w'
                                      go_simp
                                      with_reducible rfl
                                     rotate_left
                                     ·simp only [Act.put, List.setIfInBounds_toArray, List.set_cons_zero, List.set_cons_succ, i64_w, i32_w]
                                      rfl
                                     refine pure_ (i := 21) (N := some 94) (v := ?_) (a' := ?_) #[true, true, true, true, false, false, false, true, false, false, false, true, false, false, true, false, false, true, true, true, true, true, false, false, false, false, false, false, false, false, false, false, false, false, false] rfl rfl (any_of HT_.out (by kernel_rfl)) (fun _ _ _ h => h) (Or.inl ⟨by rfl, ?_⟩) ?_ ?_
                                     rotate_left
                                     ·intro w'
                                      go_simp
                                      with_reducible rfl
                                     rotate_left
                                     ·simp only [Act.put, List.setIfInBounds_toArray, List.set_cons_zero, List.set_cons_succ, i64_w, i32_w]
                                      rfl
                                     refine pure_ (i := 25) (N := some 98) (v := ?_) (a' := ?_) #[true, true, true, true, false, false, false, true, false, false, false, true, false, false, true, false, false, true, true, true, true, true, false, false, false, true, false, false, false, false, false, false, false, false, false] rfl rfl (any_of HT_.out (by kernel_rfl)) (fun _ _ _ h => h) (Or.inl ⟨by rfl, ?_⟩) ?_ ?_
                                     rotate_left
                                     ·intro w'
                                      go_simp
                                      with_reducible rfl
                                     rotate_left
                                     ·simp only [Act.put, List.setIfInBounds_toArray, List.set_cons_zero, List.set_cons_succ, i64_w, i32_w]
                                      rfl
                                     refine pure_ (i := 28) (N := some 101) (v := ?_) (a' := ?_) #[true, true, true, true, false, false, false, true, false, false, false, true, false, false, true, false, false, true, true, true, true, true, false, false, false, true, false, false, true, false, false, false, false, false, false] rfl rfl (any_of HT_.out (by kernel_rfl)) (fun _ _ _ h => h) (Or.inl ⟨by rfl, ?_⟩) ?_ ?_
                                     rotate_left
                                     ·intro w'
                                      go_simp
                                      with_reducible rfl
                                     rotate_left
                                     ·simp only [Act.put, List.setIfInBounds_toArray, List.set_cons_zero, List.set_cons_succ, i64_w, i32_w]
                                      rfl
                                     refine pure_ (i := 31) (N := some 104) (v := ?_) (a' := ?_) #[true, true, true, true, false, false, false, true, false, false, false, true, false, false, true, false, false, true, true, true, true, true, false, false, false, true, false, false, true, false, false, true, false, false, false] rfl rfl (any_of HT_.out (by kernel_rfl)) (fun _ _ _ h => h) (Or.inl ⟨by rfl, ?_⟩) ?_ ?_
                                     rotate_left
                                     ·intro w'
                                      go_simp
                                      with_reducible rfl
                                     rotate_left
                                     ·simp only [Act.put, List.setIfInBounds_toArray, List.set_cons_zero, List.set_cons_succ, i64_w, i32_w]
                                      rfl
                                     refine one_ (i := 4) (N := some 77) #[true, true, true, true, true, false, false, true, false, false, false, true, false, false, true, false, false, true, true, true, true, true, false, false, false, true, false, false, true, false, false, true, false, false, false] rfl rfl (one_of HT_.out (by kernel_rfl)) (by decide) (fun K hK => ?_)
                                     refine goes_ Try.func60 (by kernel_rfl) rfl #[.int .i64 t359] (by rfl) rfl rfl (by (try simp only [List.map_toArray, List.map_cons, List.map_nil]); first | done | rfl | (simp only [List.length_drop, List.length_take]; rfl)) ?_
                                     with_reducible refine (sculleryref05_two.calls t359 t374 _ A70.out).mono ?_
                                     rintro e w' ⟨rfl, ⟨nd, rfl⟩⟩
                                     refine ⟨_, rfl, ?_⟩
                                     refine hK.out _ _ trivial (fun hHeld => ?_)
                                     clear hK K
                                     refine norm_ (a' := ?_) ?_ ?_
                                     rotate_left
                                     ·show Act.put _ (some 77) _ = _
                                      simp only [Act.put, List.setIfInBounds_toArray, List.set_cons_zero, List.set_cons_succ, i64_w, i32_w]
                                      rfl
                                     refine pure_ (i := 5) (N := some 78) (v := ?_) (a' := ?_) #[true, true, true, true, true, true, false, true, false, false, false, true, false, false, true, false, false, true, true, true, true, true, false, false, false, true, false, false, true, false, false, true, false, false, false] rfl rfl (any_of HT_.out (by kernel_rfl)) (fun _ _ _ h => h) (Or.inl ⟨by rfl, ?_⟩) ?_ ?_
                                     rotate_left
                                     ·intro w'
                                      go_simp
                                      with_reducible rfl
                                     rotate_left
                                     ·simp only [Act.put, List.setIfInBounds_toArray, List.set_cons_zero, List.set_cons_succ, i64_w, i32_w]
                                      rfl
                                     refine pure_ (i := 6) (N := some 79) (v := ?_) (a' := ?_) #[true, true, true, true, true, true, true, true, false, false, false, true, false, false, true, false, false, true, true, true, true, true, false, false, false, true, false, false, true, false, false, true, false, false, false] rfl rfl (any_of HT_.out (by kernel_rfl)) (fun _ _ _ h => h) (Or.inl ⟨by rfl, ?_⟩) ?_ ?_
                                     rotate_left
                                     ·intro w'
                                      go_simp
                                      with_reducible rfl
                                     rotate_left
                                     ·simp only [Act.put, List.setIfInBounds_toArray, List.set_cons_zero, List.set_cons_succ, i64_w, i32_w]
                                      rfl
                                     refine one_ (i := 8) (N := some 81) #[true, true, true, true, true, true, true, true, true, false, false, true, false, false, true, false, false, true, true, true, true, true, false, false, false, true, false, false, true, false, false, true, false, false, false] rfl rfl (one_of HT_.out (by kernel_rfl)) (by decide) (fun K hK => ?_)
                                     refine goes_ Try.func61 (by kernel_rfl) rfl #[.int .i64 t358] (by rfl) rfl rfl (by (try simp only [List.map_toArray, List.map_cons, List.map_nil]); first | done | rfl | (simp only [List.length_drop, List.length_take]; rfl)) ?_
                                     with_reducible refine (sculleryref05_month.calls t358 t375 _ A73.out).mono ?_
                                     rintro e w93 ⟨rfl, hb⟩
                                     refine ⟨_, rfl, ?_⟩
                                     have n0_ := Aside0.mk (blk_below (g := gb356) (o := .cells #[.string (⟨#[]⟩ : ByteArray), .string (⟨#[]⟩ : ByteArray), .string (⟨#[]⟩ : ByteArray)] 59 (0, 0)) (by (with_reducible repeat (first | refine blk_drewN ?_ _ | refine blk_drew ?_ | refine blk_alloc ?_ _)); exact BK356.out) hb)
                                     have n1_ := Aside0.mk (below_step (by repeat (first | (with_reducible first | exact HB.out | apply below_alloc | apply pw_below_drewN | apply below_drew1 | refine below_set ?_ GE356.out) | exact HB.out)) hb)
                                     clear BK356
                                     clear HB
                                     have BK356 := n0_
                                     have HB := n1_
                                     clear n0_ n1_
                                     (try clear hb)
                                     (try clear hb2)
                                     (try clear hk)
                                     (try clear hi)
                                     refine hK.out _ _ trivial (fun hHeld => ?_)
                                     clear hK K
                                     refine norm_ (a' := ?_) ?_ ?_
                                     rotate_left
                                     ·show Act.put _ (some 81) _ = _
                                      simp only [Act.put, List.setIfInBounds_toArray, List.set_cons_zero, List.set_cons_succ, i64_w, i32_w]
                                      rfl
                                     refine pure_ (i := 9) (N := some 82) (v := ?_) (a' := ?_) #[true, true, true, true, true, true, true, true, true, true, false, true, false, false, true, false, false, true, true, true, true, true, false, false, false, true, false, false, true, false, false, true, false, false, false] rfl rfl (any_of HT_.out (by kernel_rfl)) (fun _ _ _ h => h) (Or.inl ⟨by rfl, ?_⟩) ?_ ?_
                                     rotate_left
                                     ·intro w'
                                      go_simp
                                      with_reducible rfl
                                     rotate_left
                                     ·simp only [Act.put, List.setIfInBounds_toArray, List.set_cons_zero, List.set_cons_succ, i64_w, i32_w]
                                      rfl
                                     refine pure_ (i := 10) (N := some 83) (v := ?_) (a' := ?_) #[true, true, true, true, true, true, true, true, true, true, true, true, false, false, true, false, false, true, true, true, true, true, false, false, false, true, false, false, true, false, false, true, false, false, false] rfl rfl (any_of HT_.out (by kernel_rfl)) (fun _ _ _ h => h) (Or.inl ⟨by rfl, ?_⟩) ?_ ?_
                                     rotate_left
                                     ·intro w'
                                      go_simp
                                      with_reducible rfl
                                     rotate_left
                                     ·simp only [Act.put, List.setIfInBounds_toArray, List.set_cons_zero, List.set_cons_succ, i64_w, i32_w]
                                      rfl
                                     refine pure_ (i := 12) (N := some 85) (v := ?_) (a' := ?_) #[true, true, true, true, true, true, true, true, true, true, true, true, true, false, true, false, false, true, true, true, true, true, false, false, false, true, false, false, true, false, false, true, false, false, false] rfl rfl (any_of HT_.out (by kernel_rfl)) (fun _ _ _ h => h) (Or.inl ⟨by rfl, ?_⟩) ?_ ?_
                                     rotate_left
                                     ·intro w'
                                      go_simp
                                      with_reducible rfl
                                     rotate_left
                                     ·simp only [Act.put, List.setIfInBounds_toArray, List.set_cons_zero, List.set_cons_succ, i64_w, i32_w]
                                      rfl
                                     refine pure_ (i := 13) (N := some 86) (v := ?_) (a' := ?_) #[true, true, true, true, true, true, true, true, true, true, true, true, true, true, true, false, false, true, true, true, true, true, false, false, false, true, false, false, true, false, false, true, false, false, false] rfl rfl (any_of HT_.out (by kernel_rfl)) (fun _ _ _ h => h) (Or.inl ⟨by rfl, ?_⟩) ?_ ?_
                                     rotate_left
                                     ·intro w'
                                      go_simp
                                      with_reducible rfl
                                     rotate_left
                                     ·simp only [Act.put, List.setIfInBounds_toArray, List.set_cons_zero, List.set_cons_succ, i64_w, i32_w]
                                      rfl
                                     refine pure_ (i := 15) (N := some 88) (v := ?_) (a' := ?_) #[true, true, true, true, true, true, true, true, true, true, true, true, true, true, true, true, false, true, true, true, true, true, false, false, false, true, false, false, true, false, false, true, false, false, false] rfl rfl (any_of HT_.out (by kernel_rfl)) (fun _ _ _ h => h) (Or.inl ⟨by rfl, ?_⟩) ?_ ?_
                                     rotate_left
                                     ·intro w'
                                      go_simp
                                      with_reducible rfl
                                     rotate_left
                                     ·simp only [Act.put, List.setIfInBounds_toArray, List.set_cons_zero, List.set_cons_succ, i64_w, i32_w]
                                      rfl
                                     refine pure_ (i := 16) (N := some 89) (v := ?_) (a' := ?_) #[true, true, true, true, true, true, true, true, true, true, true, true, true, true, true, true, true, true, true, true, true, true, false, false, false, true, false, false, true, false, false, true, false, false, false] rfl rfl (any_of HT_.out (by kernel_rfl)) (fun _ _ _ h => h) (Or.inl ⟨by rfl, ?_⟩) ?_ ?_
                                     rotate_left
                                     ·intro w'
                                      go_simp
                                      with_reducible rfl
                                     rotate_left
                                     ·simp only [Act.put, List.setIfInBounds_toArray, List.set_cons_zero, List.set_cons_succ, i64_w, i32_w]
                                      rfl
                                     refine one_ (i := 22) (N := some 95) #[true, true, true, true, true, true, true, true, true, true, true, true, true, true, true, true, true, true, true, true, true, true, true, false, false, true, false, false, true, false, false, true, false, false, false] rfl rfl (one_of HT_.out (by kernel_rfl)) (by decide) (fun K hK => ?_)
                                     refine goes_ Try.func61 (by kernel_rfl) rfl #[.int .i64 t358] (by rfl) rfl rfl (by (try simp only [List.map_toArray, List.map_cons, List.map_nil]); first | done | rfl | (simp only [List.length_drop, List.length_take]; rfl)) ?_
                                     with_reducible refine (sculleryref05_month.calls t358 t376 _ A83.out).mono ?_
                                     rintro e w94 ⟨rfl, hb⟩
                                     refine ⟨_, rfl, ?_⟩
                                     have n0_ := Aside0.mk (blk_below (g := gb356) (o := .cells #[.string (⟨#[]⟩ : ByteArray), .string (⟨#[]⟩ : ByteArray), .string (⟨#[]⟩ : ByteArray)] 59 (0, 0)) (by (with_reducible repeat (first | refine blk_drewN ?_ _ | refine blk_drew ?_ | refine blk_alloc ?_ _)); exact BK356.out) hb)
                                     have n1_ := Aside0.mk (below_step (by repeat (first | (with_reducible first | exact HB.out | apply below_alloc | apply pw_below_drewN | apply below_drew1 | refine below_set ?_ GE356.out) | exact HB.out)) hb)
                                     clear BK356
                                     clear HB
                                     have BK356 := n0_
                                     have HB := n1_
                                     clear n0_ n1_
                                     (try clear hb)
                                     (try clear hb2)
                                     (try clear hk)
                                     (try clear hi)
                                     refine hK.out _ _ trivial (fun hHeld => ?_)
                                     clear hK K
                                     refine norm_ (a' := ?_) ?_ ?_
                                     rotate_left
                                     ·show Act.put _ (some 95) _ = _
                                      simp only [Act.put, List.setIfInBounds_toArray, List.set_cons_zero, List.set_cons_succ, i64_w, i32_w]
                                      rfl
                                     refine pure_ (i := 23) (N := some 96) (v := ?_) (a' := ?_) #[true, true, true, true, true, true, true, true, true, true, true, true, true, true, true, true, true, true, true, true, true, true, true, true, false, true, false, false, true, false, false, true, false, false, false] rfl rfl (any_of HT_.out (by kernel_rfl)) (fun _ _ _ h => h) (Or.inl ⟨by rfl, ?_⟩) ?_ ?_
                                     rotate_left
                                     ·intro w'
                                      go_simp
                                      with_reducible rfl
                                     rotate_left
                                     ·simp only [Act.put, List.setIfInBounds_toArray, List.set_cons_zero, List.set_cons_succ, i64_w, i32_w]
                                      rfl
                                     refine pure_ (i := 24) (N := some 97) (v := ?_) (a' := ?_) #[true, true, true, true, true, true, true, true, true, true, true, true, true, true, true, true, true, true, true, true, true, true, true, true, true, true, false, false, true, false, false, true, false, false, false] rfl rfl (any_of HT_.out (by kernel_rfl)) (fun _ _ _ h => h) (Or.inl ⟨by rfl, ?_⟩) ?_ ?_
                                     rotate_left
                                     ·intro w'
                                      go_simp
                                      with_reducible rfl
                                     rotate_left
                                     ·simp only [Act.put, List.setIfInBounds_toArray, List.set_cons_zero, List.set_cons_succ, i64_w, i32_w]
                                      rfl
                                     refine pure_ (i := 26) (N := some 99) (v := ?_) (a' := ?_) #[true, true, true, true, true, true, true, true, true, true, true, true, true, true, true, true, true, true, true, true, true, true, true, true, true, true, true, false, true, false, false, true, false, false, false] rfl rfl (any_of HT_.out (by kernel_rfl)) (fun _ _ _ h => h) (Or.inl ⟨by rfl, ?_⟩) ?_ ?_
                                     rotate_left
                                     ·intro w'
                                      go_simp
                                      with_reducible rfl
                                     rotate_left
                                     ·simp only [Act.put, List.setIfInBounds_toArray, List.set_cons_zero, List.set_cons_succ, i64_w, i32_w]
                                      rfl
                                     refine pure_ (i := 27) (N := some 100) (v := ?_) (a' := ?_) #[true, true, true, true, true, true, true, true, true, true, true, true, true, true, true, true, true, true, true, true, true, true, true, true, true, true, true, true, true, false, false, true, false, false, false] rfl rfl (any_of HT_.out (by kernel_rfl)) (fun _ _ _ h => h) (Or.inl ⟨by rfl, ?_⟩) ?_ ?_
                                     rotate_left
                                     ·intro w'
                                      go_simp
                                      with_reducible rfl
                                     rotate_left
                                     ·simp only [Act.put, List.setIfInBounds_toArray, List.set_cons_zero, List.set_cons_succ, i64_w, i32_w]
                                      rfl
                                     refine pure_ (i := 29) (N := some 102) (v := ?_) (a' := ?_) #[true, true, true, true, true, true, true, true, true, true, true, true, true, true, true, true, true, true, true, true, true, true, true, true, true, true, true, true, true, true, false, true, false, false, false] rfl rfl (any_of HT_.out (by kernel_rfl)) (fun _ _ _ h => h) (Or.inl ⟨by rfl, ?_⟩) ?_ ?_
                                     rotate_left
                                     ·intro w'
                                      go_simp
                                      with_reducible rfl
                                     rotate_left
                                     ·simp only [Act.put, List.setIfInBounds_toArray, List.set_cons_zero, List.set_cons_succ, i64_w, i32_w]
                                      rfl
                                     refine pure_ (i := 30) (N := some 103) (v := ?_) (a' := ?_) #[true, true, true, true, true, true, true, true, true, true, true, true, true, true, true, true, true, true, true, true, true, true, true, true, true, true, true, true, true, true, true, true, false, false, false] rfl rfl (any_of HT_.out (by kernel_rfl)) (fun _ _ _ h => h) (Or.inl ⟨by rfl, ?_⟩) ?_ ?_
                                     rotate_left
                                     ·intro w'
                                      go_simp
                                      with_reducible rfl
                                     rotate_left
                                     ·simp only [Act.put, List.setIfInBounds_toArray, List.set_cons_zero, List.set_cons_succ, i64_w, i32_w]
                                      rfl
                                     refine pure_ (i := 32) (N := some 105) (v := ?_) (a' := ?_) #[true, true, true, true, true, true, true, true, true, true, true, true, true, true, true, true, true, true, true, true, true, true, true, true, true, true, true, true, true, true, true, true, true, false, false] rfl rfl (any_of HT_.out (by kernel_rfl)) (fun _ _ _ h => h) (Or.inl ⟨by rfl, ?_⟩) ?_ ?_
                                     rotate_left
                                     ·intro w'
                                      go_simp
                                      with_reducible rfl
                                     rotate_left
                                     ·simp only [Act.put, List.setIfInBounds_toArray, List.set_cons_zero, List.set_cons_succ, i64_w, i32_w]
                                      rfl
                                     refine pure_ (i := 33) (N := some 106) (v := ?_) (a' := ?_) #[true, true, true, true, true, true, true, true, true, true, true, true, true, true, true, true, true, true, true, true, true, true, true, true, true, true, true, true, true, true, true, true, true, true, false] rfl rfl (any_of HT_.out (by kernel_rfl)) (fun _ _ _ h => h) (Or.inl ⟨by rfl, ?_⟩) ?_ ?_
                                     rotate_left
                                     ·intro w'
                                      go_simp
                                      with_reducible rfl
                                     rotate_left
                                     ·simp only [Act.put, List.setIfInBounds_toArray, List.set_cons_zero, List.set_cons_succ, i64_w, i32_w]
                                      rfl
                                     refine one_ (i := 34) (N := none) #[true, true, true, true, true, true, true, true, true, true, true, true, true, true, true, true, true, true, true, true, true, true, true, true, true, true, true, true, true, true, true, true, true, true, true] rfl rfl (one_of HT_.out (by kernel_rfl)) (by decide) (fun K hK => ?_)
                                     have hs95 : w94.cell? ⟨gb356, 0, none⟩ = some (.string (⟨#[]⟩ : ByteArray)) := (blk_cell BK356.out 0).trans rfl
                                     have hfs95 := blk_frozen BK356.out 0
                                     have hs96 : w94.cell? ⟨gb356, 1, none⟩ = some (.string (⟨#[]⟩ : ByteArray)) := (blk_cell BK356.out 1).trans rfl
                                     have hfs96 := blk_frozen BK356.out 1
                                     have hs97 : w94.cell? ⟨gb356, 2, none⟩ = some (.string (⟨#[]⟩ : ByteArray)) := (blk_cell BK356.out 2).trans rfl
                                     have hfs97 := blk_frozen BK356.out 2
                                     refine skip_ (w1 := ?_) (by rfl) rfl ?_ ?_
                                     rotate_left
                                     ·go_simp
                                      rfl
                                     refine hK.out _ _ trivial (fun hHeld => ?_)
                                     clear hK K
                                     refine done_ (done_of HT_.out (by kernel_rfl)) ?_
                                     try go_wp2
                                     refine bodyPost_ret (results_cell_row rfl _ _ gb356 59 #[.string ((((((((((t361.extract 0 3) ++ (⟨#[44, 32]⟩ : ByteArray)) ++ t374) ++ (⟨#[32]⟩ : ByteArray)) ++ t375) ++ (⟨#[32]⟩ : ByteArray)) ++ (t365 ++ t366)) ++ (⟨#[32]⟩ : ByteArray)) ++ ((((t362 ++ (⟨#[58]⟩ : ByteArray)) ++ t363) ++ (⟨#[58]⟩ : ByteArray)) ++ t364)) ++ (⟨#[32, 71, 77, 84]⟩ : ByteArray)), .string (((((((((t361 ++ (⟨#[44, 32]⟩ : ByteArray)) ++ t368) ++ (⟨#[45]⟩ : ByteArray)) ++ t369) ++ (⟨#[45]⟩ : ByteArray)) ++ t370) ++ (⟨#[32]⟩ : ByteArray)) ++ ((((t362 ++ (⟨#[58]⟩ : ByteArray)) ++ t363) ++ (⟨#[58]⟩ : ByteArray)) ++ t364)) ++ (⟨#[32, 71, 77, 84]⟩ : ByteArray)), .string (((((((((t361.extract 0 3) ++ (⟨#[32]⟩ : ByteArray)) ++ t376) ++ (⟨#[32]⟩ : ByteArray)) ++ x10_15) ++ (⟨#[32]⟩ : ByteArray)) ++ ((((t362 ++ (⟨#[58]⟩ : ByteArray)) ++ t363) ++ (⟨#[58]⟩ : ByteArray)) ++ t364)) ++ (⟨#[32]⟩ : ByteArray)) ++ (t365 ++ t366))] (0, 0) _ rfl (by (with_reducible repeat (first | refine blk_drewN ?_ _ | refine blk_drew ?_ | refine blk_alloc ?_ _)); refine blk_put (cs := #[.string ((((((((((t361.extract 0 3) ++ (⟨#[44, 32]⟩ : ByteArray)) ++ t374) ++ (⟨#[32]⟩ : ByteArray)) ++ t375) ++ (⟨#[32]⟩ : ByteArray)) ++ (t365 ++ t366)) ++ (⟨#[32]⟩ : ByteArray)) ++ ((((t362 ++ (⟨#[58]⟩ : ByteArray)) ++ t363) ++ (⟨#[58]⟩ : ByteArray)) ++ t364)) ++ (⟨#[32, 71, 77, 84]⟩ : ByteArray)), .string (((((((((t361 ++ (⟨#[44, 32]⟩ : ByteArray)) ++ t368) ++ (⟨#[45]⟩ : ByteArray)) ++ t369) ++ (⟨#[45]⟩ : ByteArray)) ++ t370) ++ (⟨#[32]⟩ : ByteArray)) ++ ((((t362 ++ (⟨#[58]⟩ : ByteArray)) ++ t363) ++ (⟨#[58]⟩ : ByteArray)) ++ t364)) ++ (⟨#[32, 71, 77, 84]⟩ : ByteArray)), .string (⟨#[]⟩ : ByteArray)]) ?_ 2 _ rfl; (with_reducible repeat (first | refine blk_drewN ?_ _ | refine blk_drew ?_ | refine blk_alloc ?_ _)); refine blk_put (cs := #[.string ((((((((((t361.extract 0 3) ++ (⟨#[44, 32]⟩ : ByteArray)) ++ t374) ++ (⟨#[32]⟩ : ByteArray)) ++ t375) ++ (⟨#[32]⟩ : ByteArray)) ++ (t365 ++ t366)) ++ (⟨#[32]⟩ : ByteArray)) ++ ((((t362 ++ (⟨#[58]⟩ : ByteArray)) ++ t363) ++ (⟨#[58]⟩ : ByteArray)) ++ t364)) ++ (⟨#[32, 71, 77, 84]⟩ : ByteArray)), .string (⟨#[]⟩ : ByteArray), .string (⟨#[]⟩ : ByteArray)]) ?_ 1 _ rfl; (with_reducible repeat (first | refine blk_drewN ?_ _ | refine blk_drew ?_ | refine blk_alloc ?_ _)); refine blk_put (cs := #[.string (⟨#[]⟩ : ByteArray), .string (⟨#[]⟩ : ByteArray), .string (⟨#[]⟩ : ByteArray)]) ?_ 0 _ rfl; (with_reducible repeat (first | refine blk_drewN ?_ _ | refine blk_drew ?_ | refine blk_alloc ?_ _)); exact BK356.out) Try.underlying59 rfl (by kernel_rfl)) rfl ?_
                                     exact ⟨by first | rfl | (simp [errW_none, errW_some] <;> rfl) | (simp [*, errW_none, errW_some] <;> rfl), by repeat (first | (with_reducible first | exact HB.out | apply below_alloc | apply pw_below_drewN | apply below_drew1 | refine below_set ?_ GE356.out) | exact HB.out)⟩
                                    ·rw [if_neg c90] at H
                                     exact absurd H (by simp)
                                   ·rw [if_neg c89] at H
                                    exact absurd H (by simp)
                                  ·rw [if_neg c88] at H
                                   exact absurd H (by simp)
                                 ·rw [if_neg c87] at H
                                  exact absurd H (by simp)
                                ·rw [if_neg c86] at H
                                 exact absurd H (by simp)
                               ·rw [if_neg c85] at H
                                exact absurd H (by simp)
                              ·rw [if_neg c84] at H
                               exact absurd H (by simp)
                             ·rw [if_neg c82] at H
                              exact absurd H (by simp)
                            ·rw [if_neg c79] at H
                             exact absurd H (by simp)
                           ·rw [if_neg c78] at H
                            exact absurd H (by simp)
                          ·rw [if_neg c77] at H
                           exact absurd H (by simp)
                         ·rw [if_neg c76] at H
                          exact absurd H (by simp)
                        ·rw [if_neg c75] at H
                         exact absurd H (by simp)
                       ·rw [if_neg c74] at H
                        exact absurd H (by simp)
                      ·rw [if_neg c72] at H
                       exact absurd H (by simp)
                     ·rw [if_neg c71] at H
                      exact absurd H (by simp)
                    ·rw [if_neg c69] at H
                     exact absurd H (by simp)
                   ·rw [if_neg c68] at H
                    exact absurd H (by simp)
                  ·rw [if_neg c67] at H
                   exact absurd H (by simp)
                ·rw [if_neg c34] at H
                 exact absurd H (by simp)
               ·rw [if_neg c33] at H
                exact absurd H (by simp)
              ·rw [if_neg c32] at H
               exact absurd H (by simp)
             ·rw [if_neg c31] at H
              exact absurd H (by simp)
            ·rw [if_neg c29] at H
             exact absurd H (by simp)
           ·rw [if_neg c28] at H
            exact absurd H (by simp)
          ·rw [if_neg c26] at H
           exact absurd H (by simp)
         ·rw [if_neg c25] at H
          exact absurd H (by simp)
        ·rw [if_neg c23] at H
         exact absurd H (by simp)
     ·rw [if_neg c14] at H
      exact absurd H (by simp)
    ·rw [if_neg c11] at H
     exact absurd H (by simp)
   ·rw [if_neg c9] at H
    exact absurd H (by simp)
  ·rw [if_neg c8] at H
   exact absurd H (by simp)
 ·rw [if_neg c6] at H
  exact absurd H (by simp)

end Go.Proofs.Ytpddbfodjeoofaa.PDate
