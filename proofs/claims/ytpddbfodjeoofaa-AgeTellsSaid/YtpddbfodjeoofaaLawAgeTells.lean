/- AgeTells: the law's function returns true for every input that the row speaks of, and its arguments read afterwards as before; no condition of ours. -/
import Derived.Test.YtpddbfodjeoofaaRows
import Derived.Test.YtpddbfodjeoofaaPureAgeTells
import Derived.Test.YtpddbfodjeoofaaRW
import Derived.WalkKit
import Derived.ProofKit
import Derived.OpenShut
import Derived.ShutString
import Derived.SliceStrings
import Derived.WideKeyArgs
import Derived.ChangeOld
import Derived.Below
import Derived.SizedLaws
namespace Go.Proofs.Ytpddbfodjeoofaa.ageTells
open Go.ChangeShapes Go.WideShapes Go.ChangeAt Go.RowKit
set_option linter.unusedVariables false
set_option linter.unusedSimpArgs false
theorem own : ownKnob Try.prog.godebug = none := by kernel_rfl
set_option maxRecDepth 100000 in
theorem lifted (os : Os) (started : os.Started) (H : Type) (enc : TypeId × Value → H) :
    ReturnsInHanded {} Try.checked os 6 .any (Rows.ageTellsSpec.pre6 enc Try.prog Try.f6 Rows.ageTellsRow.domain false) (Rows.ageTellsSpec.post enc Try.prog Try.f6 false true false false) := by
  refine returnsInHanded_of_change_sized (C := Try.checked) own started (by kernel_rfl) Try.func6
    (ChangeSpec.witness6 (enc := enc) (C := Try.checked) false ⟨#[], #[.slice none 0 0, .slice none 0 0, .agg #[.int .i64 0, .int .i64 0, .int .i64 0]], []⟩ 8 (by kernel_rfl) (by kernel_rfl) (by kernel_rfl) (by kernel_rfl)) ?_
  intro W base args ds gs before hval0 hW hcnd hsz0 _
  have hval : ∀ (j : Nat) t v, Try.f6.params[j]? = some t → args[j]? = some v → Value.okWide Try.prog W .any 0 t v := hval0
  have hW' := hW
  have hsz : (DataW.weightsEach Try.prog (Try.f6.params.toList ++ Rows.ageTellsSpec.plain.varTypes Try.prog) (ds ++ gs)).all (· ≤ reachBytes) = true := hsz0
  obtain ⟨p, q, hA0, hV, rfl, hfz, hnd⟩ := hW
  have hA : DataW.TrodAll enc Try.prog W 0 (fun _ => true) true Try.f6.params.toList args.toList ds p := hA0
  rw [Try.params6] at hA hval hsz
  obtain ⟨v0, vs0, d0, ds0, p0, q0, hargs, rfl, rfl, h0, r0⟩ := trodAll_cons hA
  obtain ⟨v1, vs1, d1, ds1, p1, q1, rfl, rfl, rfl, h1, r1⟩ := trodAll_cons r0
  obtain ⟨v2, vs2, d2, ds2, p2, q2, rfl, rfl, rfl, h2, r2⟩ := trodAll_cons r1
  obtain ⟨rfl, rfl, rfl⟩ := trodAll_nil r2
  obtain rfl : args = #[v0, v1, v2] := by cases args; simp_all
  obtain ⟨rfl, rfl⟩ := trodVars_none hV
  have lt0 : ∀ x ∈ p0, x.block < W.heap.size := by obtain ⟨m, hm⟩ := h0; exact DataW.trod_lt m _ _ _ hm
  obtain ⟨x0, y0, w0⟩ := R.arg_rel (n := 8) (u := (.sl 74 (.agg (.pair .str .str)))) (by kernel_rfl) (by kernel_rfl) (hval 0 35 v0 rfl rfl) h0 (R.Fit.each hsz 0 _ _ rfl rfl)
  have lt1 : ∀ x ∈ p1, x.block < W.heap.size := by obtain ⟨m, hm⟩ := h1; exact DataW.trod_lt m _ _ _ hm
  obtain ⟨x1, y1, w1⟩ := R.arg_rel (n := 8) (u := (.sl 2 (.int .i64))) (by kernel_rfl) (by kernel_rfl) (hval 1 36 v1 rfl rfl) h1 (R.Fit.each hsz 1 _ _ rfl rfl)
  have lt2 : ∀ x ∈ p2, x.block < W.heap.size := by obtain ⟨m, hm⟩ := h2; exact DataW.trod_lt m _ _ _ hm
  obtain ⟨x2, y2, w2⟩ := R.arg_rel (n := 8) (u := (.agg (.pair (.int .i64) (.pair (.int .i64) (.int .i64))))) (by kernel_rfl) (by kernel_rfl) (hval 2 37 v2 rfl rfl) h2 (R.Fit.each hsz 2 _ _ rfl rfl)
  clear hA0 hval0 hsz0 hsz
  obtain ⟨k, hk⟩ := R.AgeTells x0 x1 x2 w0 w1 w2
  refine (R.law13_AgeTells.ok k (x0, x1, x2) true hk (R.allFz W) W #[v0, v1, v2] trivial (fun _ _ h => h) ⟨v0, _, rfl, y0, v1, _, rfl, y1, v2, rfl, y2⟩).mono fun e W' he => ?_
  obtain ⟨v, Φ', rfl, bel, _, _, _, vs, hvs, rfl⟩ := he
  obtain ⟨u, rfl, hu⟩ := hvs
  obtain rfl : u = .bool true := (List.cons.inj hu).1
  exact ⟨_, rfl, _, _, _, [], _, [], hW', trodAll_mk1 (shut_bool Try.underlying4 _), (trodAll_cons_mk (WideElems.Trod_stays (P := Try.prog) (by kernel_rfl) (by kernel_rfl) (of_decide_eq_true (by kernel_rfl)) h0 (fun x hx => bel.same (lt0 x hx)) (fun x hx => by simpa using lt0 x hx)) (trodAll_cons_mk (WideElems.Trod_stays (P := Try.prog) (by kernel_rfl) (by kernel_rfl) (of_decide_eq_true (by kernel_rfl)) h1 (fun x hx => bel.same (lt1 x hx)) (fun x hx => by simpa using lt1 x hx)) (trodAll_cons_mk (WideElems.Trod_stays (P := Try.prog) (by kernel_rfl) (by kernel_rfl) (of_decide_eq_true (by kernel_rfl)) h2 (fun x hx => bel.same (lt2 x hx)) (fun x hx => by simpa using lt2 x hx)) trodAll_mk0))), rfl, bel.frame _, fun h => by cases h⟩
theorem over : Rows.ageTellsRow.holds Try.pinned (OpenSpec.ofChange Rows.ageTellsSpec) :=
  OpenClaim.holds_of_wide 6 Try.f6 rfl rfl rfl rfl rfl rfl rfl ⟨rfl, rfl, rfl, rfl, rfl⟩ rfl rfl rfl rfl rfl (by kernel_rfl) Try.func6 (by kernel_rfl)
    (of_decide_eq_true (by kernel_rfl)) (by unfold Func.isWrapper; first | (rw [if_pos (by decide +kernel)]; kernel_rfl) | (rw [if_neg (by decide +kernel)]; exact ⟨rfl, rfl⟩))
    (fun os started H enc _ => lifted os started H enc)
theorem proved : Rows.AgeTellsSaid := over
#print axioms proved
end Go.Proofs.Ytpddbfodjeoofaa.ageTells
namespace Go.Proofs.Ytpddbfodjeoofaa
/-- The row, under a short name, for the claim. -/
theorem ageTells_holds : Rows.AgeTellsSaid := ageTells.proved
end Go.Proofs.Ytpddbfodjeoofaa
