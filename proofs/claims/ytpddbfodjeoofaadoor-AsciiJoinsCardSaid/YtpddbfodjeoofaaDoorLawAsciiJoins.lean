/- AsciiJoins: the law's function returns true for every input, in every world that holds the two tables of the decoder of runes that the row lists; no condition of ours. The row, and its tied card. -/
import Derived.Test.YtpddbfodjeoofaaDoorL1
import Derived.Test.YtpddbfodjeoofaaDoorPureAsciiJoins
import Derived.Test.YtpddbfodjeoofaaDoorArr
import Derived.Test.YtpddbfodjeoofaaDoorCards
import Derived.Test.YtpddbfodjeoofaaDoorTie
import Derived.WalkKit
import Derived.ProofKit
import Derived.OpenShut
import Derived.ShutString
import Derived.SliceStrings
import Derived.WideKeyArgs
import Derived.ChangeOld
import Derived.Below
namespace Go.Proofs.YtpddbfodjeoofaaDoor.asciiJoins
open Go.ChangeShapes Go.WideShapes Go.ChangeAt Go.RowKit
set_option linter.unusedVariables false
set_option linter.unusedSimpArgs false
theorem witness_row (os : Os) {H : Type} (enc : TypeId × Value → H) :
    (OpenSpec.ofChange Rows.asciiJoinsSpec).preRow enc Tryd.prog Tryd.f5 Rows.asciiJoinsRow.domain false Rows.asciiJoinsRow.laid ((X.laidWorld os).forCall (fun _ _ => 0) ⟨#[], #[.slice none 0 0, .agg #[.int .i64 0, .int .i64 0]], []⟩).memory #[.slice none 0 0, .agg #[.int .i64 0, .int .i64 0]] := by
  have hw : (DataW.whole enc Tryd.prog ((X.laidWorld os).forCall (fun _ _ => 0) ⟨#[], #[.slice none 0 0, .agg #[.int .i64 0, .int .i64 0]], []⟩).memory Tryd.f5.params.toList (OpenSpec.ofChange Rows.asciiJoinsSpec).vars false #[Value.slice none 0 0, .agg #[.int .i64 0, .int .i64 0]].toList 8).map (fun x => (x.1, x.2.1)) =
      some ([.nil, .agg [.lit (.int .i64 0), .lit (.int .i64 0)]], []) := by kernel_rfl
  obtain ⟨⟨x1, x2, x3⟩, hx, hx1⟩ := Option.map_eq_some_iff.1 hw
  simp only [Prod.mk.injEq] at hx1
  obtain ⟨rfl, rfl⟩ := hx1
  exact OpenSpec.preRow_of_cond 8 hx (by kernel_rfl) (fun k hk => by cases hk) (by kernel_rfl) (X.laid_met os _)
theorem list2 {l : List Int} (h : l.length = 2) : ∃ a b, l = [a, b] := by
  match l, h with
  | [a, b], _ => exact ⟨a, b, rfl⟩
/-- The cells of all blocks that are there. -/
def all (W : World) : R.Fz := fun b _ => b < W.heap.size
theorem rows_of {H : Type} {enc : TypeId × Value → H} {W : World} {v : Value} {d : DataW H} {ps : List MemPlace} (hval : Value.okWide Tryd.prog W .any 0 26 v) (h : DataW.Trod enc Tryd.prog W 0 (fun _ => true) true 26 v d ps) :
    ∃ l : List ByteArray, R.VRel (all W) W (.sl 9 .str) l v := by
  obtain ⟨a, len, cap, rfl⟩ := okWide_slice Tryd.underlying26 hval
  obtain ⟨fuel, hf⟩ := h
  rcases open_strings Tryd.underlying26 Tryd.underlying9 (by kernel_rfl) hf with ⟨hcs, _⟩ | ⟨x, l, c, ss, hcs, _, hl, hm, hz, _, hcell, hws⟩
  · simp [Value.cells] at hcs
    obtain ⟨rfl, rfl, rfl⟩ := hcs
    exact ⟨[], none, 0, rfl, Nat.le_refl _, by decide, 0, 0, .inl rfl, fun j x hx => by simp at hx⟩
  · simp [Value.cells] at hcs
    obtain ⟨rfl, rfl, rfl⟩ := hcs
    simp only [if_true] at hz
    have hlen : (ss.take len).length = len := by rw [List.length_take]; omega
    have hmx : cap ≤ 9223372036854775807 := hm
    by_cases h0 : len = 0
    · subst h0
      exact ⟨[], some x, cap, rfl, Nat.zero_le _, hmx, 0, 0, .inl rfl, fun j x hx => by simp at hx⟩
    · obtain ⟨xb, xo, spot⟩ := x
      have hspot : spot = none := by simpa [Addr.add] using World.cell?_spot (hcell 0 (by omega))
      subst hspot
      refine ⟨ss.take len, some ⟨xb, xo, none⟩, cap, by rw [hlen], by omega, hmx, xb, xo, .inr rfl, fun j y hy => ⟨[.string y], rfl, rfl, fun i u hu => ?_⟩⟩
      have hj : j < len := by have := (List.getElem?_eq_some_iff.1 hy).1; omega
      have hi : i = 0 := by
        cases i with
        | zero => rfl
        | succ i => simp at hu
      subst hi
      obtain rfl : Value.string y = u := by simpa using hu
      have hc := hcell j (by omega)
      have hyy : ss.getD j ByteArray.empty = y := by
        rw [List.getElem?_take, if_pos hj] at hy
        rw [List.getD_eq_getElem?_getD, hy]; rfl
      rw [hyy, R.add_cell] at hc
      have hz1 : xo + j * R.Ty.size .str + 0 = xo + j := by show xo + j * 1 + 0 = xo + j; omega
      rw [hz1]
      exact ⟨World.block_lt_of_cell? W _ hc, hc⟩
set_option maxRecDepth 100000 in
set_option maxHeartbeats 2000000 in
theorem lifted (os : Os) (started : os.Started) (H : Type) (enc : TypeId × Value → H) (F : Stop.Interp) :
    ReturnsInHanded {} Tryd.checked os 5 .any ((OpenSpec.ofChange Rows.asciiJoinsSpec).preRow enc Tryd.prog Tryd.f5 Rows.asciiJoinsRow.domain false Rows.asciiJoinsRow.laid) (((OpenSpec.ofChange Rows.asciiJoinsSpec).at F).post enc Tryd.prog Tryd.f5 false true false false) := by
  refine returnsInHanded_of_row (C := Tryd.checked) (s := OpenSpec.ofChange Rows.asciiJoinsSpec) X.own started (by kernel_rfl) Tryd.func5
    (witness_row_atRef (enc := enc) (C := Tryd.checked) false (X.laidWorld os) #[.slice none 0 0, .agg #[.int .i64 0, .int .i64 0]] rfl (by kernel_rfl) (by kernel_rfl) (by kernel_rfl) (witness_row os enc)) ?_
  intro W base args ds gs before hval0 hW _ _ _ hL _ _
  have hval : ∀ (j : Nat) t v, Tryd.f5.params[j]? = some t → args[j]? = some v → Value.okWide Tryd.prog W .any base t v := hval0
  have hW' := hW
  obtain ⟨p, q, hA0, hV, rfl, _, _⟩ := hW
  have hA : DataW.TrodAll enc Tryd.prog W 0 (fun _ => true) true Tryd.f5.params.toList args.toList ds p := hA0
  rw [Tryd.params5] at hA hval
  obtain ⟨v0, vs0, d0, ds0, p0, q0, hargs, rfl, rfl, h0, r0⟩ := trodAll_cons hA
  obtain ⟨v1, vs1, d1, ds1, p1, q1, rfl, rfl, rfl, h1, r1⟩ := trodAll_cons r0
  obtain ⟨rfl, rfl, rfl⟩ := trodAll_nil r1
  obtain rfl : args = #[v0, v1] := by cases args; simp_all
  obtain ⟨rfl, rfl⟩ := trodVars_none hV
  have c3 : Tryd.prog.cellsOf 3 = 1 := by kernel_rfl
  have c30 : Tryd.prog.cellsOf 30 = 2 := by kernel_rfl
  obtain ⟨xs, hl, rfl, rfl, rfl, w1⟩ := Pure.open_ints Tryd.underlying30 Tryd.underlying3 c3 c30 (hval 1 30 v1 rfl rfl) h1
  obtain ⟨a, b, rfl⟩ := list2 hl
  have lt0 : ∀ x ∈ p0, x.block < W.heap.size := by obtain ⟨m, hm⟩ := h0; exact DataW.trod_lt m _ _ _ hm
  have hv0 : Value.okWide Tryd.prog W .any 0 26 v0 := hval 0 26 v0 rfl rfl
  obtain ⟨l, hrel⟩ := rows_of hv0 h0
  clear hA0 hval0
  have htab : R.T W := X.tabs_of hL
  obtain ⟨k, hk⟩ := R.AsciiJoins l a b
  refine (R.law01_AsciiJoins.ok k (l, (a, b)) true hk (all W) W #[v0, .agg #[.int .i64 a, .int .i64 b]] htab (fun _ _ h => h) ⟨v0, _, rfl, hrel, _, rfl, #[.int .i64 a, .int .i64 b], rfl, [.int .i64 a], [.int .i64 b], rfl, rfl, rfl⟩).mono fun e W' he => ?_
  obtain ⟨v, Φ', rfl, bel, _, _, _, vs, hvs, rfl⟩ := he
  obtain ⟨u, rfl, hu⟩ := hvs
  obtain rfl : u = .bool true := (List.cons.inj hu).1
  exact ⟨_, rfl, _, _, _, [], _, [], hW', trodAll_mk1 (shut_bool Tryd.underlying4 _), (trodAll_cons_mk (WideElems.Trod_stays (P := Tryd.prog) (by kernel_rfl) (by kernel_rfl) (of_decide_eq_true (by kernel_rfl)) h0 (fun x hx => bel.same (lt0 x hx)) (fun x hx => by simpa using lt0 x hx)) (trodAll_cons_mk (Pure.shut_ints Tryd.underlying30 Tryd.underlying3 c3 c30 [a, b] rfl w1) trodAll_mk0)), rfl, bel.frame _, fun h => by cases h⟩
theorem said : Rows.AsciiJoinsSaid :=
  OpenClaim.holds_of_cond 5 Tryd.f5 rfl rfl rfl rfl rfl rfl rfl ⟨rfl, rfl, rfl, rfl, rfl⟩ rfl rfl rfl rfl rfl (by kernel_rfl) Tryd.func5 (by kernel_rfl)
    (of_decide_eq_true (by kernel_rfl)) (by unfold Func.isWrapper; first | (rw [if_pos (by decide +kernel)]; kernel_rfl) | (rw [if_neg (by decide +kernel)]; exact ⟨rfl, rfl⟩))
    (fun os started H enc _ F => by rw [OpenClaim.pre_eq_preRow]; exact lifted os started H enc F)
theorem plain (f : FuncId) (fn : Func) (hf : Tryd.pinned.checked.prog.funcNamed "scullery/scullerylaw01.AsciiJoins" = some f) (hfn : Tryd.pinned.checked.prog.funcs[f]? = some fn) :
    false = Tryd.pinned.checked.prog.looks [] ∧ ∀ (j : Nat) t, fn.params[j]? = some t → Tryd.pinned.checked.prog.wantsStandIn t = false := by
  obtain rfl : f = 5 := Option.some.inj ((show Tryd.prog.funcNamed "scullery/scullerylaw01.AsciiJoins" = some 5 by kernel_rfl).symm.trans hf) |>.symm
  obtain rfl : fn = Tryd.f5 := (Option.some.inj (Tryd.func5.symm.trans hfn)).symm
  refine ⟨by kernel_rfl, fun j t ht => ?_⟩
  rw [Tryd.params5] at ht
  have ht' := Array.mem_of_getElem? ht
  simp at ht'
  rcases ht' with rfl | rfl
  · exact (show Tryd.prog.wantsStandIn 26 = false by kernel_rfl)
  · exact (show Tryd.prog.wantsStandIn 30 = false by kernel_rfl)
theorem card : Rows.AsciiJoinsCardSaid :=
  Claim7.holds_tied_plain_at .later [] _ _ _ _ said (fun _ h => by cases h) (by kernel_rfl) (fun _ h => by cases h) asciiJoins_row_tie rfl ⟨rfl, rfl⟩ (by kernel_rfl) rfl plain (by kernel_rfl)
#print axioms card
end Go.Proofs.YtpddbfodjeoofaaDoor.asciiJoins
namespace Go.Proofs.YtpddbfodjeoofaaDoor
/-- The card, under a short name, for the claim. -/
theorem asciiJoins_holds : Rows.AsciiJoinsCardSaid := asciiJoins.card
end Go.Proofs.YtpddbfodjeoofaaDoor
