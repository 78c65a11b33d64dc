/- head.All: the values of a name's lines, by a range over the function that named hands back. -/
import Derived.RangeFuncBox
import Derived.RangeFuncNested
import Derived.RangeFuncBound
import Derived.RangeFuncCalls
import Derived.RangeFuncLeaves
import Derived.Shelf.Abstract
import Derived.WalkKit
import Derived.OwnWalkIn
import Derived.TacticsInMore
import Derived.LoopNIn
import Derived.LoopIn
import Derived.Maps.AppendAt
import Derived.KernelRfl
import Derived.Deep.Onto
import Derived.Test.YtmmbedlegmbppaaDoorProg
namespace Go.Proofs.YtmmbedlegmbppaaDoor.XG
open Go Go.Proofs Go.RowKit Go.Shelf
set_option linter.unusedVariables false
set_option linter.unusedSimpArgs false
attribute [local go_sem] Oper.semAt_some
abbrev Fld := ByteArray × ByteArray
/-- The values of a name. -/
def vals (nm : ByteArray) (zs : List Fld) : List ByteArray := (zs.filter fun f => f.1.toList == nm.toList).map (·.2)
theorem vals_hit (nm : ByteArray) (zs : List Fld) (f : Fld) (h : (f.1.toList == nm.toList) = true) : vals nm (zs ++ [f]) = vals nm zs ++ [f.2] := by simp [vals, h]
theorem vals_miss (nm : ByteArray) (zs : List Fld) (f : Fld) (h : (f.1.toList == nm.toList) = false) : vals nm (zs ++ [f]) = vals nm zs := by simp [vals, h]
theorem vals_len (nm : ByteArray) (zs : List Fld) : (vals nm zs).length ≤ zs.length := by unfold vals; rw [List.length_map]; exact List.length_filter_le _ _
/-- What a round that goes on keeps. -/
def Kp (n₀ Bn : Nat) (A B : World) : Prop := Below n₀ A B ∧ ∀ v, Boxed A Bn 9 v → Boxed B Bn 9 v
theorem Kp.refl (n₀ Bn : Nat) (A : World) : Kp n₀ Bn A A := ⟨Below.refl _ _, fun _ h => h⟩
theorem Kp.trans {n₀ Bn : Nat} {A B C : World} (h : Kp n₀ Bn A B) (k : Kp n₀ Bn B C) : Kp n₀ Bn A C := ⟨h.1.trans k.1, fun v hv => k.2 v (h.2 v hv)⟩
theorem str_eq {a b : ByteArray} (h : (a.toList == b.toList) = true) : a.toList = b.toList := by simpa using h
set_option maxRecDepth 100000 in
set_option maxHeartbeats 4000000 in
theorem named1_in (F : Fence) (n : Nat) (h7 : F.fn 171) (hro : F.round = none) (hn : 1 ≤ n) (l Bs Bn n₀ b off cap : Nat) (zs : List Fld) (nm : ByteArray) (hreach : zs.length ≤ 100000000000) (hb : b < n₀) (J Jx : List ByteArray → World → Prop) (W : World) (hJ : AbidesFrom W.heap.size J) (hbl : n₀ ≤ W.heap.size)
    (hY : ∀ pre x W, J pre W → pre.length < zs.length → YieldAt F (n - 1) Tryd.prog l #[.string x] W fun e W' =>
      (e = .returned (.bool true) ∧ J (pre ++ [x]) W' ∧ Kp n₀ Bn W W') ∨ (e = .returned (.bool false) ∧ Jx (pre ++ [x]) W'))
    (hBs : Boxed W Bs 22 (.slice (some ⟨b, off, none⟩) zs.length cap)) (hBn : Boxed W Bn 9 (.string nm))
    (hc : ∀ (j : Nat) (f : Fld), zs[j]? = some f → W.cell? ⟨b, off + j * 2, none⟩ = some (.string f.1) ∧ W.cell? ⟨b, off + j * 2 + 1, none⟩ = some (.string f.2)) (h0 : J [] W) :
    CallsIn F n Tryd.prog 171 #[.func (.yield l) #[] #[], .pointer (some ⟨Bs, 0, none⟩), .pointer (some ⟨Bn, 0, none⟩)] W fun e W' => (∃ v, e = .returned v) ∧
      ((∃ ys, ys = vals nm zs ∧ J ys W') ∨ (∃ pre, True ∧ Jx pre W')) := by
  have hcs := hBs.cell
  refine callsIn_of_wp Tryd.func171 rfl h7 ?_ hro
  simp only [Tryd.ntmps171, List.size_toArray, List.length_cons, List.length_nil, Nat.reduceAdd, Nat.reduceSub, Array.replicate_succ, Array.replicate_zero, List.push_toArray, List.append_toArray, List.nil_append, List.cons_append]
  gi_wp2
  gi_loopw [8] (fun i wr => ∃ k : Nat, k ≤ zs.length ∧ i = .int .i64 k ∧ J (vals nm (zs.take k)) wr ∧ Kp n₀ Bn W wr ∧ W.heap.size ≤ wr.heap.size)
    (fun i _ => zs.length - (intOf i).toNat)
  case atStart => exact ⟨0, Nat.zero_le _, rfl, h0, Kp.refl _ _ _, Nat.le_refl _⟩
  case round =>
    obtain ⟨k, hk, rfl, hJs, hnx, hsz⟩ := hrel
    by_cases hlt : k < zs.length
    · have hn1 := (hnx.2 _ hBn).cell
      have hbw : b < wr.heap.size := by omega
      obtain ⟨hc0, hc1⟩ := hc k _ (List.getElem?_eq_getElem hlt)
      have hc0' : wr.cell? ⟨b, off + k * 2, none⟩ = some (.string zs[k].1) := (hnx.1.cell (p := ⟨b, off + k * 2, none⟩) hb).trans hc0
      have hc1' : wr.cell? ⟨b, off + k * 2 + 1, none⟩ = some (.string zs[k].2) := (hnx.1.cell (p := ⟨b, off + k * 2 + 1, none⟩) hb).trans hc1
      have htk : zs.take (k + 1) = zs.take k ++ [zs[k]] := by rw [List.take_add_one, List.getElem?_eq_getElem hlt]; rfl
      obtain ⟨f, hf⟩ : ∃ f, zs[k] = f := ⟨_, rfl⟩
      rw [hf] at hc0' hc1' htk
      obtain ⟨nx, vx⟩ := f
      have hvl := vals_len nm (zs.take k)
      rw [List.length_take] at hvl
      have hJa : ∀ o, J (vals nm (zs.take k)) (wr.alloc o) := fun o => hJ _ wr _ none hJs (World.grownBy_alloc wr o none) (fun r e => by cases e)
      have hn2 := ((hnx.2 _ hBn).alloc (.cells #[.string nx, .string vx] 35)).cell
      cases hnm : (nx.toList == nm.toList) with
      | true =>
        obtain ⟨fn, tmps, assign, body, hy, hR⟩ := hY _ vx (wr.alloc (.cells #[.string nx, .string vx] 35)) (hJa _) (by omega)
        gi_wp2
        refine hR.mono ?_
        have hka : Kp n₀ Bn wr (wr.alloc (.cells #[.string nx, .string vx] 35)) := ⟨(Below.refl n₀ wr).alloc (by omega) _, fun v hv => hv.alloc _⟩
        rintro e W3 (⟨rfl, hJ3, hk3⟩ | ⟨rfl, hJx3⟩)
        · gi_wp2
          go_roundw
          case rel =>
            have h1 := hka.1.size
            have h2 := hk3.1.size
            exact ⟨k + 1, by omega, by simp, by rw [htk, vals_hit _ _ _ hnm]; exact hJ3, (hnx.trans hka).trans hk3, by omega⟩
          case measure => simp [intOf]; omega
        · gi_wp2
          refine bodyPost_ret (results_none rfl _ _ _) rfl ?_
          exact ⟨⟨_, rfl⟩, .inr ⟨_, trivial, hJx3⟩⟩
      | false =>
        gi_wp2
        have hka : Kp n₀ Bn wr (wr.alloc (.cells #[.string nx, .string vx] 35)) := ⟨(Below.refl n₀ wr).alloc (by omega) _, fun v hv => hv.alloc _⟩
        refine ⟨fun _ h => (by cases h), ?_⟩
        gi_wp2
        go_roundw
        case rel =>
          have h1 := hka.1.size
          exact ⟨k + 1, by omega, by simp, by rw [htk, vals_miss _ _ _ hnm]; exact hJa _, hnx.trans hka, by omega⟩
        case measure => simp [intOf]; omega
    · obtain rfl : k = zs.length := by omega
      gi_wp2
      go_end0
      exact ⟨⟨_, rfl⟩, .inl ⟨_, by rw [List.take_length], hJs⟩⟩
set_option maxRecDepth 100000 in
set_option maxHeartbeats 4000000 in
theorem named1_nil_in (F : Fence) (n : Nat) (h7 : F.fn 171) (hro : F.round = none) (l Bs Bn cap : Nat) (A : Option Addr) (J : List ByteArray → World → Prop) (W : World)
    (hBs : Boxed W Bs 22 (.slice A 0 cap)) (h0 : J [] W) :
    CallsIn F n Tryd.prog 171 #[.func (.yield l) #[] #[], .pointer (some ⟨Bs, 0, none⟩), .pointer (some ⟨Bn, 0, none⟩)] W fun e W' => (∃ v, e = .returned v) ∧ J [] W' := by
  have hcs := hBs.cell
  refine callsIn_of_wp Tryd.func171 rfl h7 ?_ hro
  simp only [Tryd.ntmps171, List.size_toArray, List.length_cons, List.length_nil, Nat.reduceAdd, Nat.reduceSub, Array.replicate_succ, Array.replicate_zero, List.push_toArray, List.append_toArray, List.nil_append, List.cons_append]
  gi_wp2
  gi_loopw [8] (fun i wr => i = .int .i64 0 ∧ J [] wr) (fun _ _ => 0)
  case atStart => exact ⟨rfl, h0⟩
  case round =>
    obtain ⟨rfl, hJs⟩ := hrel
    gi_wp2
    go_end0
    exact ⟨⟨_, rfl⟩, hJs⟩
set_option maxHeartbeats 1000000 in
theorem named_in (F : Fence) (n : Nat) (h5 : F.fn 125) (hro : F.round = none) (a : Option Addr) (len cap : Nat) (nm : ByteArray) (w : World) :
    CallsIn F n Tryd.prog 125 #[.slice a len cap, .string nm] w fun e w' => e = .returned (.func (.func 171) #[] #[.pointer (some ⟨w.heap.size, 0, none⟩), .pointer (some ⟨w.heap.size + 1, 0, none⟩)]) ∧
      w' = (w.alloc (.cells #[.slice a len cap] 22)).alloc (.cells #[.string nm] 9) := by
  refine callsIn_of_wp Tryd.func125 rfl h5 ?_ hro
  simp only [Tryd.ntmps125, List.size_toArray, List.length_cons, List.length_nil, Nat.reduceAdd, Nat.reduceSub, Array.replicate_succ, Array.replicate_zero, List.push_toArray, List.append_toArray, List.nil_append, List.cons_append]
  gi_wp2
  go_ret
  exact ⟨rfl, by simp⟩
/-- The fields of a slice value, in blocks below n₀. -/
def Flds (n₀ : Nat) (W : World) (A : Option Addr) (zs : List Fld) : Prop :=
  zs = [] ∨ ∃ b off, A = some ⟨b, off, none⟩ ∧ b < n₀ ∧ ∀ (j : Nat) (f : Fld), zs[j]? = some f → W.cell? ⟨b, off + j * 2, none⟩ = some (.string f.1) ∧ W.cell? ⟨b, off + j * 2 + 1, none⟩ = some (.string f.2)
theorem Flds.below {n₀ : Nat} {W W' : World} (h : Below n₀ W W') {A : Option Addr} {zs : List Fld} : Flds n₀ W A zs → Flds n₀ W' A zs
  | .inl e => .inl e
  | .inr ⟨b, off, e, hb, hc⟩ => .inr ⟨b, off, e, hb, fun j f hj => ⟨(h.cell (p := ⟨b, off + j * 2, none⟩) hb).trans (hc j f hj).1, (h.cell (p := ⟨b, off + j * 2 + 1, none⟩) hb).trans (hc j f hj).2⟩⟩
theorem named_stops (F : Fence) (n : Nat) (h7 : F.fn 171) (hro : F.round = none) (hn : 1 ≤ n) (Bs Bn n₀ cap : Nat) (A : Option Addr) (zs : List Fld) (nm : ByteArray) (hreach : zs.length ≤ 100000000000) (w : World) (hn₀ : n₀ ≤ w.heap.size)
    (hBs : Boxed w Bs 22 (.slice A zs.length cap)) (hBn : Boxed w Bn 9 (.string nm)) (hI : Flds n₀ w A zs) :
    SeqStopsK F n Tryd.prog 171 #[.pointer (some ⟨Bs, 0, none⟩), .pointer (some ⟨Bn, 0, none⟩)] (fun x : ByteArray => #[Value.string x]) (Kp n₀ Bn) (fun ys => ys = vals nm zs) (fun _ => True) zs.length w := fun l J Jx W hW hJ _ hY h0 => by
  have hBs' : Boxed W Bs 22 (.slice A zs.length cap) := (hW.block Bs hBs.lt).trans hBs
  have hBn' : Boxed W Bn 9 (.string nm) := (hW.block Bn hBn.lt).trans hBn
  rcases hI.below (hW.mono hn₀) with rfl | ⟨b, off, rfl, hb, hcs⟩
  · exact (named1_nil_in F n h7 hro l Bs Bn cap A J W hBs' h0).mono fun e W' ⟨he, hj⟩ => ⟨he, .inl ⟨_, rfl, hj⟩⟩
  · exact named1_in F n h7 hro hn l Bs Bn n₀ b off cap zs nm hreach hb J Jx W hJ (Nat.le_trans hn₀ hW.size) hY hBs' hBn' hcs h0
theorem infoS : (Tryd.prog.info? 9).map (fun i => (i.zero, i.size, i.bytes)) = some (some (.string ⟨#[]⟩), 1, 16) := by kernel_rfl
set_option maxRecDepth 100000 in
set_option maxHeartbeats 4000000 in
theorem All_in (F : Fence) (n : Nat) (h3 : F.fn 85) (h4 : F.fn 125) (h5 : F.fn 171) (hro : F.round = none) (hn : 3 ≤ n) (A : Option Addr) (cap : Nat) (zs : List Fld) (nm : ByteArray) (hlen : zs.length ≤ 100000) (w : World) (hI : Flds w.heap.size w A zs) :
    CallsIn F n Tryd.prog 85 #[.slice A zs.length cap, .string nm] w fun e W' => ∃ v, e = .returned v ∧ W'.ownsRow w.heap.size 9 1 v (vals nm zs).length ((vals nm zs).map Value.string) ∧ Below w.heap.size w W' := by
  have h1 : 1 ≤ n := by omega
  obtain ⟨i0, hi, hz0, hz1, hz2⟩ := info_parts infoS
  refine callsIn_of_wp_marks Tryd.func85 rfl h3 ?_ hro
  simp only [Tryd.ntmps85, List.size_toArray, List.length_cons, List.length_nil, Nat.reduceAdd, Nat.reduceSub, Array.replicate_succ, Array.replicate_zero, List.push_toArray, List.append_toArray, List.nil_append, List.cons_append]
  gi_wp2_with (gi_at_call 125; refine (named_in F (n - 1) h4 hro _ _ _ _ _).mono ?_; rintro e w' ⟨rfl, rfl⟩)
  have bO := Boxed.new w 23 (.slice none 0 0)
  have bS := Boxed.new (w.alloc (.cells #[.slice none 0 0] 23)) 22 (.slice A zs.length cap)
  rw [World.size_alloc] at bS
  have bN := Boxed.new ((w.alloc (.cells #[.slice none 0 0] 23)).alloc (.cells #[.slice A zs.length cap] 22)) 9 (.string nm)
  rw [World.size_alloc, World.size_alloc] at bN
  have hB0 : Below w.heap.size w (((w.alloc (.cells #[.slice none 0 0] 23)).alloc (.cells #[.slice A zs.length cap] 22)).alloc (.cells #[.string nm] 9)) := (((Below.refl _ w).alloc (Nat.le_refl _) _).alloc (by simp) _).alloc (by simp; omega) _
  have hs3 : (((w.alloc (.cells #[.slice none 0 0] 23)).alloc (.cells #[.slice A zs.length cap] 22)).alloc (.cells #[.string nm] 9)).heap.size = w.heap.size + 3 := by simp
  have bO3 := (bO.alloc (.cells #[.slice A zs.length cap] 22)).alloc (.cells #[.string nm] 9)
  have bS3 := bS.alloc (.cells #[.string nm] 9)
  generalize (((w.alloc (.cells #[.slice none 0 0] 23)).alloc (.cells #[.slice A zs.length cap] 22)).alloc (.cells #[.string nm] 9)) = w3 at hB0 hs3 bO3 bS3 bN ⊢
  refine wpIn_rangeFunc_ownG hro h1 (gf := 171) (lb := #[.pointer (some ⟨w.heap.size + 1, 0, none⟩), .pointer (some ⟨w.heap.size + 1 + 1, 0, none⟩)]) rfl h5 (enters_of Tryd.func171 (by kernel_rfl) rfl)
    (named_stops F (n - 1) h5 hro (by omega) (w.heap.size + 1) (w.heap.size + 1 + 1) w.heap.size cap A zs nm (by omega) _ (by omega) bS3 bN (hI.below hB0)) Kp.trans
    (fun W l o o' hl ho hc _ => ⟨belowK_b (w := w) (Nat.le_refl _) W l o o' (by omega) ho hc (by assumption), fun v hv => hv.kept (grownBy_putObj' W l o') (fun e => by
      obtain rfl : w.heap.size + 1 + 1 = l := by simpa using e
      rw [show W.heap[w.heap.size + 1 + 1]? = _ from hv] at ho; cases ho; cases hc)⟩) (Below.refl _ _) (fun _ => rfl)
    (fun pre W => (∃ v, Boxed W w.heap.size 23 v ∧ W.ownsRow (w.heap.size + 3) 9 1 v pre.length (pre.map Value.string) ∧ True) ∧ Below w.heap.size w3 W)
    (fun _ _ _ => False)
    (OwnFrom.and (Own.from (holdsRow_own (w.heap.size + 3) w.heap.size 23 9 1 (fun pre : List ByteArray => pre.length) (fun pre => pre.map Value.string) (fun pre v => True)) _) (ownFrom_below (by omega) (by omega)))
    (fun _ _ _ _ _ hs _ _ => hs)
    ⟨⟨_, bO3, World.ownsRow_nil _ _ _ _, trivial⟩, Below.refl _ _⟩
    (fun x => { tmps := #[.slice A zs.length cap, .string nm, undef, undef, .slice none 0 0, .pointer (some ⟨w.heap.size, 0, none⟩), .string x, .slice A zs.length cap, .string nm, .func (.func 171) #[] #[.pointer (some ⟨w.heap.size + 1, 0, none⟩), .pointer (some ⟨w.heap.size + 1 + 1, 0, none⟩)], .string x, undef, undef, undef, undef, undef], defers := [] }) ?assign ?body ?done ?stop
  case assign =>
    intro l x W K hK
    gi_wp2
    exact hK
  case body =>
    rintro l pre x W ⟨⟨v, hv, hrow, -⟩, hB⟩ hlt
    have hc := hv.cell
    have hsz := hB.size
    gi_wp2_with (gi_at_builtin; refine wpListIn_append_own _ rfl _ _ 23 rfl (w.heap.size + 3) 9 i0 (.string ⟨#[]⟩) 1 16 Tryd.underlying23 hi hz0 hz1 hz2 rfl (by decide) _ _ _ rfl (hrow.alloc _) ⟨W.heap.size, 0, none⟩ 1 1 [.string x] rfl rfl (cell_one_new _ _ _) (by simp [Value.oneCell']) (by unfold maxLen; omega) (by omega) (by simp; omega) ?_; intro v' w1 hown' hgrow _; obtain ⟨g', cap', rfl⟩ := ownsRow_succ hown'; obtain ⟨hv1, hv2, hr2, hk2, hb2⟩ := hv.appended (by decide) (hrow.mono (show w.heap.size ≤ w.heap.size + 3 by omega)) (by omega) (Nat.le_refl _) (hown'.mono (show w.heap.size ≤ w.heap.size + 3 by omega)) hgrow; have hc1 := hv1.cell; have hf1 := hv1.frozen)
    refine ⟨hk2.from _, ⟨hb2, fun u hu => ?_⟩, ⟨_, hv2, ?_, trivial⟩, hB.trans hb2⟩
    · have h2 : Boxed w1 (w.heap.size + 1 + 1) 9 u := (hu.alloc _).kept hgrow (fun e => by
        rcases hrow.2 with ⟨rfl, _⟩ | ⟨g, cap, cur, rfl, hg, _⟩
        · cases e
        · have : w.heap.size + 1 + 1 = g := Option.some.inj e
          omega)
      exact (Below.heap_setCell _ _ _ _ (by show w.heap.size + 1 + 1 ≠ w.heap.size; omega)).trans h2
    · have := hown'.kept (grownBy_setCell' w1 w.heap.size (.slice (some ⟨g', 0, none⟩) (pre.length + 1) cap')) (.inr (hv1.not_row (by decide) (hown'.mono (show w.heap.size ≤ w.heap.size + 3 by omega))).symm)
      simpa using this
  case done =>
    rintro D ys W hD rfl ⟨⟨v, hv, hrow, -⟩, hB⟩ hK
    have hc := hv.cell
    gi_wp2
    refine ⟨by simp, .inl ⟨_, _, rfl, run_takeDeferred hK, ?_⟩⟩
    exact ⟨_, results_tmp rfl _ _ _, v, rfl, ownsRow_putObj (hrow.mono (by omega)) _ hK rfl, hB0.trans (hB.trans (belowK_b (w := w) (Nat.le_refl _) W D _ _ (by omega) hK rfl rfl))⟩
  case stop =>
    rintro D c pre W _ _ h _
    exact h.elim
end Go.Proofs.YtmmbedlegmbppaaDoor.XG
