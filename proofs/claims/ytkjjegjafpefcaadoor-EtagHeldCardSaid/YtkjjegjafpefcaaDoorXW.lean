/- head.Without: the lines of no such name. -/
import Derived.Test.YtkjjegjafpefcaaDoorRHead
import Derived.Laws.AppendOwn
import Derived.Laws.OwnMore
import Derived.Lib.SliceRun
import Derived.OwnWalk
import Derived.Tactics
import Derived.Deep.LoopGhost
import Derived.Deep.Draws
import Derived.BigQuiet
import Derived.RowKit3
import Derived.RangeFuncBox
import Derived.Test.YtkjjegjafpefcaaDoorF0
namespace Go.Proofs.YtkjjegjafpefcaaDoor.XW
open Go Go.Proofs Go.RowKit Go.Shelf
open Go.Proofs.YtkjjegjafpefcaaDoor (R.P)
set_option linter.unusedVariables false
set_option linter.unusedSimpArgs false
abbrev Fld := ByteArray × ByteArray
/-- A row of fields that is our own: its cells, and that they may be written. -/
structure Row (W : World) (g : Nat) (zs : List Fld) : Prop where
  cell : ∀ (j : Nat) (f : Fld), zs[j]? = some f → W.cell? ⟨g, j * 2, none⟩ = some (.string f.1) ∧ W.cell? ⟨g, j * 2 + 1, none⟩ = some (.string f.2)
  free : ∀ j, j < zs.length * 2 → W.frozen? ⟨g, j, none⟩ = false
theorem Row.below {W W' : World} {g n : Nat} {zs : List Fld} (h : Row W g zs) (hb : Below n W W') (hg : g < n) : Row W' g zs :=
  ⟨fun j f hj => ⟨(hb.cell (p := ⟨g, j * 2, none⟩) hg).trans (h.cell j f hj).1, (hb.cell (p := ⟨g, j * 2 + 1, none⟩) hg).trans (h.cell j f hj).2⟩, fun j hj => by
    have := h.free j hj
    unfold World.frozen? at this ⊢
    rw [show W'.heap[(⟨g, j, none⟩ : Addr).block]? = W.heap[(⟨g, j, none⟩ : Addr).block]? from hb.block g hg]
    exact this⟩
/-- A fact that the walk's own rules leave alone. -/
structure Hid (p : Prop) : Prop where
  out : p
section
variable {P : Program} {ops : Array Oper} {rest : List Oper} {o : Oper} {a : Act} {Q : Exit → Act → World → Prop} {W : World}
theorem gate_calleeV {x : Operand} {as1 : Array Operand} {ts : Array TypeId} (_ho : o.op = .call { callee := .value x, args := as1, argTypes := ts }) (h : wpList P ops Q (o :: rest) a W) : wpList P ops Q (o :: rest) a W := h
theorem enters_ {f : FuncId} {fn : Func} (hf : P.funcs[f]? = some fn) (hname : (fn.name == "runtime.NumGoroutine") = false) (hb : fn.body.isSome = true) (args : Array Value) (w : World) : (callFunc f args).run P w = .ok (.enter f args) w := by
  have h1 : fn.name ≠ "runtime.NumGoroutine" := by simpa using hname
  obtain ⟨c, hc⟩ := Option.isSome_iff_exists.1 hb
  simp [callFunc, hf, h1, hc]
theorem goesC_ {oi : Oper} {w : World} (x : Operand) (N : Option Tmp) (hd : oi.dst = N) (hg : oi.guard = none) {f : FuncId} {fn : Func} {as1 : Array Operand} {ts : Array TypeId} (hf : P.funcs[f]? = some fn) (hname : (fn.name == "runtime.NumGoroutine") = false) (hb : fn.body.isSome = true) (args lb all : Array Value)
    (hop : oi.op = .call { callee := .value x, args := as1, argTypes := ts }) (hx : a.eval x = .func (.func f) #[] lb) (hargs : as1.map a.eval = args) (hall : args ++ lb = all)
    (h : Calls P f all w fun e w' => ∃ v, e = .returned v ∧ wpList P ops Q rest (a.put N v) w') : wpList P ops Q (oi :: rest) a w := by
  refine wpList_plain hg fun K hK => ?_
  have he := enters_ hf hname hb all w
  have hrun : (execOp a.eval oi).run P w = .ok (.enter f all) w := by
    subst hall
    unfold execOp
    simp [hop, resolve, Deferred.ofValue, invoke, hargs, he, hx]
  unfold Oper.wp
  rw [hrun, Oper.upon_enter]
  refine h.mono fun e w'' hh => ?_
  obtain ⟨v, rfl, hk⟩ := hh
  subst hd
  exact hK _ _ hk
end
/-- A predicate's contract, in whatever world of a kind. -/
structure Pred (gF : FuncId) (lb : Array Value) (p : Fld → Bool) (g : Nat) (Inv : World → Prop) : Prop where
  fn : ∃ fn, (Tryd.prog.funcs[gF]? = some fn) ∧ (fn.name == "runtime.NumGoroutine") = false ∧ fn.body.isSome = true
  up : ∀ W W', Inv W → Below W.heap.size W W' → Inv W'
  set : ∀ W j v, Inv W → Inv (W.setCell ⟨g, j, none⟩ v)
  call : ∀ W (f : Fld), Inv W → Calls Tryd.prog gF (#[.agg #[.string f.1, .string f.2]] ++ lb) W fun e W' => e = .returned (.bool (p f)) ∧ Below W.heap.size W W'
/-- The first place of which it holds. -/
def idx (p : Fld → Bool) : List Fld → Int → Int
  | [], _ => -1
  | f :: r, i => if p f then i else idx p r (i + 1)
theorem idx_hit {p : Fld → Bool} {f : Fld} {r : List Fld} {i : Int} (h : p f = true) : idx p (f :: r) i = i := by simp [idx, h]
theorem idx_miss {p : Fld → Bool} {f : Fld} {r : List Fld} {i : Int} (h : p f = false) : idx p (f :: r) i = idx p r (i + 1) := by simp [idx, h]
set_option maxRecDepth 100000 in
set_option maxHeartbeats 4000000 in
theorem indexFunc (gF : FuncId) (lb : Array Value) (p : Fld → Bool) (g cap : Nat) (Inv : World → Prop) (hP : Pred gF lb p g Inv) (zs : List Fld) (hz : zs.length ≤ 100000) (w : World) (hI : Inv w) (hR : Row w g zs) (hg : g < w.heap.size) :
    Calls Tryd.prog 125 #[.slice (some ⟨g, 0, none⟩) zs.length cap, .func (.func gF) #[] lb] w fun e W' => e = .returned (.int .i64 (idx p zs 0)) ∧ Below w.heap.size w W' := by
  obtain ⟨fn, f1, f2, f3⟩ := hP.fn
  go_enter Tryd.func125, Tryd.ntmps125
  go_wp2
  go_loopg [8] (zs.length + 1) (fun kq v8 w' => ∃ i : Nat, v8 = .int .i64 (i : Int) ∧ zs.length + 1 ≤ i + kq ∧ i ≤ zs.length ∧ Hid (idx p (zs.drop i) (i : Int) = idx p zs 0) ∧ Hid (Below w.heap.size w w'))
  case atStart => exact ⟨0, rfl, by omega, Nat.zero_le _, ⟨rfl⟩, ⟨Below.refl _ _⟩⟩
  case round =>
    obtain ⟨i, rfl, hk, hi, hx, HB⟩ := hrel
    cases gk with
    | zero => omega
    | succ k1 =>
    have hInv : Inv wr := hP.up w wr hI HB.out
    have hRw : Row wr g zs := hR.below HB.out hg
    by_cases hi' : i < zs.length
    · have hlt : (i : Int) < (zs.length : Int) := by omega
      have b0 : decide ((i : Int) < (zs.length : Int)) = true := decide_eq_true hlt
      have n0 : (0 : Int) ≤ (i : Int) := by omega
      have n1 := eq_true n0
      have n2 := eq_true hlt
      have hx' := hx.out
      rw [List.drop_eq_getElem_cons hi'] at hx'
      obtain ⟨hc0, hc1⟩ := hRw.cell i _ (List.getElem?_eq_getElem hi')
      obtain ⟨f, hf⟩ : ∃ f, zs[i] = f := ⟨_, rfl⟩
      rw [hf] at hc0 hc1 hx'
      obtain ⟨nx, vx⟩ := f
      have hX : Hid _ := ⟨hx'⟩
      clear hx' hx
      have hCall := hP.call wr (nx, vx) hInv
      cases hpb : p (nx, vx) with
      | true =>
        go_wp2_with (first | ((with_reducible refine gate_calleeV (x := .tmp 11) rfl ?_); refine goesC_ (.tmp 11) (some 16) rfl rfl f1 f2 f3 #[.agg #[.string nx, .string vx]] lb _ rfl rfl (by (try simp only [List.map_toArray, List.map_cons, List.map_nil]); first | done | rfl) rfl ?_; refine hCall.mono ?_; rintro e W3 ⟨rfl, hB3⟩; rw [hpb]; refine ⟨_, rfl, ?_⟩))
        go_ret
        refine ⟨?_, HB.out.trans (hB3.mono HB.out.size)⟩
        rw [← hX.out, idx_hit hpb]; rfl
      | false =>
        go_wp2_with (first | ((with_reducible refine gate_calleeV (x := .tmp 11) rfl ?_); refine goesC_ (.tmp 11) (some 16) rfl rfl f1 f2 f3 #[.agg #[.string nx, .string vx]] lb _ rfl rfl (by (try simp only [List.map_toArray, List.map_cons, List.map_nil]); first | done | rfl) rfl ?_; refine hCall.mono ?_; rintro e W3 ⟨rfl, hB3⟩; rw [hpb]; refine ⟨_, rfl, ?_⟩))
        go_roundg k1
        case measure => omega
        case rel =>
          refine ⟨i + 1, by simp, by omega, by omega, ⟨?_⟩, ⟨HB.out.trans (hB3.mono HB.out.size)⟩⟩
          exact (idx_miss hpb).symm.trans hX.out
    · have b0 : decide ((i : Int) < (zs.length : Int)) = false := decide_eq_false (by omega)
      go_wp2
      go_ret
      refine ⟨?_, HB.out⟩
      have := hx.out
      rw [List.drop_eq_nil_of_le (by omega)] at this
      rw [← this]; rfl
set_option maxRecDepth 100000 in
set_option maxHeartbeats 4000000 in
theorem indexFunc_nil (gF : FuncId) (lb : Array Value) (C : Option Addr) (c : Nat) (w : World) : Calls Tryd.prog 125 #[.slice C 0 c, .func (.func gF) #[] lb] w fun e W' => e = .returned (.int .i64 (-1)) ∧ W' = w := by
  go_enter Tryd.func125, Tryd.ntmps125
  go_wp2
  go_loopg [8] 1 (fun kq v8 w' => v8 = .int .i64 0 ∧ w' = w)
  case atStart => exact ⟨rfl, rfl⟩
  case round =>
    obtain ⟨rfl, rfl⟩ := hrel
    go_wp2
    go_ret
    exact ⟨rfl, rfl⟩
set_option maxRecDepth 100000 in
set_option maxHeartbeats 4000000 in
theorem deleteFunc_nil (gF : FuncId) (lb : Array Value) (C : Option Addr) (c : Nat) (w : World) : Calls Tryd.prog 84 #[.slice C 0 c, .func (.func gF) #[] lb] w fun e W' => e = .returned (.slice C 0 c) ∧ W' = w := by
  go_enter Tryd.func84, Tryd.ntmps84
  go_wp2_with (go_at_call 125; refine (indexFunc_nil gF lb C c _).mono ?_; rintro e w1 ⟨rfl, rfl⟩)
  go_ret
  exact ⟨rfl, rfl⟩
/-- All blocks are as they were, but for one. -/
structure KG (g : Nat) (w w' : World) : Prop where
  os : w'.os = w.os
  tape : w'.tape = w.tape
  out : w'.output = w.output
  size : w.heap.size ≤ w'.heap.size
  blk : ∀ k, k < w.heap.size → k ≠ g → w'.heap[k]? = w.heap[k]?
theorem KG.refl (g : Nat) (w : World) : KG g w w := ⟨rfl, rfl, rfl, Nat.le_refl _, fun _ _ _ => rfl⟩
theorem KG.trans {g : Nat} {a b c : World} (h : KG g a b) (k : KG g b c) : KG g a c := ⟨k.os.trans h.os, k.tape.trans h.tape, k.out.trans h.out, Nat.le_trans h.size k.size, fun j hj hne => (k.blk j (Nat.lt_of_lt_of_le hj h.size) hne).trans (h.blk j hj hne)⟩
theorem KG.below {g : Nat} {w w' : World} (h : Below w.heap.size w w') : KG g w w' := ⟨h.os, h.tape, h.output, h.size, fun k hk _ => h.block k hk⟩
theorem KG.setCell (g : Nat) (w : World) (j : Nat) (v : Value) : KG g w (w.setCell ⟨g, j, none⟩ v) := ⟨rfl, rfl, rfl, by simp, fun k _ hne => heap_setCell_other w ⟨g, j, none⟩ k v hne⟩
theorem KG.setCells (g : Nat) : ∀ (vs : List Value) (o : Nat) (w : World), KG g w (w.setCells g o vs)
  | [], _, w => KG.refl g w
  | v :: r, o, w => (KG.setCell g w o v).trans (KG.setCells g r (o + 1) _)
theorem idx_cases (p : Fld → Bool) : ∀ (l : List Fld) (i : Int), (idx p l i = -1 ∧ ∀ f ∈ l, p f = false) ∨ ∃ k : Nat, ∃ hk : k < l.length, idx p l i = i + k ∧ p l[k] = true ∧ ∀ f ∈ l.take k, p f = false
  | [], i => .inl ⟨rfl, fun f hf => by cases hf⟩
  | f :: r, i => by
    cases hp : p f with
    | true => exact .inr ⟨0, by simp, by rw [idx_hit hp]; simp, hp, fun f hf => by simp at hf⟩
    | false =>
      rw [idx_miss hp]
      rcases idx_cases p r (i + 1) with ⟨h1, h2⟩ | ⟨k, hk, h1, h2, h3⟩
      · exact .inl ⟨h1, fun g hg => by
          rcases List.mem_cons.1 hg with rfl | hg
          · exact hp
          · exact h2 g hg⟩
      · refine .inr ⟨k + 1, by simpa using hk, by rw [h1]; push_cast; omega, by simpa using h2, fun g hg => ?_⟩
        rw [List.take_succ_cons] at hg
        rcases List.mem_cons.1 hg with rfl | hg
        · exact hp
        · exact h3 g hg
/-- The fields that stay. -/
def stay (p : Fld → Bool) (l : List Fld) : List Fld := l.filter fun f => !p f
theorem stay_all {p : Fld → Bool} : ∀ {l : List Fld}, (∀ f ∈ l, p f = false) → stay p l = l
  | [], _ => rfl
  | f :: r, h => by
    unfold stay
    rw [List.filter_cons, if_pos (by rw [h f (by simp)]; rfl)]
    congr 1
    exact stay_all fun g hg => h g (by simp [hg])
theorem Row.set {W : World} {g : Nat} {zs : List Fld} (h : Row W g zs) {i : Nat} (hi : i < zs.length) (f : Fld) : Row ((W.setCell ⟨g, i * 2, none⟩ (.string f.1)).setCell ⟨g, i * 2 + 1, none⟩ (.string f.2)) g (zs.set i f) := by
  obtain ⟨c0, c1⟩ := h.cell i _ (List.getElem?_eq_getElem hi)
  refine ⟨fun j e hj => ?_, fun j hj => ?_⟩
  · rw [List.getElem?_set] at hj
    by_cases he : i = j
    · subst he
      rw [if_pos rfl, if_pos hi] at hj
      obtain rfl := Option.some.inj hj
      refine ⟨?_, ?_⟩
      · rw [World.cell?_setCell_other _ _ _ _ (by simp)]
        exact World.cell?_setCell_same _ _ _ c0
      · exact World.cell?_setCell_same _ _ _ (by rw [World.cell?_setCell_other _ _ _ _ (by simp)]; exact c1)
    · rw [if_neg he] at hj
      obtain ⟨d0, d1⟩ := h.cell j e hj
      refine ⟨?_, ?_⟩
      · rw [World.cell?_setCell_other _ _ _ _ (by first | (simp; done) | (simp; omega)), World.cell?_setCell_other _ _ _ _ (by first | (simp; done) | (simp; omega))]; exact d0
      · rw [World.cell?_setCell_other _ _ _ _ (by first | (simp; done) | (simp; omega)), World.cell?_setCell_other _ _ _ _ (by first | (simp; done) | (simp; omega))]; exact d1
  · rw [World.frozen?_setCell, World.frozen?_setCell]
    exact h.free j (by simpa using hj)
theorem zero_fld (w : World) : (zeroValue 42).run Tryd.prog w = .ok (.agg #[.string ByteArray.empty, .string ByteArray.empty]) w := Tryd.zeroValue42 w
/-- So many empty fields, as cells. -/
def zl (n : Nat) : List Value := (Builtin.zeroCells #[.string ByteArray.empty, .string ByteArray.empty] n).toList
theorem zl_len (n : Nat) : (zl n).length = n * 2 := by simp [zl, Builtin.zeroCells]
theorem run_clear (w : World) (ty g o n c : Nat) (hn : 0 < n) (hc : ∀ j, j < n * 2 → (w.cell? ⟨g, o + j, none⟩).isSome = true) (hf : ∀ j, j < n * 2 → w.frozen? ⟨g, o + j, none⟩ = false) :
    (Builtin.clear_ #[22] ty #[.slice (some ⟨g, o, none⟩) n c]).run Tryd.prog w = .ok (.tuple #[]) (w.setCells g o (zl n)) := by
  have hl : (Builtin.zeroCells #[.string ByteArray.empty, .string ByteArray.empty] n).toList.length = n * 2 := by simp [Builtin.zeroCells]
  have hst := run_storeCells_cells (P := Tryd.prog) g o (Builtin.zeroCells #[.string ByteArray.empty, .string ByteArray.empty] n).toList 0 w (by rw [hl]; simpa using hc) (by rw [hl]; simpa using hf) (by
    intro v hv
    simp only [Builtin.zeroCells, Array.toList_map, List.mem_map] at hv
    obtain ⟨i, _, rfl⟩ := hv
    have : i % (#[Value.string ByteArray.empty, Value.string ByteArray.empty] : Array Value).size < 2 := Nat.mod_lt _ (by decide)
    rcases (show i % (#[Value.string ByteArray.empty, Value.string ByteArray.empty] : Array Value).size = 0 ∨ i % (#[Value.string ByteArray.empty, Value.string ByteArray.empty] : Array Value).size = 1 by omega) with h | h <;> rw [h] <;> rfl)
  simp only [Nat.add_zero] at hst
  obtain ⟨m, rfl⟩ : ∃ m, n = m + 1 := ⟨n - 1, by omega⟩
  simp [Builtin.clear_, run_underlying Tryd.underlying22, zero_fld, Value.cells]
  show Result.andThen (Sem.run _ (storeCells ⟨g, o, none⟩ (Builtin.zeroCells #[.string ByteArray.empty, .string ByteArray.empty] (m + 1)).toList) w) _ = _
  rw [hst]
  rfl
set_option maxRecDepth 100000 in
set_option maxHeartbeats 8000000 in
theorem deleteFunc (gF : FuncId) (lb : Array Value) (p : Fld → Bool) (g cap : Nat) (Inv : World → Prop) (hP : Pred gF lb p g Inv) (zs : List Fld) (hz : zs.length ≤ 100000) (hcap : zs.length ≤ cap) (hcm : cap ≤ 9223372036854775807) (w : World) (hI : Inv w) (hR : Row w g zs) (hg : g < w.heap.size) :
    Calls Tryd.prog 84 #[.slice (some ⟨g, 0, none⟩) zs.length cap, .func (.func gF) #[] lb] w fun e W' => e = .returned (.slice (some ⟨g, 0, none⟩) (stay p zs).length cap) ∧ KG g w W' ∧
      ∀ (j : Nat) (f : Fld), (stay p zs)[j]? = some f → W'.cell? ⟨g, j * 2, none⟩ = some (.string f.1) ∧ W'.cell? ⟨g, j * 2 + 1, none⟩ = some (.string f.2) := by
  obtain ⟨fn, f1, f2, f3⟩ := hP.fn
  have hIF := indexFunc gF lb p g cap Inv hP zs hz w hI hR hg
  rcases idx_cases p zs 0 with ⟨hx, hno⟩ | ⟨k0, hk0, hx, hyes, hno⟩
  · rw [hx] at hIF
    have hRR : Hid (Row w g zs) := ⟨hR⟩
    clear hR
    go_enter Tryd.func84, Tryd.ntmps84
    go_wp2_with (go_at_call 125; refine hIF.mono ?_; rintro e w1 ⟨rfl, hB⟩)
    go_ret
    rw [stay_all hno]
    exact ⟨rfl, KG.below hB, (hRR.out.below hB hg).cell⟩
  · rw [hx, Int.zero_add] at hIF
    have hne : ((k0 : Int) == -1) = false := beq_eq_false_iff_ne.2 (by omega)
    have hRR : Hid (Row w g zs) := ⟨hR⟩
    clear hR
    go_enter Tryd.func84, Tryd.ntmps84
    go_wp2_with (go_at_call 125; refine hIF.mono ?_; rintro e w1 ⟨rfl, hB⟩)
    go_loopg [5, 6] (zs.length + 1) (fun kq v5 v6 w' => ∃ (i j : Nat) (zn : List Fld), v5 = .int .i64 (i : Int) ∧ v6 = .int .i64 (j : Int) ∧ zs.length + 1 ≤ j + kq ∧ j ≤ zs.length ∧ i < j ∧ zn.length = zs.length ∧ Hid (zn.take i = stay p (zs.take j)) ∧ Hid (zn.drop j = zs.drop j) ∧ Hid (Row w' g zn) ∧ Hid (KG g w w') ∧ Hid (Inv w'))
    case atStart =>
      refine ⟨k0, k0 + 1, zs, rfl, by simp, by omega, by omega, by omega, rfl, ⟨?_⟩, ⟨rfl⟩, ⟨hRR.out.below hB hg⟩, ⟨KG.below hB⟩, ⟨hP.up _ _ hI hB⟩⟩
      rw [List.take_add_one, List.getElem?_eq_getElem hk0]
      have e1 := stay_all hno
      unfold stay at e1 ⊢
      rw [List.filter_append, e1]
      simp [hyes]
    case round =>
      obtain ⟨i, j, zn, rfl, rfl, hk, hj, hij, hzl, hT, hD, hRn, HK, HI⟩ := hrel
      cases gk with
      | zero => omega
      | succ k1 =>
      have hgs := HK.out.size
      by_cases hlt' : j < zs.length
      · have hlt : (j : Int) < (zs.length : Int) := by omega
        have b0 : decide ((j : Int) < (zs.length : Int)) = true := decide_eq_true hlt
        have n0 : (0 : Int) ≤ (j : Int) := by omega
        have n1 := eq_true n0
        have n2 := eq_true hlt
        have m0 : (0 : Int) ≤ (i : Int) := by omega
        have m1 : (i : Int) < (zs.length : Int) := by omega
        have m2 := eq_true m0
        have m3 := eq_true m1
        have hnj : zn[j]? = some zs[j] := by
          have := congrArg (fun l => l[0]?) hD.out
          simp only [List.getElem?_drop, Nat.add_zero] at this
          rw [this, List.getElem?_eq_getElem hlt']
        obtain ⟨hc0, hc1⟩ := hRn.out.cell j _ hnj
        have hdn : Hid (zn.drop (j + 1) = zs.drop (j + 1)) := ⟨by rw [← List.drop_drop, hD.out, List.drop_drop]⟩
        have htk : Hid (zs.take (j + 1) = zs.take j ++ [zs[j]]) := ⟨by rw [List.take_add_one, List.getElem?_eq_getElem hlt']; rfl⟩
        obtain ⟨f, hf⟩ : ∃ f, zs[j] = f := ⟨_, rfl⟩
        rw [hf] at hc0 hc1 htk
        clear hnj hf
        obtain ⟨nx, vx⟩ := f
        have hBa : Hid (Below wr.heap.size wr (wr.alloc (.cells #[.string nx, .string vx] 42))) := ⟨(Below.refl _ wr).alloc (Nat.le_refl _) _⟩
        have hCall := hP.call (wr.alloc (.cells #[.string nx, .string vx] 42)) (nx, vx) (hP.up _ _ HI.out hBa.out)
        have hal : (wr.alloc (.cells #[.string nx, .string vx] 42)).heap.size = wr.heap.size + 1 := by simp
        obtain ⟨fi, hfi⟩ : ∃ f, zn[i]? = some f := ⟨_, List.getElem?_eq_getElem (by omega)⟩
        obtain ⟨ni, vi⟩ := fi
        cases hpb : p (nx, vx) with
        | true =>
          go_wp2_with (first | ((with_reducible refine gate_calleeV (x := .tmp 26) rfl ?_); refine goesC_ (.tmp 26) (some 28) rfl rfl f1 f2 f3 #[.agg #[.string nx, .string vx]] lb _ rfl rfl (by (try simp only [List.map_toArray, List.map_cons, List.map_nil]); first | done | rfl) rfl ?_; refine hCall.mono ?_; rintro e W3 ⟨rfl, hB3⟩; rw [hpb]; refine ⟨_, rfl, ?_⟩))
          go_roundg k1
          case measure => omega
          case rel =>
            have hB4 : Below wr.heap.size wr W3 := hBa.out.trans (hB3.mono (by rw [hal]; omega))
            refine ⟨i, j + 1, zn, rfl, by simp, by omega, by omega, by omega, hzl, ⟨?_⟩, hdn, ⟨hRn.out.below hB4 (by omega)⟩, ⟨HK.out.trans (KG.below hB4)⟩, ⟨hP.up _ _ HI.out hB4⟩⟩
            rw [htk.out, hT.out]
            unfold stay
            rw [List.filter_append]
            simp [hpb]
        | false =>
          go_wp2_with (first | ((with_reducible refine gate_calleeV (x := .tmp 26) rfl ?_); refine goesC_ (.tmp 26) (some 28) rfl rfl f1 f2 f3 #[.agg #[.string nx, .string vx]] lb _ rfl rfl (by (try simp only [List.map_toArray, List.map_cons, List.map_nil]); first | done | rfl) rfl ?_; refine hCall.mono ?_; rintro e W3 ⟨rfl, hB3⟩; rw [hpb]; refine ⟨_, rfl, ?_⟩; have hB4 : Hid (Below wr.heap.size wr W3) := ⟨hBa.out.trans (hB3.mono (by rw [hal]; omega))⟩; have hR3 : Hid (Row W3 g zn) := ⟨hRn.out.below hB4.out (by omega)⟩; obtain ⟨q0, q1⟩ := hR3.out.cell i _ hfi; have fr0 := hR3.out.free (i * 2) (by omega); have fr1 := hR3.out.free (i * 2 + 1) (by omega); have bx0 : W3.cell? ⟨wr.heap.size, 0, none⟩ = some (.string nx) := (hB3.cell (p := ⟨wr.heap.size, 0, none⟩) (by rw [hal]; exact Nat.lt_succ_self _)).trans (by rw [Lib.cell_of_heap (heap_alloc_new wr _)]; rfl); have bx1 : W3.cell? ⟨wr.heap.size, 1, none⟩ = some (.string vx) := (hB3.cell (p := ⟨wr.heap.size, 1, none⟩) (by rw [hal]; exact Nat.lt_succ_self _)).trans (by rw [Lib.cell_of_heap (heap_alloc_new wr _)]; rfl)))
          go_roundg k1
          case measure => omega
          case rel =>
            refine ⟨i + 1, j + 1, zn.set i (nx, vx), by simp, by simp, by omega, by omega, by omega, by simp [hzl], ⟨?_⟩, ⟨?_⟩, ⟨hR3.out.set (by omega) (nx, vx)⟩, ⟨(HK.out.trans (KG.below hB4.out)).trans ((KG.setCell g W3 _ _).trans (KG.setCell g _ _ _))⟩, ⟨hP.set _ _ _ (hP.set _ _ _ (hP.up _ _ HI.out hB4.out))⟩⟩
            · have e1 : (zn.set i (nx, vx)).take (i + 1) = zn.take i ++ [(nx, vx)] := by
                rw [List.take_add_one, List.getElem?_set_self (by omega), List.take_set_of_le (Nat.le_refl _)]
                rfl
              rw [htk.out, e1, hT.out]
              unfold stay
              rw [List.filter_append]
              simp [hpb]
            · rw [List.drop_set_of_lt (by omega)]
              exact hdn.out
      · have b0 : decide ((j : Int) < (zs.length : Int)) = false := decide_eq_false (by omega)
        obtain rfl : j = zs.length := by omega
        have m0 : (0 : Int) ≤ (i : Int) := by omega
        have m1 : (i : Int) ≤ (cap : Int) := by omega
        have m3 : (i : Int) ≤ (zs.length : Int) := by omega
        have hcl : ∀ ty, (Builtin.clear_ #[22] ty #[.slice (some ⟨g, i * 2, none⟩) (zs.length - i) (cap - i)]).run Tryd.prog wr = .ok (.tuple #[]) (wr.setCells g (i * 2) (zl (zs.length - i))) := fun ty =>
          run_clear wr ty g (i * 2) _ _ (by omega) (fun q hq => by
            have hlt : (i * 2 + q) / 2 < zn.length := by omega
            obtain ⟨c0, c1⟩ := hRn.out.cell ((i * 2 + q) / 2) _ (List.getElem?_eq_getElem hlt)
            rcases (show i * 2 + q = (i * 2 + q) / 2 * 2 ∨ i * 2 + q = (i * 2 + q) / 2 * 2 + 1 by omega) with h | h
            · rw [h, c0]; rfl
            · rw [h, c1]; rfl) (fun q hq => hRn.out.free _ (by omega))
        have hlen : Hid ((stay p zs).length = i) := ⟨by
          have := congrArg List.length hT.out
          rw [List.take_of_length_le (Nat.le_refl zs.length), List.length_take, Nat.min_eq_left (by omega)] at this
          exact this.symm⟩
        go_wp2
        go_ret
        refine ⟨by rw [hlen.out]; rfl, HK.out.trans (KG.setCells g _ _ _), fun q f hq => ?_⟩
        have hqi : q < i := by rw [← hlen.out]; exact (List.getElem?_eq_some_iff.1 hq).1
        have hq' : zn[q]? = some f := by
          have e := hT.out
          rw [List.take_of_length_le (Nat.le_refl zs.length)] at e
          rw [← e, List.getElem?_take, if_pos hqi] at hq
          exact hq
        obtain ⟨c0, c1⟩ := hRn.out.cell q f hq'
        refine ⟨?_, ?_⟩
        · rw [World.cell?_setCells_out g _ _ _ _ (fun _ _ => .inl (by show q * 2 < i * 2; omega))]; exact c0
        · rw [World.cell?_setCells_out g _ _ _ _ (fun _ _ => .inl (by show q * 2 + 1 < i * 2; omega))]; exact c1
theorem infoF : (Tryd.prog.info? 42).map (fun i => (i.zero, i.size, i.bytes)) = some (some (.agg #[.string ⟨#[]⟩, .string ⟨#[]⟩]), 2, 32) := by kernel_rfl
theorem slice_eq_nil (w : World) (A : Option Addr) (n c : Nat) : (binOp .eql 22 (.slice A n c) (.slice none 0 0)).run Tryd.prog w = .ok (.bool A.isNone) w := by
  simp only [Go.binOp, Sem.run_bind, show (Op.equal 22 (.slice A n c) (.slice none 0 0)).run Tryd.prog w = .ok A.isNone w from R.run_equalIn_nilsl 9999 Tryd.underlying22 A n c w, Result.andThen_ok, Sem.run_pure]
def flat : List Fld → List Value
  | [] => []
  | f :: r => .string f.1 :: .string f.2 :: flat r
theorem flat_len : ∀ l : List Fld, (flat l).length = l.length * 2
  | [] => rfl
  | f :: r => by simp only [flat, List.length_cons, flat_len r]; omega
theorem flat_one : ∀ (l : List Fld), ∀ u ∈ flat l, u.oneCell' = true
  | [], u, h => by cases h
  | f :: r, u, h => by
    simp only [flat, List.mem_cons] at h
    rcases h with rfl | rfl | h
    · rfl
    · rfl
    · exact flat_one r u h
theorem flat_get : ∀ (l : List Fld) (j : Nat) (f : Fld), l[j]? = some f → (flat l)[j * 2]? = some (.string f.1) ∧ (flat l)[j * 2 + 1]? = some (.string f.2)
  | [], j, f, h => by simp at h
  | e :: r, 0, f, h => by
    simp only [List.getElem?_cons_zero, Option.some.injEq] at h
    subst h
    exact ⟨rfl, rfl⟩
  | e :: r, j + 1, f, h => by
    have := flat_get r j f (by simpa using h)
    rw [show (j + 1) * 2 = j * 2 + 1 + 1 by omega]
    simpa [flat] using this
set_option maxRecDepth 100000 in
set_option maxHeartbeats 4000000 in
/-- A copy of one's own. -/
theorem clone (A : Option Addr) (c : Nat) (zs : List Fld) (hz : zs.length ≤ 100000) (hc : zs.length ≤ c) (hcm : c ≤ 9223372036854775807) (w : World) (hI : XG.Flds w.heap.size w A zs) (hA : zs ≠ [] → A ≠ none) :
    Calls Tryd.prog 85 #[.slice A zs.length c] w fun e W' => Below w.heap.size w W' ∧ ((zs = [] ∧ ∃ B c', e = .returned (.slice B 0 c') ∧ c' ≤ 9223372036854775807) ∨
      (zs ≠ [] ∧ ∃ g c', e = .returned (.slice (some ⟨g, 0, none⟩) zs.length c') ∧ w.heap.size ≤ g ∧ g < W'.heap.size ∧ zs.length ≤ c' ∧ c' ≤ 9223372036854775807 ∧ Row W' g zs)) := by
  go_enter Tryd.func85, Tryd.ntmps85
  have hq := slice_eq_nil
  obtain ⟨i0, hi, hz0, hz1, hz2⟩ := info_parts infoF
  cases A with
  | none =>
    have hzs : zs = [] := Classical.byContradiction fun h => hA h rfl
    go_wp2
    go_ret
    exact ⟨Below.refl _ _, .inl ⟨hzs, none, 0, rfl, by omega⟩⟩
  | some ad =>
    have hsrc : ∃ news : List Value, news.length = zs.length * 2 ∧ (∀ j u, news[j]? = some u → w.cell? (ad.add j) = some u) ∧ (∀ u ∈ news, u.oneCell' = true) ∧ ∀ (j : Nat) (f : Fld), zs[j]? = some f → news[j * 2]? = some (.string f.1) ∧ news[j * 2 + 1]? = some (.string f.2) := by
      refine ⟨flat zs, flat_len zs, fun j u hj => ?_, flat_one zs, flat_get zs⟩
      have hjl := (List.getElem?_eq_some_iff.1 hj).1
      rw [flat_len] at hjl
      rcases hI with rfl | ⟨b, off, hA', hb, hcs⟩
      · simp at hjl
      · obtain rfl := Option.some.inj hA'
        have hq : j / 2 < zs.length := by omega
        obtain ⟨c0, c1⟩ := hcs (j / 2) _ (List.getElem?_eq_getElem hq)
        obtain ⟨g0, g1⟩ := flat_get zs (j / 2) _ (List.getElem?_eq_getElem hq)
        rw [R.add_cell]
        rcases (show j = j / 2 * 2 ∨ j = j / 2 * 2 + 1 by omega) with h | h
        · rw [h] at hj ⊢
          rw [g0] at hj
          rw [← Option.some.inj hj]
          exact c0
        · rw [h] at hj ⊢
          rw [g1] at hj
          rw [← Option.some.inj hj, ← Nat.add_assoc]
          exact c1
    obtain ⟨news, hnl, hnc, hn1, hnf⟩ := hsrc
    have hown0 : (w.alloc (.cells #[] 42)).ownsRow w.heap.size 42 2 (.slice (some ⟨w.heap.size, 0, none⟩) 0 0) 0 [] := ⟨rfl, .inr ⟨w.heap.size, 0, #[], rfl, Nat.le_refl _, heap_alloc_new w _, Nat.le_refl _, by decide, rfl, rfl⟩⟩
    have hnc' : ∀ j u, news[j]? = some u → (w.alloc (.cells #[] 42)).cell? (ad.add j) = some u := fun j u hj => Lib.cell?_alloc_some _ (hnc j u hj)
    go_wp2_with (at_builtin; refine wpList_append_own _ rfl _ _ 22 rfl w.heap.size 42 i0 (.agg #[.string ⟨#[]⟩, .string ⟨#[]⟩]) 2 32 Tryd.underlying22 hi hz0 hz1 hz2 rfl (by decide) _ _ _ rfl hown0 ad zs.length c news rfl hnl hnc' hn1 (by unfold maxLen; omega) (by omega) (by simp) ?_; intro v' w1 hown' hgrow _)
    go_ret
    have hbel : Below w.heap.size w w1 := ((Below.refl w.heap.size w).alloc (Nat.le_refl _) _).grown hgrow (by simp) (fun q e => by cases e; exact Nat.le_refl _)
    rw [Nat.zero_add, List.nil_append] at hown'
    refine ⟨hbel, ?_⟩
    by_cases hzs : zs = []
    · subst hzs
      rcases hown'.2 with ⟨rfl, _⟩ | ⟨g, cap, cur, rfl, hb, hg, hnc2, hcm2, _⟩
      · exact .inl ⟨rfl, none, 0, rfl, by omega⟩
      · exact .inl ⟨rfl, _, cap, rfl, hcm2⟩
    · have hpos : zs.length ≠ 0 := fun h => hzs (List.eq_nil_of_length_eq_zero h)
      rcases hown'.2 with ⟨rfl, h0⟩ | ⟨g, cap, cur, rfl, hb, hg, hnc2, hcm2, _⟩
      · exact absurd h0 hpos
      · refine .inr ⟨hzs, g, cap, rfl, hb, (Array.getElem?_eq_some_iff.1 hg).1, hnc2, hcm2, fun j f hj => ?_, fun j hj => Lib.frozen_of_heap hg j⟩
        obtain ⟨g0, g1⟩ := hnf j f hj
        have e0 := hown'.cells (g := g) rfl (j * 2) _ g0
        have e1 := hown'.cells (g := g) rfl (j * 2 + 1) _ g1
        rw [R.add_cell, Nat.zero_add] at e0 e1
        exact ⟨e0, e1⟩
/-- The names are in the box, and all below n₀ is as it was. -/
def InvW (w0 : World) (Bx : Nat) (v : Value) (W : World) : Prop := Boxed W Bx 34 v ∧ Below w0.heap.size w0 W
theorem contains_is (ns : List ByteArray) (hn : ns.length ≤ 100000) (nm : ByteArray) (k : Nat) (hk : ns.length + 1 < k) : R.slices_Contains___string_string_.f k (ns, nm) = some (ns.any fun s => nm.toList == s.toList) := by
  unfold R.slices_Contains___string_string_.f R.slices_Index___string_string_.f R.slices_Index___string_string_.l0
  have H := R.iter_eq (f := R.slices_Index___string_string_.l0b k) (fun v => v.1 = ns ∧ v.2.1 = nm ∧ v.2.2.1 = (ns.length : Int) ∧ ∃ i : Nat, v.2.2.2 = (i : Int) ∧ i ≤ ns.length ∧ (ns.take i).all (fun s => !(nm.toList == s.toList)) = true) (fun v => (ns.length + 1 - v.2.2.2).toNat) (fun v => some (match (ns.findIdx? fun s => nm.toList == s.toList) with | some i => (i : Int) | none => -1)) ?_ k (ns, (nm, ((ns.length : Int), (0 : Int)))) ⟨rfl, rfl, rfl, 0, rfl, Nat.zero_le _, rfl⟩ (by show ((ns.length : Int) + 1 - 0).toNat < k; omega)
  · show R.bindO (R.iter _ k (ns, (nm, ((ns.length : Int), (0 : Int))))) _ = _
    rw [H, R.bindO_some]
    cases hf : ns.findIdx? fun s => nm.toList == s.toList with
    | none =>
      have : ns.any (fun s => nm.toList == s.toList) = false := by
        rw [List.any_eq_false]
        intro x hx
        have := List.findIdx?_eq_none_iff.1 hf x hx
        rw [this]; decide
      rw [this]; rfl
    | some i =>
      have h1 := List.findIdx?_eq_some_iff_getElem.1 hf
      obtain ⟨hi, hp, _⟩ := h1
      have : ns.any (fun s => nm.toList == s.toList) = true := List.any_eq_true.2 ⟨ns[i], List.getElem_mem hi, hp⟩
      rw [this]
      show some (R.leI 0 (i : Int)) = some true
      unfold R.leI
      rw [decide_eq_true (by omega)]
  · rintro r ⟨s, m, l, i'⟩ ⟨h1, h2, h3, i, h4, hi, h5⟩ hr
    simp only at h1 h2 h3 h4
    subst h1; subst h2; subst h3; subst h4
    unfold R.slices_Index___string_string_.l0b
    simp only [R.lenL_nat, R.ltI_nat, R.inB_nat, R.ifO_dec]
    by_cases h : i < s.length
    · rw [if_pos h, if_pos h, R.elT_get (t := .str) (xs := s) h]
      unfold R.eqS R.ifO
      cases hp : m.toList == s[i].toList with
      | true =>
        rw [if_pos rfl]
        have : s.findIdx? (fun s => m.toList == s.toList) = some i := by
          rw [List.findIdx?_eq_some_iff_getElem]
          refine ⟨h, hp, fun j hj => ?_⟩
          have := List.all_eq_true.1 h5 s[j] (by rw [List.mem_take_iff_getElem]; exact ⟨j, by omega, rfl⟩)
          simpa using this
        rw [this]
      | false =>
        rw [if_neg (by decide), R.next64 (by omega)]
        refine hr _ ⟨rfl, rfl, rfl, i + 1, rfl, h, ?_⟩ (by show ((s.length : Int) + 1 - ((i + 1 : Nat) : Int)).toNat < ((s.length : Int) + 1 - (i : Int)).toNat; omega)
        rw [List.take_add_one, List.getElem?_eq_getElem h, List.all_append, h5]
        simp [hp]
    · rw [if_neg h]
      rw [List.take_of_length_le (by omega)] at h5
      have : s.findIdx? (fun s => m.toList == s.toList) = none := by
        rw [List.findIdx?_eq_none_iff]
        intro x hx
        have := List.all_eq_true.1 h5 x hx
        simpa using this
      rw [this]
set_option maxRecDepth 100000 in
set_option maxHeartbeats 4000000 in
theorem without1 (w0 : World) (hT : R.T w0) (Bx : Nat) (A : Option Addr) (c : Nat) (ns : List ByteArray) (hn : ns.length ≤ 100000) (Φ : R.Fz) (hfz : ∀ b i, Φ b i → b < w0.heap.size) (hrel : R.VRel Φ w0 (.sl 9 .str) ns (.slice A ns.length c)) (W : World) (f : Fld)
    (hI : InvW w0 Bx (.slice A ns.length c) W) :
    Calls Tryd.prog 86 (#[.agg #[.string f.1, .string f.2]] ++ #[.pointer (some ⟨Bx, 0, none⟩)]) W fun e W' => e = .returned (.bool (ns.any fun s => f.1.toList == s.toList)) ∧ Below W.heap.size W W' := by
  obtain ⟨nx, vx⟩ := f
  obtain ⟨hbx, hB⟩ := hI
  have hc := (hbx.alloc (.cells #[.string nx, .string vx] 42)).cell
  have hB1 : Below w0.heap.size w0 (W.alloc (.cells #[.string nx, .string vx] 42)) := hB.alloc hB.size _
  have hBW : Below W.heap.size W (W.alloc (.cells #[.string nx, .string vx] 42)) := (Below.refl _ W).alloc (Nat.le_refl _) _
  have hx : R.FExt Φ w0 Φ (W.alloc (.cells #[.string nx, .string vx] 42)) := ⟨fun _ _ h => h, fun b i h => hB1.cell (p := ⟨b, i, none⟩) (hfz b i h)⟩
  have hC := R.slices_Contains___string_string_.ok (ns.length + 2) (ns, nx) _ (contains_is ns hn nx _ (by omega)) Φ (W.alloc (.cells #[.string nx, .string vx] 42)) #[.slice A ns.length c, .string nx] (R.T_below _ _ hT hB1) (fun b i h => Nat.lt_of_lt_of_le (hfz b i h) hB1.size) ⟨_, _, rfl, hrel.mono hx, _, rfl, rfl⟩
  show Calls Tryd.prog 86 #[.agg #[.string nx, .string vx], .pointer (some ⟨Bx, 0, none⟩)] W _
  go_enter Tryd.func86, Tryd.ntmps86
  go_wp2_with (go_at_call 87; refine hC.mono ?_; rintro e W3 ⟨v, Φ', rfl, hB3, _, _, _, vs, hvs, rfl⟩; obtain ⟨u, rfl, hu⟩ := hvs; obtain rfl : u = .bool _ := (List.cons.inj hu).1)
  go_ret
  exact ⟨rfl, hBW.trans (hB3.mono hBW.size)⟩
/-- The lines of no such name. -/
def left (ns : List ByteArray) (zs : List Fld) : List Fld := stay (fun f => ns.any fun s => f.1.toList == s.toList) zs
set_option maxRecDepth 100000 in
set_option maxHeartbeats 4000000 in
theorem without (w : World) (hT : R.T w) (A : Option Addr) (c : Nat) (zs : List Fld) (hz : zs.length ≤ 100000) (hc : zs.length ≤ c) (hcm : c ≤ 9223372036854775807) (hI : XG.Flds w.heap.size w A zs) (hA : zs ≠ [] → A ≠ none)
    (B : Option Addr) (d : Nat) (ns : List ByteArray) (hn : ns.length ≤ 100000) (Φ : R.Fz) (hfz : ∀ b i, Φ b i → b < w.heap.size) (hrel : R.VRel Φ w (.sl 9 .str) ns (.slice B ns.length d)) :
    Calls Tryd.prog 31 #[.slice A zs.length c, .slice B ns.length d] w fun e W' => Below w.heap.size w W' ∧ ∃ C c', e = .returned (.slice C (left ns zs).length c') ∧ (left ns zs).length ≤ c' ∧ c' ≤ 9223372036854775807 ∧
      (left ns zs ≠ [] → ∃ g, C = some ⟨g, 0, none⟩ ∧ w.heap.size ≤ g ∧ g < W'.heap.size ∧ ∀ (j : Nat) (f : Fld), (left ns zs)[j]? = some f → W'.cell? ⟨g, j * 2, none⟩ = some (.string f.1) ∧ W'.cell? ⟨g, j * 2 + 1, none⟩ = some (.string f.2)) := by
  have hBx : Boxed (w.alloc (.cells #[.slice B ns.length d] 34)) w.heap.size 34 (.slice B ns.length d) := Boxed.new w 34 _
  have hB1 : Below w.heap.size w (w.alloc (.cells #[.slice B ns.length d] 34)) := (Below.refl _ w).alloc (Nat.le_refl _) _
  have hsz : (w.alloc (.cells #[.slice B ns.length d] 34)).heap.size = w.heap.size + 1 := by simp
  have hCl := clone A c zs hz hc hcm (w.alloc (.cells #[.slice B ns.length d] 34)) (by
    rcases hI.below hB1 with h | ⟨b, off, h1, h2, h3⟩
    · exact .inl h
    · exact .inr ⟨b, off, h1, by omega, h3⟩) hA
  have hDel : ∀ (W2 : World) (g cap : Nat), Below w.heap.size w W2 → Boxed W2 w.heap.size 34 (.slice B ns.length d) → w.heap.size < g → g < W2.heap.size → zs.length ≤ cap → cap ≤ 9223372036854775807 → Row W2 g zs → Calls Tryd.prog 84 #[.slice (some ⟨g, 0, none⟩) zs.length cap, .func (.func 86) #[] #[.pointer (some ⟨w.heap.size, 0, none⟩)]] W2 fun e W' => e = .returned (.slice (some ⟨g, 0, none⟩) (left ns zs).length cap) ∧ KG g W2 W' ∧
      ∀ (j : Nat) (f : Fld), (left ns zs)[j]? = some f → W'.cell? ⟨g, j * 2, none⟩ = some (.string f.1) ∧ W'.cell? ⟨g, j * 2 + 1, none⟩ = some (.string f.2) := by
    intro W2 g cap hb hbx hg hg2 hcap hcapm hr
    refine deleteFunc 86 _ (fun f => ns.any fun s => f.1.toList == s.toList) g cap (InvW w w.heap.size (.slice B ns.length d)) ⟨⟨_, Tryd.func86, by kernel_rfl, rfl⟩, ?_, ?_, ?_⟩ zs hz hcap hcapm W2 ⟨hbx, hb⟩ hr hg2
    · rintro W W' ⟨h1, h2⟩ h3
      exact ⟨(h3.block _ h1.lt).trans h1, h2.trans (h3.mono h2.size)⟩
    · rintro W j v ⟨h1, h2⟩
      exact ⟨(heap_setCell_other W ⟨g, j, none⟩ _ v (by show w.heap.size ≠ g; omega)).trans h1, h2.setCell (p := ⟨g, j, none⟩) (Nat.le_of_lt hg) _⟩
    · exact fun W f hI => without1 w hT _ B d ns hn Φ hfz hrel W f hI
  by_cases hzs : zs = []
  · subst hzs
    have hle : left ns [] = [] := rfl
    rw [hle]
    have hCl2 : Calls Tryd.prog 85 #[.slice A 0 c] (w.alloc (.cells #[.slice B ns.length d] 34)) fun e W' => Below (w.heap.size + 1) (w.alloc (.cells #[.slice B ns.length d] 34)) W' ∧ ∃ B' c', e = .returned (.slice B' 0 c') ∧ c' ≤ 9223372036854775807 := hCl.mono fun e W' ⟨h1, h2⟩ => ⟨by rw [← hsz]; exact h1, h2.elim (fun h => h.2) (fun h => absurd rfl h.1)⟩
    have key : ∀ (W2 : World) (C : Option Addr) (c' : Nat), Calls Tryd.prog 84 #[.slice C 0 c', .func (.func 86) #[] #[.pointer (some ⟨w.heap.size, 0, none⟩)]] W2 fun e W' => e = .returned (.slice C 0 c') ∧ W' = W2 := fun W2 C c' => deleteFunc_nil _ _ C c' W2
    clear hCl hDel
    show Calls Tryd.prog 31 #[.slice A 0 c, .slice B ns.length d] w _
    go_enter Tryd.func31, Tryd.ntmps31
    go_wp2_with (first | (go_at_call 85; refine hCl2.mono ?_; rintro e w1 ⟨hB2, C, c', rfl, hcm2⟩) | (go_at_call 84; refine (key _ _ _).mono ?_; rintro e w2 ⟨rfl, rfl⟩))
    go_ret
    exact ⟨hB1.trans (hB2.mono (by omega)), C, c', rfl, Nat.zero_le _, hcm2, fun h => absurd rfl h⟩
  · have hCl2 : Calls Tryd.prog 85 #[.slice A zs.length c] (w.alloc (.cells #[.slice B ns.length d] 34)) fun e W' => Below (w.heap.size + 1) (w.alloc (.cells #[.slice B ns.length d] 34)) W' ∧ ∃ g c', e = .returned (.slice (some ⟨g, 0, none⟩) zs.length c') ∧ w.heap.size < g ∧ g < W'.heap.size ∧ zs.length ≤ c' ∧ c' ≤ 9223372036854775807 ∧ Row W' g zs := hCl.mono fun e W' ⟨h1, h2⟩ => ⟨by rw [← hsz]; exact h1, h2.elim (fun h => absurd h.1 hzs) (fun ⟨_, g, c', he, h3, h4⟩ => ⟨g, c', he, by omega, h4⟩)⟩
    clear hCl
    go_enter Tryd.func31, Tryd.ntmps31
    go_wp2_with (first | (go_at_call 85; refine hCl2.mono ?_; rintro e w1 ⟨hB2, g, c', rfl, hg1, hg2, hcc, hcm2, hrow⟩; have hD := hDel w1 g c' (hB1.trans (hB2.mono (by omega))) ((hB2.block _ (Nat.lt_succ_self _)).trans hBx) hg1 hg2 hcc hcm2 hrow) | (go_at_call 84; refine hD.mono ?_; rintro e w2 ⟨rfl, hK, hcells⟩))
    go_ret
    have hl : (left ns zs).length ≤ zs.length := List.length_filter_le _ _
    refine ⟨?_, some ⟨g, 0, none⟩, c', rfl, by omega, hcm2, fun _ => ⟨g, rfl, by omega, Nat.lt_of_lt_of_le hg2 hK.size, hcells⟩⟩
    have hb2 : Below w.heap.size w w1 := hB1.trans (hB2.mono (by omega))
    exact hb2.trans ⟨hK.os, hK.tape, hK.out, hK.size, fun k hk => hK.blk k (Nat.lt_of_lt_of_le hk hb2.size) (by omega)⟩
end Go.Proofs.YtkjjegjafpefcaaDoor.XW
namespace Go.Proofs.YtkjjegjafpefcaaDoor.R
open Go Go.RowKit
set_option linter.unusedVariables false
def head_Without.f (k : Nat) (x : Tup [.sl 42 (.agg (.pair .str .str)), .sl 9 .str]) : Option (Tup [.sl 42 (.agg (.pair .str .str))]) := if x.1.length ≤ 100000 ∧ x.2.length ≤ 100000 then some (XW.left x.2 x.1) else none
/-- Fields that lie in a row, as a view. -/
theorem flds_view {Φ : Fz} {W : World} {g o c : Nat} {A : Option Addr} {zs : List (ByteArray × ByteArray)} {el : TypeId} (hc : zs.length ≤ c) (hcm : c ≤ 9223372036854775807) (hA : zs = [] ∨ A = some ⟨g, o, none⟩)
    (h : ∀ (j : Nat) (f : ByteArray × ByteArray), zs[j]? = some f → (Φ g (o + j * 2) ∧ Φ g (o + j * 2 + 1)) ∧ W.cell? ⟨g, o + j * 2, none⟩ = some (.string f.1) ∧ W.cell? ⟨g, o + j * 2 + 1, none⟩ = some (.string f.2)) : VRel Φ W (.sl el (.agg (.pair .str .str))) zs (.slice A zs.length c) := by
  refine ⟨A, c, rfl, hc, hcm, g, o, hA.imp (fun h => by rw [h]; rfl) id, fun j f hj => ?_⟩
  obtain ⟨⟨p0, p1⟩, q0, q1⟩ := h j f hj
  refine ⟨[.string f.1, .string f.2], rfl, ⟨[.string f.1], [.string f.2], rfl, rfl, rfl⟩, fun i u hu => ?_⟩
  have hs : Ty.size (.agg (.pair .str .str)) = 2 := rfl
  rw [hs]
  match i, hu with
  | 0, hu =>
    obtain rfl : Value.string f.1 = u := by simpa using hu
    exact ⟨p0, q0⟩
  | 1, hu =>
    obtain rfl : Value.string f.2 = u := by simpa using hu
    exact ⟨p1, q1⟩
/-- A view of fields, told as cells. -/
theorem flds_of {Φ : Fz} {w : World} {el : TypeId} {l : List (ByteArray × ByteArray)} {v : Value} (hfz : ∀ b i, Φ b i → b < w.heap.size) (h : VRel Φ w (.sl el (.agg (.pair .str .str))) l v) :
    ∃ A c, v = .slice A l.length c ∧ l.length ≤ c ∧ c ≤ 9223372036854775807 ∧ XG.Flds w.heap.size w A l ∧ (l ≠ [] → A ≠ none) := by
  obtain ⟨A, c, hA, hc1, hc2, g, o, hg, hcell⟩ : CRel Φ w (.sl el (.agg (.pair .str .str))) l [v] := h
  obtain rfl : v = .slice A l.length c := (List.cons.inj hA).1
  refine ⟨A, c, rfl, hc1, hc2, ?_, fun hl hn => ?_⟩
  · by_cases hl : l = []
    · exact .inl hl
    · have hl0 : l.length ≠ 0 := fun h => hl (List.eq_nil_of_length_eq_zero h)
      have hA' := hg.resolve_left hl0
      have hb : g < w.heap.size := by
        obtain ⟨us, hul, hur, huc⟩ := hcell 0 _ (List.getElem?_eq_getElem (by omega))
        obtain ⟨p, q, rfl, hp, hq⟩ : CRel Φ w (.pair .str .str) l[0] us := hur
        have hp' : p = [.string (l[0]).1] := hp
        rw [hp'] at huc
        exact hfz _ _ (huc 0 _ rfl).1
      refine .inr ⟨g, o, hA', hb, fun j f hj => ?_⟩
      obtain ⟨us, hul, hur, huc⟩ := hcell j f hj
      obtain ⟨p, q, rfl, hp, hq⟩ : CRel Φ w (.pair .str .str) f us := hur
      obtain rfl : p = [.string f.1] := hp
      obtain rfl : q = [.string f.2] := hq
      exact ⟨(huc 0 _ rfl).2, (huc 1 _ rfl).2⟩
  · have hl0 : l.length ≠ 0 := fun h => hl (List.eq_nil_of_length_eq_zero h)
    rw [hg.resolve_left hl0] at hn
    cases hn
theorem head_Without.ok : Spec.Sound P T 31 ⟨[.sl 42 (.agg (.pair .str .str)), .sl 9 .str], [.sl 42 (.agg (.pair .str .str))], head_Without.f⟩ := by
  rintro k ⟨l, ns⟩ r hF Φ w vs hT hfz hargs
  simp only [head_Without.f] at hF
  split at hF
  case isFalse => cases hF
  case isTrue hlen =>
  obtain rfl := Option.some.inj hF
  obtain ⟨v0, vs1, hvs, h0, h1⟩ := hargs
  obtain ⟨v1, rfl, h1⟩ := h1
  obtain rfl : vs = #[v0, v1] := by apply Array.ext'; exact hvs
  obtain ⟨A, c, rfl, hc1, hc2, hI, hA⟩ := flds_of hfz h0
  obtain ⟨B, d, hB, hd1, hd2, _⟩ := id (show CRel Φ w (.sl 9 .str) ns [v1] from h1)
  obtain rfl : v1 = .slice B ns.length d := (List.cons.inj hB).1
  refine (XW.without w hT A c l hlen.1 hc1 hc2 hI hA B d ns hlen.2 Φ hfz h1).mono ?_
  rintro en w' ⟨hb, C, c', rfl, hl1, hl2, hl3⟩
  by_cases hl : XW.left ns l = []
  · refine ⟨_, Φ, rfl, hb, fun _ _ h => h, fun _ _ _ h => h, fun b i h => Nat.lt_of_lt_of_le (hfz b i h) hb.size, [_], ⟨_, rfl, ?_⟩, rfl⟩
    exact flds_view (g := 0) (o := 0) hl1 hl2 (.inl hl) (fun j f hj => by rw [hl] at hj; simp at hj)
  · obtain ⟨g, rfl, hg1, hg2, hcells⟩ := hl3 hl
    refine ⟨_, fun b i => Φ b i ∨ b = g, rfl, hb, fun _ _ h => .inl h, fun b i hbi h => h.resolve_right (by omega), fun b i h => h.elim (fun h => Nat.lt_of_lt_of_le (hfz b i h) hb.size) (fun h => by omega), [_], ⟨_, rfl, ?_⟩, rfl⟩
    exact flds_view (g := g) (o := 0) hl1 hl2 (.inr rfl) (fun j f hj => ⟨⟨.inr rfl, .inr rfl⟩, by rw [Nat.zero_add]; exact hcells j f hj⟩)
end Go.Proofs.YtkjjegjafpefcaaDoor.R
