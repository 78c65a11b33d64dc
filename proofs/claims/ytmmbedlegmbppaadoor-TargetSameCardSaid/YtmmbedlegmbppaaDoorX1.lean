/- ascii's functions: what each tells, once and for all; none asks for anything but the tables of the decoder of runes. -/
import Derived.Test.YtmmbedlegmbppaaDoorProg
import Derived.Test.YtmmbedlegmbppaaDoorShelf
import Derived.Laws.EntriesVeiled
import Derived.Below
import Derived.Deep.Draws
import Derived.OwnWalk
import Derived.Laws.OwnMore
import Derived.Tactics
import Derived.Lib.ConvBytes
import Derived.Laws.Slices
import Derived.WalkKit
import Derived.KernelRfl
import Derived.RowKit3
import Derived.Deep.LoopGhost
import Derived.Deep.QuietTactic
import Derived.BigQuiet
import Derived.WideLaws
import Derived.Laws.Rows
import Derived.RowKit
namespace Go.Proofs.YtmmbedlegmbppaaDoor.X
open Go.RowKit Go.Shelf
set_option linter.unusedVariables false
set_option linter.unusedSimpArgs false
section
variable {P : Program} {ops : Array Oper} {rest : List Oper} {o : Oper} {a : Act} {Q : Exit → Act → World → Prop} {W : World}
theorem event_run {w1 : World} {v : Value} (hgd : o.guard = none) (hrun : (execOp a.eval o).run P W = .ok (.value v) w1) (h : wpList P ops Q rest (a.put o.dst v) w1) : wpList P ops Q (o :: rest) a W := by
  refine wpList_plain hgd fun K hK => ?_
  unfold Oper.wp
  rw [hrun]
  exact hK _ _ h
theorem gate_dst {N : Tmp} (_hN : o.dst = some N) (h : wpList P ops Q (o :: rest) a W) : wpList P ops Q (o :: rest) a W := h
theorem gate_callee {f : FuncId} {as1 : Array Operand} {ts : Array TypeId} (_ho : o.op = .call { callee := .value (.func f), args := as1, argTypes := ts }) (h : wpList P ops Q (o :: rest) a W) : wpList P ops Q (o :: rest) a W := h
theorem gate_calleeV {x : Operand} {as1 : Array Operand} {ts : Array TypeId} (_ho : o.op = .call { callee := .value x, args := as1, argTypes := ts }) (h : wpList P ops Q (o :: rest) a W) : wpList P ops Q (o :: rest) a W := h
theorem enters_ {f : FuncId} {fn : Func} (hf : P.funcs[f]? = some fn) (hname : (fn.name == "runtime.NumGoroutine") = false) (hb : fn.body.isSome = true) (args : Array Value) (w : World) : (callFunc f args).run P w = .ok (.enter f args) w := by
  have h1 : fn.name ≠ "runtime.NumGoroutine" := by simpa using hname
  obtain ⟨c, hc⟩ := Option.isSome_iff_exists.1 hb
  simp [callFunc, hf, h1, hc]
/-- A call of a function value that is known, as one step. -/
theorem goesV_ {oi : Oper} {w : World} (x : Operand) (N : Option Tmp) (hd : oi.dst = N) (hg : oi.guard = none) {f : FuncId} {fn : Func} {as1 : Array Operand} {ts : Array TypeId} (hf : P.funcs[f]? = some fn) (hname : (fn.name == "runtime.NumGoroutine") = false) (hb : fn.body.isSome = true) (args : Array Value)
    (hop : oi.op = .call { callee := .value x, args := as1, argTypes := ts }) (hx : a.eval x = .func (.func f) #[] #[]) (hargs : as1.map a.eval = args)
    (h : Calls P f args w fun e w' => ∃ v, e = .returned v ∧ wpList P ops Q rest (a.put N v) w') : wpList P ops Q (oi :: rest) a w := by
  refine wpList_plain hg fun K hK => ?_
  have he := enters_ hf hname hb args w
  have hrun : (execOp a.eval oi).run P w = .ok (.enter f args) w := by
    unfold execOp
    simp [hop, resolve, Deferred.ofValue, invoke, hargs, he, hx]
  unfold Oper.wp
  rw [hrun, Oper.upon_enter]
  refine h.mono fun e w'' hh => ?_
  obtain ⟨v, rfl, hk⟩ := hh
  subst hd
  exact hK _ _ hk
/-- '[]byte(s)' as one step: a new row whose cells are the text's bytes. -/
theorem bytes_step (hgd : o.guard = none) (src dst e : TypeId) (x : Operand) (ho : o.op = .convert src dst x) (s : ByteArray)
    (hx : a.eval x = .string s) (hs : P.underlying src = some .string) (hd : P.underlying dst = some (.slice e)) (he : P.underlying e = some (.int .u8))
    (h : ∀ (c : Nat) (W1 : World), (∀ j, j < s.size → W1.cell? ⟨W.heap.size, j, none⟩ = some (.int .u8 (s.data.toList.getD j 0).toNat)) → Below W.heap.size W W1 → W1.heap.size = W.heap.size + 1 → wpList P ops Q rest (a.put o.dst (.slice (some ⟨W.heap.size, 0, none⟩) s.size c)) W1) : wpList P ops Q (o :: rest) a W := by
  have hrun : (execOp a.eval o).run P W = .ok (.value (.slice (some ⟨W.heap.size, 0, none⟩) s.size (grownCap W s.size 0 e))) (Lib.bytesWorld W e s) := by
    have := Lib.run_convert_string_bytes (P := P) W src dst e s hs hd he
    unfold execOp
    simp [ho, hx, this]
  exact event_run hgd hrun (h _ _ (fun j hj => Lib.bytesWorld_cell W e s j hj) ⟨by simp [Lib.bytesWorld, World.freeze, World.alloc, World.drew, -World.alloc_eq, -World.drew_eq], by simp [Lib.bytesWorld, World.freeze, World.alloc, World.drew, -World.alloc_eq, -World.drew_eq], by simp [Lib.bytesWorld, World.freeze, World.alloc, World.drew, -World.alloc_eq, -World.drew_eq], by rw [Lib.bytesWorld_size]; omega, fun k hk => Lib.bytesWorld_at_old W e s k hk⟩ (Lib.bytesWorld_size W e s))
end
/-- A fact that the walk's own rules leave alone. -/
structure Hid (p : Prop) : Prop where
  out : p
/-- The decoder's tables lie in this world. -/
def Tabs (w : World) : Prop := Lib.Utf8Tabs 4 5 w
theorem Tabs.below {w w1 : World} (h : Tabs w) (hb : Below w.heap.size w w1) : Tabs w1 :=
  ⟨fun c hc => (hb.cell (World.block_lt_of_cell? w _ (h.1 c hc))).trans (h.1 c hc), fun i hi => ⟨(hb.cell (World.block_lt_of_cell? w _ (h.2 i hi).1)).trans (h.2 i hi).1, (hb.cell (World.block_lt_of_cell? w _ (h.2 i hi).2)).trans (h.2 i hi).2⟩⟩

/-! ### a text's bytes under a predicate -/
def allB (p : UInt8 → Bool) (s : ByteArray) : Bool := s.data.toList.all p
set_option maxHeartbeats 4000000 in
set_option maxRecDepth 100000 in
theorem ascii_all (f : FuncId) (fn : Func) (hf : Tryd.prog.funcs[f]? = some fn) (hname : (fn.name == "runtime.NumGoroutine") = false) (hb : fn.body.isSome = true) (p : UInt8 → Bool)
    (hp : ∀ (c : UInt8) (W : World), Calls Tryd.prog f #[.int .u8 c.toNat] W fun e W1 => e = .returned (.bool (p c)) ∧ Below W.heap.size W W1) (s : ByteArray) (hs : s.size ≤ 9223372036854775807) (w : World) :
    Calls Tryd.prog 89 #[.string s, .func (.func f) #[] #[]] w fun e w1 => e = .returned (.bool (allB p s)) ∧ Below w.heap.size w w1 := by
  have hlen : s.data.toList.length = s.size := Array.length_toList
  go_enter Tryd.func89, Tryd.ntmps89
  go_wp2_with (first | ((with_reducible refine gate_dst (N := 8) rfl ?_); refine bytes_step rfl 9 46 5 (.tmp 7) rfl s rfl Tryd.underlying9 Tryd.underlying46 Tryd.underlying5 ?_; intro c W1 hcell hB hsz))
  go_loopg [10] s.size (fun kq v10 w' => ∃ i : Nat, v10 = .int .i64 (i : Int) ∧ i + kq = s.size ∧ (∀ j, j < i → p (s.data.toList.getD j 0) = true) ∧ Hid (Below W1.heap.size W1 w'))
  case atStart => exact ⟨0, rfl, by omega, fun j hj => by omega, ⟨Below.refl _ _⟩⟩
  case round =>
    obtain ⟨i, rfl, hk, hall, HB1⟩ := hrel
    by_cases hi : i < s.size
    · have hi' : (i : Int) < (s.size : Int) := by omega
      have b0 : decide ((i : Int) < (s.size : Int)) = true := decide_eq_true hi'
      have hc := (HB1.out.cell (World.block_lt_of_cell? W1 _ (hcell i hi))).trans (hcell i hi)
      cases gk with
      | zero => omega
      | succ k1 =>
      have n0 : (0 : Int) ≤ (i : Int) := by omega
      have n1 := eq_true n0
      have n2 := eq_true hi'
      obtain ⟨b, hbe⟩ : ∃ b, s.data.toList.getD i 0 = b := ⟨_, rfl⟩
      rw [hbe] at hc
      clear hcell
      cases hpb : p b with
      | true =>
        go_wp2_with (first | ((with_reducible refine gate_calleeV (x := .tmp 14) rfl ?_); refine goesV_ (.tmp 14) (some 16) rfl rfl hf hname hb #[.int .u8 b.toNat] rfl rfl (by (try simp only [List.map_toArray, List.map_cons, List.map_nil]); first | done | rfl) ?_; refine (hp _ _).mono ?_; rintro e W3 ⟨rfl, hB3⟩; rw [hpb]; refine ⟨_, rfl, ?_⟩))
        go_roundg k1
        case measure => omega
        case rel =>
          refine ⟨i + 1, ?_, by omega, fun j hj => ?_, ⟨HB1.out.trans (hB3.mono HB1.out.size)⟩⟩
          · have e1 : wrap64 ((i : Int) + 1) = (i : Int) + 1 := by unfold wrap64; omega
            simp [e1]
          · rcases Nat.lt_or_ge j i with g | g
            · exact hall j g
            · obtain rfl : j = i := by omega
              rw [hbe]; exact hpb
      | false =>
        go_wp2_with (first | ((with_reducible refine gate_calleeV (x := .tmp 14) rfl ?_); refine goesV_ (.tmp 14) (some 16) rfl rfl hf hname hb #[.int .u8 b.toNat] rfl rfl (by (try simp only [List.map_toArray, List.map_cons, List.map_nil]); first | done | rfl) ?_; refine (hp _ _).mono ?_; rintro e W3 ⟨rfl, hB3⟩; rw [hpb]; refine ⟨_, rfl, ?_⟩))
        go_ret
        refine ⟨?_, hB.trans ((HB1.out.trans (hB3.mono HB1.out.size)).mono hB.size)⟩
        have : allB p s = false := by
          unfold allB
          rw [List.all_eq_false]
          have hl : i < s.data.toList.length := by omega
          refine ⟨s.data.toList[i], List.getElem_mem hl, ?_⟩
          rw [List.getD_eq_getElem?_getD, List.getElem?_eq_getElem hl] at hbe
          simp only [Option.getD_some] at hbe
          rw [hbe, hpb]; simp
        rw [this]; rfl
    · have b0 : decide ((i : Int) < (s.size : Int)) = false := decide_eq_false (by omega)
      go_wp2
      go_ret
      refine ⟨?_, hB.trans (HB1.out.mono hB.size)⟩
      have : allB p s = true := by
        unfold allB
        rw [List.all_eq_true]
        intro x hx
        obtain ⟨j, hj, rfl⟩ := List.mem_iff_getElem.1 hx
        have := hall j (by omega)
        rw [List.getD_eq_getElem?_getD, List.getElem?_eq_getElem hj] at this
        exact this
      rw [this]; rfl
def isDigit (c : UInt8) : Bool := decide (48 ≤ c.toNat) && decide (c.toNat ≤ 57)
theorem digit_gives (c : UInt8) (W : World) : Calls Tryd.prog 91 #[.int .u8 c.toNat] W fun e W1 => e = .returned (.bool (isDigit c)) ∧ W1 = W := by
  go_enter Tryd.func91, Tryd.ntmps91
  by_cases h : 48 ≤ c.toNat
  · have h1 : (decide ((48 : Int) ≤ (c.toNat : Int))) = true := decide_eq_true (by omega)
    by_cases h2 : c.toNat ≤ 57
    · have h3 : (decide ((c.toNat : Int) ≤ 57)) = true := decide_eq_true (by omega)
      go_wp2; go_ret
      refine ⟨?_, rfl⟩
      unfold isDigit; simp [h, h2]
    · have h3 : (decide ((c.toNat : Int) ≤ 57)) = false := decide_eq_false (by omega)
      go_wp2; go_ret
      refine ⟨?_, rfl⟩
      unfold isDigit; simp [h, h2]
  · have h1 : (decide ((48 : Int) ≤ (c.toNat : Int))) = false := decide_eq_false (by omega)
    go_wp2; go_ret
    refine ⟨?_, rfl⟩
    unfold isDigit; simp [h]
end Go.Proofs.YtmmbedlegmbppaaDoor.X
