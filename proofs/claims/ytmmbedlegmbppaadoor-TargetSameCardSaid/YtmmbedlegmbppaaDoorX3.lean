/- ascii's Digits and Lower: what each tells. -/
import Derived.Test.YtmmbedlegmbppaaDoorX2
import Derived.Laws.IdiomStrings
namespace Go.Proofs.YtmmbedlegmbppaaDoor.X
open Go.RowKit Go.Shelf
set_option linter.unusedVariables false
set_option linter.unusedSimpArgs false
theorem min2_i (k k' : IntKind) (x y : Int) : Builtin.min2 (.int k x) (.int k' y) = pure (.int k (if y < x then y else x)) := by simp only [Builtin.min2]
theorem min_two' (ats : Array TypeId) (ty : TypeId) (a b : Value) : Builtin.min_ ats ty #[a, b] = (Builtin.min2 a b >>= fun s => pure s) := by simp only [Builtin.min_, List.foldlM_cons, List.foldlM_nil]
attribute [local go_sem] min2_i min_two'
def dstep (n : Int) (c : UInt8) : Int := if 2147483648 < 10 * n + ((c.toNat : Int) - 48) then 2147483648 else 10 * n + ((c.toNat : Int) - 48)
def digs (l : List UInt8) : Int := l.foldl dstep 0
theorem allB_get {p : UInt8 → Bool} {s : ByteArray} (h : allB p s = true) (i : Nat) (hi : i < s.size) : p (s.data.toList.getD i 0) = true := by
  unfold allB at h
  rw [List.all_eq_true] at h
  have hl : i < s.data.toList.length := by rw [Array.length_toList]; exact hi
  rw [List.getD_eq_getElem?_getD, List.getElem?_eq_getElem hl]
  exact h _ (List.getElem_mem hl)
theorem isDigit_bd {c : UInt8} (h : isDigit c = true) : 48 ≤ c.toNat ∧ c.toNat ≤ 57 := by unfold isDigit at h; simp at h; omega
theorem dstep_bd {n : Int} {c : UInt8} (h : 0 ≤ n ∧ n ≤ 2147483648) (hc : isDigit c = true) : 0 ≤ dstep n c ∧ dstep n c ≤ 2147483648 := by
  have := isDigit_bd hc
  unfold dstep; split <;> omega
theorem take_succ_getD (l : List UInt8) (i : Nat) (hi : i < l.length) : l.take (i + 1) = l.take i ++ [l.getD i 0] := by
  rw [List.take_add_one, List.getElem?_eq_getElem hi, List.getD_eq_getElem?_getD, List.getElem?_eq_getElem hi]; rfl
theorem digs_bd {s : ByteArray} (h : allB isDigit s = true) : ∀ i, i ≤ s.size → 0 ≤ digs (s.data.toList.take i) ∧ digs (s.data.toList.take i) ≤ 2147483648 := by
  intro i
  induction i with
  | zero => intro _; simp [digs]
  | succ i ih =>
    intro hi
    have hl : i < s.data.toList.length := by rw [Array.length_toList]; exact hi
    rw [take_succ_getD _ _ hl]
    unfold digs
    rw [List.foldl_append]
    exact dstep_bd (ih (by omega)) (allB_get h i hi)
def ascii_Digits.f (a0 : ByteArray) : Option (Int × Bool) := if a0.size ≤ 9223372036854775807 then some (if a0.toList = [] then (0, false) else if allB isDigit a0 = true then (digs a0.data.toList, true) else (0, false)) else none
set_option maxHeartbeats 4000000 in
set_option maxRecDepth 100000 in
theorem ascii_Digits.calls (a0 : ByteArray) (r1 : Int) (r2 : Bool) (w : World) (h : ascii_Digits.f a0 = some (r1, r2)) :
    Calls Tryd.prog 59 #[.string a0] w fun e w1 => e = .returned (.tuple #[.int .i64 r1, .bool r2]) ∧ Below w.heap.size w w1 := by
  unfold ascii_Digits.f at h
  split at h
  case isFalse => cases h
  case isTrue hs =>
  have hr := Option.some.inj h
  clear h
  have hB0 := Below.refl w.heap.size w
  have hlen : a0.data.toList.length = a0.size := Array.length_toList
  go_enter Tryd.func59, Tryd.ntmps59
  by_cases h0 : a0.toList = []
  · rw [if_pos h0] at hr
    obtain ⟨rfl, rfl⟩ := Prod.mk.inj hr
    go_wp2
    go_ret2; exact ⟨rfl, hB0⟩
  · rw [if_neg h0] at hr
    have h2 : a0.toList.isEmpty = false := by cases hh : a0.toList with
      | nil => exact absurd hh h0
      | cons _ _ => rfl
    have hd := digs_bd (s := a0)
    cases ha : allB isDigit a0 with
    | false =>
      rw [ha, if_neg (by decide)] at hr
      obtain ⟨rfl, rfl⟩ := Prod.mk.inj hr
      go_wp2_with (go_at_call 89; refine (ascii_all 91 _ Tryd.func91 (by kernel_rfl) rfl isDigit (to_below digit_gives) a0 hs _).mono ?_; rintro e w1 ⟨rfl, hB⟩; rw [ha])
      go_ret2; exact ⟨rfl, hB⟩
    | true =>
      rw [ha, if_pos rfl] at hr
      obtain ⟨rfl, rfl⟩ := Prod.mk.inj hr
      have hD := fun i hi => isDigit_bd (allB_get ha i hi)
      have hbd := hd ha
      go_wp2_with (first | (go_at_call 89; refine (ascii_all 91 _ Tryd.func91 (by kernel_rfl) rfl isDigit (to_below digit_gives) a0 hs _).mono ?_; rintro e w0 ⟨rfl, hB1⟩; rw [ha]) | ((with_reducible refine gate_dst (N := 15) rfl ?_); refine bytes_step rfl 9 46 5 (.tmp 14) rfl a0 rfl Tryd.underlying9 Tryd.underlying46 Tryd.underlying5 ?_; intro c W1 hcell hB hsz))
      go_loopg [4, 17] a0.size (fun kq v4 v17 w' => ∃ i : Nat, v17 = .int .i64 (i : Int) ∧ v4 = .int .i64 (digs (a0.data.toList.take i)) ∧ i + kq = a0.size ∧ Hid (Below W1.heap.size W1 w'))
      case atStart => exact ⟨0, rfl, rfl, by omega, ⟨Below.refl _ _⟩⟩
      case round =>
        obtain ⟨i, rfl, rfl, hk, HB1⟩ := hrel
        by_cases hi : i < a0.size
        · have hi' : (i : Int) < (a0.size : Int) := by omega
          have b0 : decide ((i : Int) < (a0.size : Int)) = true := decide_eq_true hi'
          have hc := (HB1.out.cell (World.block_lt_of_cell? W1 _ (hcell i hi))).trans (hcell i hi)
          cases gk with
          | zero => omega
          | succ k1 =>
          have n0 : (0 : Int) ≤ (i : Int) := by omega
          have n1 := eq_true n0
          have n2 := eq_true hi'
          obtain ⟨d1, d2⟩ := hD i hi
          obtain ⟨b1, b2⟩ := hbd i (by omega)
          have hnext : digs (a0.data.toList.take (i + 1)) = dstep (digs (a0.data.toList.take i)) (a0.data.toList.getD i 0) := by
            rw [take_succ_getD _ _ (by omega)]; unfold digs; rw [List.foldl_append]; rfl
          obtain ⟨b, hbe⟩ : ∃ b, a0.data.toList.getD i 0 = b := ⟨_, rfl⟩
          rw [hbe] at hc hnext d1 d2
          obtain ⟨n, hn⟩ : ∃ n, digs (a0.data.toList.take i) = n := ⟨_, rfl⟩
          rw [hn] at hnext b1 b2 ⊢
          clear hcell
          go_wp2
          all_goals
            go_roundg k1
            case measure => omega
            case rel =>
              refine ⟨i + 1, by simp, ?_, by omega, ⟨HB1.out⟩⟩
              rw [hnext]
              unfold dstep
              first
              | rw [if_pos (by omega)]
              | rw [if_neg (by omega)]
        · have b0 : decide ((i : Int) < (a0.size : Int)) = false := decide_eq_false (by omega)
          obtain rfl : i = a0.size := by omega
          go_wp2
          go_ret2
          refine ⟨?_, (hB1.trans (hB.mono hB1.size)).trans (HB1.out.mono (Nat.le_trans hB1.size hB.size))⟩
          rw [List.take_of_length_le (by omega)]
          rfl
section
variable {P : Program} {ops : Array Oper} {rest : List Oper} {o : Oper} {a : Act} {Q : Exit → Act → World → Prop} {W : World}
/-- '[]byte(s)', with what a store into it asks. -/
theorem bytes_step2 (hgd : o.guard = none) (src dst e : TypeId) (x : Operand) (ho : o.op = .convert src dst x) (s : ByteArray)
    (hx : a.eval x = .string s) (hs : P.underlying src = some .string) (hd : P.underlying dst = some (.slice e)) (he : P.underlying e = some (.int .u8))
    (h : ∀ (c : Nat) (W1 : World), (∀ j, j < s.size → W1.cell? ⟨W.heap.size, j, none⟩ = some (.int .u8 (s.data.toList.getD j 0).toNat)) → (∀ j, j < s.size → W1.frozen? ⟨W.heap.size, j, none⟩ = false) → Below W.heap.size W W1 → W1.heap.size = W.heap.size + 1 → wpList P ops Q rest (a.put o.dst (.slice (some ⟨W.heap.size, 0, none⟩) s.size c)) W1) : wpList P ops Q (o :: rest) a W := by
  have hrun : (execOp a.eval o).run P W = .ok (.value (.slice (some ⟨W.heap.size, 0, none⟩) s.size (grownCap W s.size 0 e))) (Lib.bytesWorld W e s) := by
    have := Lib.run_convert_string_bytes (P := P) W src dst e s hs hd he
    unfold execOp
    simp [ho, hx, this]
  refine event_run hgd hrun (h _ _ (fun j hj => Lib.bytesWorld_cell W e s j hj) (fun j hj => ?_) ⟨by simp [Lib.bytesWorld, World.freeze, World.alloc, World.drew, -World.alloc_eq, -World.drew_eq], by simp [Lib.bytesWorld, World.freeze, World.alloc, World.drew, -World.alloc_eq, -World.drew_eq], by simp [Lib.bytesWorld, World.freeze, World.alloc, World.drew, -World.alloc_eq, -World.drew_eq], by rw [Lib.bytesWorld_size]; omega, fun k hk => Lib.bytesWorld_at_old W e s k hk⟩ (Lib.bytesWorld_size W e s))
  unfold World.frozen?
  rw [Lib.bytesWorld_at_new]
  have : s.size ≤ (Lib.bytesCells W e s).size := by
    have h1 : s.data.size = s.size := rfl
    unfold Lib.bytesCells
    simp only [Array.size_append, Array.size_map, Array.size_replicate]
    omega
  simp only [Bool.and_eq_false_iff, decide_eq_false_iff_not]
  left; omega
/-- 'string(b)' as one step. -/
theorem str_step (hgd : o.guard = none) (src dst e : TypeId) (x : Operand) (ho : o.op = .convert src dst x) (g : Addr) (n c : Nat) (l : List UInt8) (hn : l.length = n)
    (hx : a.eval x = .slice (some g) n c) (hs : P.underlying src = some (.slice e)) (he : P.underlying e = some (.int .u8)) (hd : P.underlying dst = some .string)
    (hc : ∀ j (hj : j < l.length), W.cell? (g.add j) = some (.int .u8 (l[j].toNat : Int)))
    (h : wpList P ops Q rest (a.put o.dst (.string ⟨l.toArray⟩)) W) : wpList P ops Q (o :: rest) a W := by
  subst hn
  have hrun : (execOp a.eval o).run P W = .ok (.value (.string ⟨l.toArray⟩)) W := by
    have := run_convert_bytes_back (P := P) W src dst e g c l hs he hd hc
    unfold execOp
    simp [ho, hx, this]
  exact event_run hgd hrun h
end
def lowB (c : UInt8) : UInt8 := if 65 ≤ c.toNat ∧ c.toNat ≤ 90 then UInt8.ofNat (c.toNat + 32) else c
theorem lowB_yes {c : UInt8} (h : 65 ≤ c.toNat) (h' : c.toNat ≤ 90) : ((lowB c).toNat : Int) = (c.toNat : Int) + 32 := by
  unfold lowB; rw [if_pos ⟨h, h'⟩]; simp; omega
theorem lowB_no {c : UInt8} (h : ¬ (65 ≤ c.toNat ∧ c.toNat ≤ 90)) : lowB c = c := by unfold lowB; rw [if_neg h]
def ascii_Lower.f (a0 : ByteArray) : Option ByteArray := if a0.size ≤ 9223372036854775807 then some ⟨(a0.data.toList.map lowB).toArray⟩ else none
set_option maxHeartbeats 4000000 in
set_option maxRecDepth 100000 in
theorem ascii_Lower.calls (a0 : ByteArray) (r : ByteArray) (w : World) (h : ascii_Lower.f a0 = some r) :
    Calls Tryd.prog 44 #[.string a0] w fun e w1 => e = .returned (.string r) ∧ Below w.heap.size w w1 := by
  unfold ascii_Lower.f at h
  split at h
  case isFalse => cases h
  case isTrue hs =>
  have hr := Option.some.inj h
  clear h
  have hlen : a0.data.toList.length = a0.size := Array.length_toList
  generalize hl : a0.data.toList.map lowB = ll at hr
  have hll : ll.length = a0.size := by rw [← hl, List.length_map]; exact hlen
  have hlg : ∀ j, j < a0.size → ll.getD j 0 = lowB (a0.data.toList.getD j 0) := by
    intro j hj
    rw [← hl, List.getD_eq_getElem?_getD, List.getD_eq_getElem?_getD, List.getElem?_map, List.getElem?_eq_getElem (by omega)]; rfl
  clear hl
  generalize hg : a0.data.toList = l0 at *
  go_enter Tryd.func44, Tryd.ntmps44
  go_wp2_with (first | ((with_reducible refine gate_dst (N := 7) rfl ?_); refine bytes_step2 rfl 9 46 5 (.tmp 6) rfl a0 rfl Tryd.underlying9 Tryd.underlying46 Tryd.underlying5 ?_; rw [hg]; intro c W1 hcell hfz hB hsz))
  go_loopg [10] a0.size (fun kq v10 w' => ∃ i : Nat, v10 = .int .i64 (i : Int) ∧ i + kq = a0.size ∧ Hid (∀ j, j < a0.size → w'.cell? ⟨w.heap.size, j, none⟩ = some (.int .u8 (if j < i then ll.getD j 0 else l0.getD j 0).toNat)) ∧ Hid (∀ j, j < a0.size → w'.frozen? ⟨w.heap.size, j, none⟩ = false) ∧ Hid (Below w.heap.size w w'))
  case atStart => exact ⟨0, rfl, by omega, ⟨fun j hj => by rw [if_neg (by omega)]; exact hcell j hj⟩, ⟨hfz⟩, ⟨hB⟩⟩
  case round =>
    obtain ⟨i, rfl, hk, HC, HF, HB⟩ := hrel
    by_cases hi : i < a0.size
    · have hi' : (i : Int) < (a0.size : Int) := by omega
      have b0 : decide ((i : Int) < (a0.size : Int)) = true := decide_eq_true hi'
      have hc := HC.out i hi
      have hf := HF.out i hi
      rw [if_neg (by omega)] at hc
      cases gk with
      | zero => omega
      | succ k1 =>
      have n0 : (0 : Int) ≤ (i : Int) := by omega
      have n1 := eq_true n0
      have n2 := eq_true hi'
      have hlow := hlg i hi
      generalize hb : l0.getD i 0 = b at hc hlow
      clear hcell hfz
      have bb := b.toNat_lt
      by_cases h1 : 65 ≤ b.toNat
      · have e1 : decide ((65 : Int) ≤ (b.toNat : Int)) = true := decide_eq_true (by omega)
        by_cases h2 : b.toNat ≤ 90
        · have e2 : decide ((b.toNat : Int) ≤ 90) = true := decide_eq_true (by omega)
          go_wp2
          go_roundg k1
          case measure => omega
          case rel =>
            refine ⟨i + 1, by simp, by omega, ⟨fun j hj => ?_⟩, ⟨fun j hj => ?_⟩, ⟨HB.out.setCell (Nat.le_refl _) _⟩⟩
            · by_cases hji : j = i
              · subst hji
                rw [World.cell?_setCell_same (h := hc), if_pos (by omega), hlow, lowB_yes h1 h2]
                congr 2; omega
              · rw [World.cell?_setCell_other (h := by intro h; injection h with _ h; omega), HC.out j hj]
                by_cases hlt : j < i
                · rw [if_pos hlt, if_pos (by omega)]
                · rw [if_neg hlt, if_neg (by omega)]
            · rw [World.frozen?_setCell]; exact HF.out j hj
        · have e2 : decide ((b.toNat : Int) ≤ 90) = false := decide_eq_false (by omega)
          go_wp2
          go_roundg k1
          case measure => omega
          case rel =>
            refine ⟨i + 1, by simp, by omega, ⟨fun j hj => ?_⟩, HF, HB⟩
            rw [HC.out j hj]
            by_cases hlt : j < i
            · rw [if_pos hlt, if_pos (by omega)]
            · rw [if_neg hlt]
              by_cases hji : j = i
              · subst hji
                rw [if_pos (by omega), hlow, lowB_no (by omega), hb]
              · rw [if_neg (by omega)]
      · have e1 : decide ((65 : Int) ≤ (b.toNat : Int)) = false := decide_eq_false (by omega)
        go_wp2
        go_roundg k1
        case measure => omega
        case rel =>
          refine ⟨i + 1, by simp, by omega, ⟨fun j hj => ?_⟩, HF, HB⟩
          rw [HC.out j hj]
          by_cases hlt : j < i
          · rw [if_pos hlt, if_pos (by omega)]
          · rw [if_neg hlt]
            by_cases hji : j = i
            · subst hji
              rw [if_pos (by omega), hlow, lowB_no (by omega), hb]
            · rw [if_neg (by omega)]
    · have b0 : decide ((i : Int) < (a0.size : Int)) = false := decide_eq_false (by omega)
      obtain rfl : i = a0.size := by omega
      have hfin : ∀ j (hj : j < ll.length), wr.cell? ((⟨w.heap.size, 0, none⟩ : Addr).add j) = some (.int .u8 (ll[j].toNat : Int)) := by
        intro j hj
        have := HC.out j (by omega)
        rw [if_pos (by omega), List.getD_eq_getElem?_getD, List.getElem?_eq_getElem hj] at this
        have e : (⟨w.heap.size, 0, none⟩ : Addr).add j = ⟨w.heap.size, j, none⟩ := by
          unfold Addr.add
          by_cases h : j = 0 <;> simp [h]
        rw [e]
        exact this
      go_wp2_with (first | ((with_reducible refine gate_dst (N := 29) rfl ?_); refine str_step rfl _ _ _ (.tmp 28) rfl ⟨w.heap.size, 0, none⟩ a0.size c ll hll rfl Tryd.underlying46 Tryd.underlying5 Tryd.underlying9 hfin ?_))
      go_ret
      exact ⟨by rw [← hr]; rfl, HB.out⟩
end Go.Proofs.YtmmbedlegmbppaaDoor.X
