/- A name in great letters: the part of TargetSame that stores into a name's bytes, by hand. -/
import Derived.Test.YtmmbedlegmbppaaDoorRT
import Derived.Test.YtmmbedlegmbppaaDoorX3
namespace Go.Proofs.YtmmbedlegmbppaaDoor.R
open Go Go.RowKit
open Go.Proofs.YtmmbedlegmbppaaDoor.X (gate_dst event_run)
set_option linter.unusedVariables false
section
variable {P : Program} {ops : Array Oper} {rest : List Oper} {o : Oper} {a : Act} {Q : Exit → Act → World → Prop} {W : World}
/-- '[]byte(s)', with what a store into it asks. -/
theorem bytes_step3 (hgd : o.guard = none) (src dst e : TypeId) (x : Operand) (ho : o.op = .convert src dst x) (s : ByteArray)
    (hx : a.eval x = .string s) (hs : P.underlying src = some .string) (hd : P.underlying dst = some (.slice e)) (he : P.underlying e = some (.int .u8))
    (hsm : s.size ≤ maxLen) (h : ∀ (c : Nat) (W1 : World), s.size ≤ c → c ≤ maxLen → (∀ j, j < s.size → W1.cell? ⟨W.heap.size, j, none⟩ = some (.int .u8 (s.data.toList.getD j 0).toNat)) → (∀ j, j < s.size → W1.frozen? ⟨W.heap.size, j, none⟩ = false) → Below W.heap.size W W1 → W1.heap.size = W.heap.size + 1 → wpList P ops Q rest (a.put o.dst (.slice (some ⟨W.heap.size, 0, none⟩) s.size c)) W1) : wpList P ops Q (o :: rest) a W := by
  have hrun : (execOp a.eval o).run P W = .ok (.value (.slice (some ⟨W.heap.size, 0, none⟩) s.size (grownCap W s.size 0 e))) (Lib.bytesWorld W e s) := by
    have := Lib.run_convert_string_bytes (P := P) W src dst e s hs hd he
    unfold execOp
    simp [ho, hx, this]
  refine event_run hgd hrun (h _ _ (grownCap_ge W s.size 0 e) (grownCap_le_maxLen W s.size 0 e hsm) (fun j hj => Lib.bytesWorld_cell W e s j hj) (fun j hj => ?_) ⟨by simp [Lib.bytesWorld, World.freeze, World.alloc, World.drew, -World.alloc_eq, -World.drew_eq], by simp [Lib.bytesWorld, World.freeze, World.alloc, World.drew, -World.alloc_eq, -World.drew_eq], by simp [Lib.bytesWorld, World.freeze, World.alloc, World.drew, -World.alloc_eq, -World.drew_eq], by rw [Lib.bytesWorld_size]; omega, fun k hk => Lib.bytesWorld_at_old W e s k hk⟩ (Lib.bytesWorld_size W e s))
  unfold World.frozen?
  rw [Lib.bytesWorld_at_new]
  have : s.size ≤ (Lib.bytesCells W e s).size := by
    have h1 : s.data.size = s.size := rfl
    unfold Lib.bytesCells
    simp only [Array.size_append, Array.size_map, Array.size_replicate]
    omega
  simp only [Bool.and_eq_false_iff, decide_eq_false_iff_not]
  left; omega
end
def sR : Code → Code
  | .seq _ b => b
  | c => c
def sL : Code → Code
  | .seq a _ => a
  | c => c
noncomputable def greatTail : Code := sR (sR (sR (sR (sR ((Tryd.prog.funcs[9]?.bind fun f => f.body).getD .skip)))))
theorem great_of {P : Program} {n : Nat} {fn : Func} {body : Code} (hf : P.funcs[n]? = some fn) (hb : fn.body = some body) : sR (sR (sR (sR (sR ((P.funcs[n]?.bind fun f => f.body).getD .skip))))) = sR (sR (sR (sR (sR body)))) := by
  rw [hf]; simp [hb]
def lessC (c : UInt8) : UInt8 := c - 32
theorem lessC_is (c : UInt8) : ((c.toNat : Int) - 32) % 256 = ((lessC c).toNat : Int) := by
  have : ∀ n : Fin 256, ((n.val : Int) - 32) % 256 = ((lessC (UInt8.ofNat n.val)).toNat : Int) := by decide +kernel
  have h := this ⟨c.toNat, c.toNat_lt⟩
  simpa only [UInt8.ofNat_toNat] using h
def greatPartF (k : Nat) (x : ByteArray) : Option (List Int) := if x.size ≤ 1000 then some ((x.data.toList.map lessC).map fun c => (c.toNat : Int)) else none
noncomputable def greatPart : GSpec where
  code := sL greatTail
  then_ := sL (sR greatTail)
  m := 0
  a := .str
  d := 9
  res := .sl 5 (.int .u8)
  clob := [10, 56, 57, 58, 59, 60, 61, 62, 63, 64, 65, 66, 67, 68, 69, 70, 71]
  size := 142
  F := greatPartF
set_option maxRecDepth 100000 in
set_option maxHeartbeats 8000000 in
theorem great_sound : GSpec.Sound P T greatPart := by
  intro k (x : ByteArray) (y : List Int) hy Φ a w Q hT hfz hdef hsize hm hK
  obtain ⟨t, ds⟩ := a
  obtain rfl : ds = [] := hdef
  obtain ⟨l⟩ := t
  have hl : l.length = 142 := hsize
  obtain _ | ⟨t0, l⟩ := l
  · simp at hl
  obtain _ | ⟨t1, l⟩ := l
  · simp at hl
  obtain _ | ⟨t2, l⟩ := l
  · simp at hl
  obtain _ | ⟨t3, l⟩ := l
  · simp at hl
  obtain _ | ⟨t4, l⟩ := l
  · simp at hl
  obtain _ | ⟨t5, l⟩ := l
  · simp at hl
  obtain _ | ⟨t6, l⟩ := l
  · simp at hl
  obtain _ | ⟨t7, l⟩ := l
  · simp at hl
  obtain _ | ⟨t8, l⟩ := l
  · simp at hl
  obtain _ | ⟨t9, l⟩ := l
  · simp at hl
  obtain _ | ⟨t10, l⟩ := l
  · simp at hl
  obtain _ | ⟨t11, l⟩ := l
  · simp at hl
  obtain _ | ⟨t12, l⟩ := l
  · simp at hl
  obtain _ | ⟨t13, l⟩ := l
  · simp at hl
  obtain _ | ⟨t14, l⟩ := l
  · simp at hl
  obtain _ | ⟨t15, l⟩ := l
  · simp at hl
  obtain _ | ⟨t16, l⟩ := l
  · simp at hl
  obtain _ | ⟨t17, l⟩ := l
  · simp at hl
  obtain _ | ⟨t18, l⟩ := l
  · simp at hl
  obtain _ | ⟨t19, l⟩ := l
  · simp at hl
  obtain _ | ⟨t20, l⟩ := l
  · simp at hl
  obtain _ | ⟨t21, l⟩ := l
  · simp at hl
  obtain _ | ⟨t22, l⟩ := l
  · simp at hl
  obtain _ | ⟨t23, l⟩ := l
  · simp at hl
  obtain _ | ⟨t24, l⟩ := l
  · simp at hl
  obtain _ | ⟨t25, l⟩ := l
  · simp at hl
  obtain _ | ⟨t26, l⟩ := l
  · simp at hl
  obtain _ | ⟨t27, l⟩ := l
  · simp at hl
  obtain _ | ⟨t28, l⟩ := l
  · simp at hl
  obtain _ | ⟨t29, l⟩ := l
  · simp at hl
  obtain _ | ⟨t30, l⟩ := l
  · simp at hl
  obtain _ | ⟨t31, l⟩ := l
  · simp at hl
  obtain _ | ⟨t32, l⟩ := l
  · simp at hl
  obtain _ | ⟨t33, l⟩ := l
  · simp at hl
  obtain _ | ⟨t34, l⟩ := l
  · simp at hl
  obtain _ | ⟨t35, l⟩ := l
  · simp at hl
  obtain _ | ⟨t36, l⟩ := l
  · simp at hl
  obtain _ | ⟨t37, l⟩ := l
  · simp at hl
  obtain _ | ⟨t38, l⟩ := l
  · simp at hl
  obtain _ | ⟨t39, l⟩ := l
  · simp at hl
  obtain _ | ⟨t40, l⟩ := l
  · simp at hl
  obtain _ | ⟨t41, l⟩ := l
  · simp at hl
  obtain _ | ⟨t42, l⟩ := l
  · simp at hl
  obtain _ | ⟨t43, l⟩ := l
  · simp at hl
  obtain _ | ⟨t44, l⟩ := l
  · simp at hl
  obtain _ | ⟨t45, l⟩ := l
  · simp at hl
  obtain _ | ⟨t46, l⟩ := l
  · simp at hl
  obtain _ | ⟨t47, l⟩ := l
  · simp at hl
  obtain _ | ⟨t48, l⟩ := l
  · simp at hl
  obtain _ | ⟨t49, l⟩ := l
  · simp at hl
  obtain _ | ⟨t50, l⟩ := l
  · simp at hl
  obtain _ | ⟨t51, l⟩ := l
  · simp at hl
  obtain _ | ⟨t52, l⟩ := l
  · simp at hl
  obtain _ | ⟨t53, l⟩ := l
  · simp at hl
  obtain _ | ⟨t54, l⟩ := l
  · simp at hl
  obtain _ | ⟨t55, l⟩ := l
  · simp at hl
  obtain _ | ⟨t56, l⟩ := l
  · simp at hl
  obtain _ | ⟨t57, l⟩ := l
  · simp at hl
  obtain _ | ⟨t58, l⟩ := l
  · simp at hl
  obtain _ | ⟨t59, l⟩ := l
  · simp at hl
  obtain _ | ⟨t60, l⟩ := l
  · simp at hl
  obtain _ | ⟨t61, l⟩ := l
  · simp at hl
  obtain _ | ⟨t62, l⟩ := l
  · simp at hl
  obtain _ | ⟨t63, l⟩ := l
  · simp at hl
  obtain _ | ⟨t64, l⟩ := l
  · simp at hl
  obtain _ | ⟨t65, l⟩ := l
  · simp at hl
  obtain _ | ⟨t66, l⟩ := l
  · simp at hl
  obtain _ | ⟨t67, l⟩ := l
  · simp at hl
  obtain _ | ⟨t68, l⟩ := l
  · simp at hl
  obtain _ | ⟨t69, l⟩ := l
  · simp at hl
  obtain _ | ⟨t70, l⟩ := l
  · simp at hl
  obtain _ | ⟨t71, l⟩ := l
  · simp at hl
  obtain _ | ⟨t72, l⟩ := l
  · simp at hl
  obtain _ | ⟨t73, l⟩ := l
  · simp at hl
  obtain _ | ⟨t74, l⟩ := l
  · simp at hl
  obtain _ | ⟨t75, l⟩ := l
  · simp at hl
  obtain _ | ⟨t76, l⟩ := l
  · simp at hl
  obtain _ | ⟨t77, l⟩ := l
  · simp at hl
  obtain _ | ⟨t78, l⟩ := l
  · simp at hl
  obtain _ | ⟨t79, l⟩ := l
  · simp at hl
  obtain _ | ⟨t80, l⟩ := l
  · simp at hl
  obtain _ | ⟨t81, l⟩ := l
  · simp at hl
  obtain _ | ⟨t82, l⟩ := l
  · simp at hl
  obtain _ | ⟨t83, l⟩ := l
  · simp at hl
  obtain _ | ⟨t84, l⟩ := l
  · simp at hl
  obtain _ | ⟨t85, l⟩ := l
  · simp at hl
  obtain _ | ⟨t86, l⟩ := l
  · simp at hl
  obtain _ | ⟨t87, l⟩ := l
  · simp at hl
  obtain _ | ⟨t88, l⟩ := l
  · simp at hl
  obtain _ | ⟨t89, l⟩ := l
  · simp at hl
  obtain _ | ⟨t90, l⟩ := l
  · simp at hl
  obtain _ | ⟨t91, l⟩ := l
  · simp at hl
  obtain _ | ⟨t92, l⟩ := l
  · simp at hl
  obtain _ | ⟨t93, l⟩ := l
  · simp at hl
  obtain _ | ⟨t94, l⟩ := l
  · simp at hl
  obtain _ | ⟨t95, l⟩ := l
  · simp at hl
  obtain _ | ⟨t96, l⟩ := l
  · simp at hl
  obtain _ | ⟨t97, l⟩ := l
  · simp at hl
  obtain _ | ⟨t98, l⟩ := l
  · simp at hl
  obtain _ | ⟨t99, l⟩ := l
  · simp at hl
  obtain _ | ⟨t100, l⟩ := l
  · simp at hl
  obtain _ | ⟨t101, l⟩ := l
  · simp at hl
  obtain _ | ⟨t102, l⟩ := l
  · simp at hl
  obtain _ | ⟨t103, l⟩ := l
  · simp at hl
  obtain _ | ⟨t104, l⟩ := l
  · simp at hl
  obtain _ | ⟨t105, l⟩ := l
  · simp at hl
  obtain _ | ⟨t106, l⟩ := l
  · simp at hl
  obtain _ | ⟨t107, l⟩ := l
  · simp at hl
  obtain _ | ⟨t108, l⟩ := l
  · simp at hl
  obtain _ | ⟨t109, l⟩ := l
  · simp at hl
  obtain _ | ⟨t110, l⟩ := l
  · simp at hl
  obtain _ | ⟨t111, l⟩ := l
  · simp at hl
  obtain _ | ⟨t112, l⟩ := l
  · simp at hl
  obtain _ | ⟨t113, l⟩ := l
  · simp at hl
  obtain _ | ⟨t114, l⟩ := l
  · simp at hl
  obtain _ | ⟨t115, l⟩ := l
  · simp at hl
  obtain _ | ⟨t116, l⟩ := l
  · simp at hl
  obtain _ | ⟨t117, l⟩ := l
  · simp at hl
  obtain _ | ⟨t118, l⟩ := l
  · simp at hl
  obtain _ | ⟨t119, l⟩ := l
  · simp at hl
  obtain _ | ⟨t120, l⟩ := l
  · simp at hl
  obtain _ | ⟨t121, l⟩ := l
  · simp at hl
  obtain _ | ⟨t122, l⟩ := l
  · simp at hl
  obtain _ | ⟨t123, l⟩ := l
  · simp at hl
  obtain _ | ⟨t124, l⟩ := l
  · simp at hl
  obtain _ | ⟨t125, l⟩ := l
  · simp at hl
  obtain _ | ⟨t126, l⟩ := l
  · simp at hl
  obtain _ | ⟨t127, l⟩ := l
  · simp at hl
  obtain _ | ⟨t128, l⟩ := l
  · simp at hl
  obtain _ | ⟨t129, l⟩ := l
  · simp at hl
  obtain _ | ⟨t130, l⟩ := l
  · simp at hl
  obtain _ | ⟨t131, l⟩ := l
  · simp at hl
  obtain _ | ⟨t132, l⟩ := l
  · simp at hl
  obtain _ | ⟨t133, l⟩ := l
  · simp at hl
  obtain _ | ⟨t134, l⟩ := l
  · simp at hl
  obtain _ | ⟨t135, l⟩ := l
  · simp at hl
  obtain _ | ⟨t136, l⟩ := l
  · simp at hl
  obtain _ | ⟨t137, l⟩ := l
  · simp at hl
  obtain _ | ⟨t138, l⟩ := l
  · simp at hl
  obtain _ | ⟨t139, l⟩ := l
  · simp at hl
  obtain _ | ⟨t140, l⟩ := l
  · simp at hl
  obtain _ | ⟨t141, l⟩ := l
  · simp at hl
  obtain _ | ⟨tx, l⟩ := l
  rotate_left
  · simp at hl
  have hT0 : greatTail = sR (sR (sR (sR (sR _)))) := great_of Tryd.func9 rfl
  obtain rfl : t0 = .string x := (List.cons.inj (show [t0] = [Value.string x] from hm)).1
  obtain ⟨hs, hyy⟩ : x.size ≤ 1000 ∧ (x.data.toList.map lessC).map (fun c => (c.toNat : Int)) = y := by
    have h : greatPartF k x = some y := hy
    unfold greatPartF at h
    split at h
    · rename_i hc; exact ⟨hc, Option.some.inj h⟩
    · cases h
  show Code.wp Tryd.prog (sL greatTail) (Exit.then (Code.wp Tryd.prog (sL (sR greatTail)) Q) Q) _ w
  rw [hT0]
  dsimp only [sL, sR]
  clear hm hsize hl hT0
  have hlen : x.data.toList.length = x.size := Array.length_toList
  generalize hll0 : x.data.toList.map lessC = ll at hyy
  have hll : ll.length = x.size := by rw [← hll0, List.length_map]; exact hlen
  have hlg : ∀ j, j < x.size → ll.getD j 0 = lessC (x.data.toList.getD j 0) := by
    intro j hj
    rw [← hll0, List.getD_eq_getElem?_getD, List.getD_eq_getElem?_getD, List.getElem?_map, List.getElem?_eq_getElem (by omega)]; rfl
  clear hll0
  generalize hg : x.data.toList = l0 at *
  go_wp2_with (first
    | ((with_reducible refine gate_dst (N := 57) rfl ?_); refine bytes_step3 rfl 9 46 5 (.tmp 56) rfl x rfl Tryd.underlying9 Tryd.underlying46 Tryd.underlying5 (by unfold maxLen; omega) ?_; rw [hg]; intro c W1 hc1 hc2 hcell hfzz hB hsz)
    | go_in)
  go_loopg [10] x.size (fun kq v10 w' => ∃ i : Nat, v10 = .int .i64 (i : Int) ∧ i + kq = x.size ∧ X.Hid (∀ j, j < x.size → w'.cell? ⟨w.heap.size, j, none⟩ = some (.int .u8 (if j < i then ll.getD j 0 else l0.getD j 0).toNat)) ∧ X.Hid (∀ j, j < x.size → w'.frozen? ⟨w.heap.size, j, none⟩ = false) ∧ X.Hid (Below w.heap.size w w'))
  case atStart => exact ⟨0, rfl, by omega, ⟨fun j hj => by rw [if_neg (by omega)]; exact hcell j hj⟩, ⟨hfzz⟩, ⟨hB⟩⟩
  case round =>
    obtain ⟨i, rfl, hk, HC, HF, HB⟩ := hrel
    by_cases hi : i < x.size
    · have hi' : (i : Int) < (x.size : Int) := by omega
      have b0 : decide ((i : Int) < (x.size : Int)) = true := decide_eq_true hi'
      have hc := HC.out i hi
      have hf := HF.out i hi
      rw [if_neg (by omega)] at hc
      cases gk with
      | zero => omega
      | succ k1 =>
      have n0 : (0 : Int) ≤ (i : Int) := by omega
      have n1 := eq_true n0
      have n2 := eq_true hi'
      have hlow := hlg i hi
      generalize hb : l0.getD i 0 = b at hc hlow
      clear hcell hfzz
      have bb := b.toNat_lt
      go_wp2
      go_roundg k1
      case measure => omega
      case rel =>
        refine ⟨i + 1, by simp, by omega, ⟨fun j hj => ?_⟩, ⟨fun j hj => ?_⟩, ⟨HB.out.setCell (Nat.le_refl _) _⟩⟩
        · by_cases hji : j = i
          · subst hji
            rw [World.cell?_setCell_same (h := hc), if_pos (by omega), hlow, ← lessC_is b]
          · rw [World.cell?_setCell_other (h := by intro h; injection h with _ h; omega), HC.out j hj]
            by_cases hlt : j < i
            · rw [if_pos hlt, if_pos (by omega)]
            · rw [if_neg hlt, if_neg (by omega)]
        · rw [World.frozen?_setCell]; exact HF.out j hj
    · have hi' : ¬ (i : Int) < (x.size : Int) := by omega
      have b0 : decide ((i : Int) < (x.size : Int)) = false := decide_eq_false hi'
      obtain rfl : i = x.size := by omega
      go_wp2
      refine hK _ _ (.slice (some ⟨w.heap.size, 0, none⟩) x.size c) (fun b i => Φ b i ∨ (b = w.heap.size ∧ i < x.size)) rfl rfl ?_ rfl HB.out (fun _ _ h => .inl h) ?_ ?_ ?_
      · intro t ht
        obtain _ | t := t
        · first | rfl | exact absurd (by simp [greatPart]) ht
        obtain _ | t := t
        · first | rfl | exact absurd (by simp [greatPart]) ht
        obtain _ | t := t
        · first | rfl | exact absurd (by simp [greatPart]) ht
        obtain _ | t := t
        · first | rfl | exact absurd (by simp [greatPart]) ht
        obtain _ | t := t
        · first | rfl | exact absurd (by simp [greatPart]) ht
        obtain _ | t := t
        · first | rfl | exact absurd (by simp [greatPart]) ht
        obtain _ | t := t
        · first | rfl | exact absurd (by simp [greatPart]) ht
        obtain _ | t := t
        · first | rfl | exact absurd (by simp [greatPart]) ht
        obtain _ | t := t
        · first | rfl | exact absurd (by simp [greatPart]) ht
        obtain _ | t := t
        · first | rfl | exact absurd (by simp [greatPart]) ht
        obtain _ | t := t
        · first | rfl | exact absurd (by simp [greatPart]) ht
        obtain _ | t := t
        · first | rfl | exact absurd (by simp [greatPart]) ht
        obtain _ | t := t
        · first | rfl | exact absurd (by simp [greatPart]) ht
        obtain _ | t := t
        · first | rfl | exact absurd (by simp [greatPart]) ht
        obtain _ | t := t
        · first | rfl | exact absurd (by simp [greatPart]) ht
        obtain _ | t := t
        · first | rfl | exact absurd (by simp [greatPart]) ht
        obtain _ | t := t
        · first | rfl | exact absurd (by simp [greatPart]) ht
        obtain _ | t := t
        · first | rfl | exact absurd (by simp [greatPart]) ht
        obtain _ | t := t
        · first | rfl | exact absurd (by simp [greatPart]) ht
        obtain _ | t := t
        · first | rfl | exact absurd (by simp [greatPart]) ht
        obtain _ | t := t
        · first | rfl | exact absurd (by simp [greatPart]) ht
        obtain _ | t := t
        · first | rfl | exact absurd (by simp [greatPart]) ht
        obtain _ | t := t
        · first | rfl | exact absurd (by simp [greatPart]) ht
        obtain _ | t := t
        · first | rfl | exact absurd (by simp [greatPart]) ht
        obtain _ | t := t
        · first | rfl | exact absurd (by simp [greatPart]) ht
        obtain _ | t := t
        · first | rfl | exact absurd (by simp [greatPart]) ht
        obtain _ | t := t
        · first | rfl | exact absurd (by simp [greatPart]) ht
        obtain _ | t := t
        · first | rfl | exact absurd (by simp [greatPart]) ht
        obtain _ | t := t
        · first | rfl | exact absurd (by simp [greatPart]) ht
        obtain _ | t := t
        · first | rfl | exact absurd (by simp [greatPart]) ht
        obtain _ | t := t
        · first | rfl | exact absurd (by simp [greatPart]) ht
        obtain _ | t := t
        · first | rfl | exact absurd (by simp [greatPart]) ht
        obtain _ | t := t
        · first | rfl | exact absurd (by simp [greatPart]) ht
        obtain _ | t := t
        · first | rfl | exact absurd (by simp [greatPart]) ht
        obtain _ | t := t
        · first | rfl | exact absurd (by simp [greatPart]) ht
        obtain _ | t := t
        · first | rfl | exact absurd (by simp [greatPart]) ht
        obtain _ | t := t
        · first | rfl | exact absurd (by simp [greatPart]) ht
        obtain _ | t := t
        · first | rfl | exact absurd (by simp [greatPart]) ht
        obtain _ | t := t
        · first | rfl | exact absurd (by simp [greatPart]) ht
        obtain _ | t := t
        · first | rfl | exact absurd (by simp [greatPart]) ht
        obtain _ | t := t
        · first | rfl | exact absurd (by simp [greatPart]) ht
        obtain _ | t := t
        · first | rfl | exact absurd (by simp [greatPart]) ht
        obtain _ | t := t
        · first | rfl | exact absurd (by simp [greatPart]) ht
        obtain _ | t := t
        · first | rfl | exact absurd (by simp [greatPart]) ht
        obtain _ | t := t
        · first | rfl | exact absurd (by simp [greatPart]) ht
        obtain _ | t := t
        · first | rfl | exact absurd (by simp [greatPart]) ht
        obtain _ | t := t
        · first | rfl | exact absurd (by simp [greatPart]) ht
        obtain _ | t := t
        · first | rfl | exact absurd (by simp [greatPart]) ht
        obtain _ | t := t
        · first | rfl | exact absurd (by simp [greatPart]) ht
        obtain _ | t := t
        · first | rfl | exact absurd (by simp [greatPart]) ht
        obtain _ | t := t
        · first | rfl | exact absurd (by simp [greatPart]) ht
        obtain _ | t := t
        · first | rfl | exact absurd (by simp [greatPart]) ht
        obtain _ | t := t
        · first | rfl | exact absurd (by simp [greatPart]) ht
        obtain _ | t := t
        · first | rfl | exact absurd (by simp [greatPart]) ht
        obtain _ | t := t
        · first | rfl | exact absurd (by simp [greatPart]) ht
        obtain _ | t := t
        · first | rfl | exact absurd (by simp [greatPart]) ht
        obtain _ | t := t
        · first | rfl | exact absurd (by simp [greatPart]) ht
        obtain _ | t := t
        · first | rfl | exact absurd (by simp [greatPart]) ht
        obtain _ | t := t
        · first | rfl | exact absurd (by simp [greatPart]) ht
        obtain _ | t := t
        · first | rfl | exact absurd (by simp [greatPart]) ht
        obtain _ | t := t
        · first | rfl | exact absurd (by simp [greatPart]) ht
        obtain _ | t := t
        · first | rfl | exact absurd (by simp [greatPart]) ht
        obtain _ | t := t
        · first | rfl | exact absurd (by simp [greatPart]) ht
        obtain _ | t := t
        · first | rfl | exact absurd (by simp [greatPart]) ht
        obtain _ | t := t
        · first | rfl | exact absurd (by simp [greatPart]) ht
        obtain _ | t := t
        · first | rfl | exact absurd (by simp [greatPart]) ht
        obtain _ | t := t
        · first | rfl | exact absurd (by simp [greatPart]) ht
        obtain _ | t := t
        · first | rfl | exact absurd (by simp [greatPart]) ht
        obtain _ | t := t
        · first | rfl | exact absurd (by simp [greatPart]) ht
        obtain _ | t := t
        · first | rfl | exact absurd (by simp [greatPart]) ht
        obtain _ | t := t
        · first | rfl | exact absurd (by simp [greatPart]) ht
        obtain _ | t := t
        · first | rfl | exact absurd (by simp [greatPart]) ht
        obtain _ | t := t
        · first | rfl | exact absurd (by simp [greatPart]) ht
        obtain _ | t := t
        · first | rfl | exact absurd (by simp [greatPart]) ht
        obtain _ | t := t
        · first | rfl | exact absurd (by simp [greatPart]) ht
        obtain _ | t := t
        · first | rfl | exact absurd (by simp [greatPart]) ht
        obtain _ | t := t
        · first | rfl | exact absurd (by simp [greatPart]) ht
        obtain _ | t := t
        · first | rfl | exact absurd (by simp [greatPart]) ht
        obtain _ | t := t
        · first | rfl | exact absurd (by simp [greatPart]) ht
        obtain _ | t := t
        · first | rfl | exact absurd (by simp [greatPart]) ht
        obtain _ | t := t
        · first | rfl | exact absurd (by simp [greatPart]) ht
        obtain _ | t := t
        · first | rfl | exact absurd (by simp [greatPart]) ht
        obtain _ | t := t
        · first | rfl | exact absurd (by simp [greatPart]) ht
        obtain _ | t := t
        · first | rfl | exact absurd (by simp [greatPart]) ht
        obtain _ | t := t
        · first | rfl | exact absurd (by simp [greatPart]) ht
        obtain _ | t := t
        · first | rfl | exact absurd (by simp [greatPart]) ht
        obtain _ | t := t
        · first | rfl | exact absurd (by simp [greatPart]) ht
        obtain _ | t := t
        · first | rfl | exact absurd (by simp [greatPart]) ht
        obtain _ | t := t
        · first | rfl | exact absurd (by simp [greatPart]) ht
        obtain _ | t := t
        · first | rfl | exact absurd (by simp [greatPart]) ht
        obtain _ | t := t
        · first | rfl | exact absurd (by simp [greatPart]) ht
        obtain _ | t := t
        · first | rfl | exact absurd (by simp [greatPart]) ht
        obtain _ | t := t
        · first | rfl | exact absurd (by simp [greatPart]) ht
        obtain _ | t := t
        · first | rfl | exact absurd (by simp [greatPart]) ht
        obtain _ | t := t
        · first | rfl | exact absurd (by simp [greatPart]) ht
        obtain _ | t := t
        · first | rfl | exact absurd (by simp [greatPart]) ht
        obtain _ | t := t
        · first | rfl | exact absurd (by simp [greatPart]) ht
        obtain _ | t := t
        · first | rfl | exact absurd (by simp [greatPart]) ht
        obtain _ | t := t
        · first | rfl | exact absurd (by simp [greatPart]) ht
        obtain _ | t := t
        · first | rfl | exact absurd (by simp [greatPart]) ht
        obtain _ | t := t
        · first | rfl | exact absurd (by simp [greatPart]) ht
        obtain _ | t := t
        · first | rfl | exact absurd (by simp [greatPart]) ht
        obtain _ | t := t
        · first | rfl | exact absurd (by simp [greatPart]) ht
        obtain _ | t := t
        · first | rfl | exact absurd (by simp [greatPart]) ht
        obtain _ | t := t
        · first | rfl | exact absurd (by simp [greatPart]) ht
        obtain _ | t := t
        · first | rfl | exact absurd (by simp [greatPart]) ht
        obtain _ | t := t
        · first | rfl | exact absurd (by simp [greatPart]) ht
        obtain _ | t := t
        · first | rfl | exact absurd (by simp [greatPart]) ht
        obtain _ | t := t
        · first | rfl | exact absurd (by simp [greatPart]) ht
        obtain _ | t := t
        · first | rfl | exact absurd (by simp [greatPart]) ht
        obtain _ | t := t
        · first | rfl | exact absurd (by simp [greatPart]) ht
        obtain _ | t := t
        · first | rfl | exact absurd (by simp [greatPart]) ht
        obtain _ | t := t
        · first | rfl | exact absurd (by simp [greatPart]) ht
        obtain _ | t := t
        · first | rfl | exact absurd (by simp [greatPart]) ht
        obtain _ | t := t
        · first | rfl | exact absurd (by simp [greatPart]) ht
        obtain _ | t := t
        · first | rfl | exact absurd (by simp [greatPart]) ht
        obtain _ | t := t
        · first | rfl | exact absurd (by simp [greatPart]) ht
        obtain _ | t := t
        · first | rfl | exact absurd (by simp [greatPart]) ht
        obtain _ | t := t
        · first | rfl | exact absurd (by simp [greatPart]) ht
        obtain _ | t := t
        · first | rfl | exact absurd (by simp [greatPart]) ht
        obtain _ | t := t
        · first | rfl | exact absurd (by simp [greatPart]) ht
        obtain _ | t := t
        · first | rfl | exact absurd (by simp [greatPart]) ht
        obtain _ | t := t
        · first | rfl | exact absurd (by simp [greatPart]) ht
        obtain _ | t := t
        · first | rfl | exact absurd (by simp [greatPart]) ht
        obtain _ | t := t
        · first | rfl | exact absurd (by simp [greatPart]) ht
        obtain _ | t := t
        · first | rfl | exact absurd (by simp [greatPart]) ht
        obtain _ | t := t
        · first | rfl | exact absurd (by simp [greatPart]) ht
        obtain _ | t := t
        · first | rfl | exact absurd (by simp [greatPart]) ht
        obtain _ | t := t
        · first | rfl | exact absurd (by simp [greatPart]) ht
        obtain _ | t := t
        · first | rfl | exact absurd (by simp [greatPart]) ht
        obtain _ | t := t
        · first | rfl | exact absurd (by simp [greatPart]) ht
        obtain _ | t := t
        · first | rfl | exact absurd (by simp [greatPart]) ht
        obtain _ | t := t
        · first | rfl | exact absurd (by simp [greatPart]) ht
        obtain _ | t := t
        · first | rfl | exact absurd (by simp [greatPart]) ht
        obtain _ | t := t
        · first | rfl | exact absurd (by simp [greatPart]) ht
        obtain _ | t := t
        · first | rfl | exact absurd (by simp [greatPart]) ht
        obtain _ | t := t
        · first | rfl | exact absurd (by simp [greatPart]) ht
        obtain _ | t := t
        · first | rfl | exact absurd (by simp [greatPart]) ht
        obtain _ | t := t
        · first | rfl | exact absurd (by simp [greatPart]) ht
        obtain _ | t := t
        · first | rfl | exact absurd (by simp [greatPart]) ht
        obtain _ | t := t
        · first | rfl | exact absurd (by simp [greatPart]) ht
        obtain _ | t := t
        · first | rfl | exact absurd (by simp [greatPart]) ht
        rfl
      · rintro b i hb0 (h | ⟨rfl, _⟩)
        · exact h
        · exact absurd hb0 (Nat.lt_irrefl _)
      · rintro b i (h | ⟨rfl, hi⟩)
        · exact Nat.lt_of_lt_of_le (hfz b i h) HB.out.size
        · have h1 := HC.out i hi
          rcases Nat.lt_or_ge w.heap.size wr.heap.size with h2 | h2
          · exact h2
          · exfalso
            unfold World.cell? at h1
            rw [Array.getElem?_eq_none h2] at h1
            cases h1
      · subst hyy
        refine ⟨some ⟨w.heap.size, 0, none⟩, c, by simp [hll], by simpa [hll] using hc1, by unfold maxLen at hc2; omega, w.heap.size, 0, .inr rfl, fun j b hj => ⟨[.int .u8 b], rfl, rfl, fun i u hu => ?_⟩⟩
        rw [List.getElem?_map, Option.map_eq_some_iff] at hj
        obtain ⟨l', hl', rfl⟩ := hj
        obtain rfl : i = 0 := by
          rcases i with _ | i
          · rfl
          · simp at hu
        obtain rfl : Value.int .u8 (l'.toNat : Int) = u := by simpa using hu
        have hjl : j < x.size := by rw [← hll]; exact (List.getElem?_eq_some_iff.1 hl').1
        refine ⟨.inr ⟨rfl, by show 0 + j * 1 + 0 < _; omega⟩, ?_⟩
        show World.cell? _ ⟨w.heap.size, 0 + j * 1 + 0, none⟩ = _
        rw [show 0 + j * 1 + 0 = j by omega, HC.out j hjl, if_pos hjl, List.getD_eq_getElem?_getD, hl']
        rfl
theorem greatPart.ok : GSpec.Sound P T greatPart := great_sound
end Go.Proofs.YtmmbedlegmbppaaDoor.R
