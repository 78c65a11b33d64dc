/- Every operation that changes something. -/
import Derived.Test.YtkjjegjafpefcaaDoorRM2
namespace Go.Proofs.YtkjjegjafpefcaaDoor.R
open Go Go.RowKit
set_option linter.unusedVariables false
set_option linter.unusedSimpArgs false
section
variable {E : Type} {G : Gh} {w w0 : World} {Z : Fz} {e : E} {P : Program} {s : St E} {a : Act} {acts : List (Array Value)} {R : Type} {K : Kont R} {r : R}
theorem bytes_rel (x : ByteArray) {Φ : Fz} {W : World} {g : Nat} {el : TypeId} {c : Nat} (hc : x.size ≤ c) (hm : c ≤ 9223372036854775807) (h : ∀ j, j < x.size → Φ g j ∧ W.cell? ⟨g, j, none⟩ = some (.int .u8 (x.data.toList.getD j 0).toNat)) : CRel Φ W (.sl el (.int .u8)) (bytesI x) [.slice (some ⟨g, 0, none⟩) x.size c] := by
  have hl : (bytesI x).length = x.size := by unfold bytesI; rw [List.length_map]; exact Array.length_toList
  refine ⟨_, c, by rw [hl], by rw [hl]; exact hc, hm, g, 0, .inr rfl, fun j y hj => ⟨[.int .u8 y], rfl, rfl, fun i u hu => ?_⟩⟩
  have hjl : j < x.size := by rw [← hl]; exact (List.getElem?_eq_some_iff.1 hj).1
  have hi : i = 0 := by
    rcases Nat.eq_zero_or_pos i with h | h
    · exact h
    · rw [List.getElem?_eq_none (by simp; omega)] at hu; cases hu
  subst hi
  simp only [List.getElem?_cons_zero, Option.some.injEq] at hu
  subst hu
  rw [show 0 + j * (Ty.int IntKind.u8).size + 0 = j by simp [Ty.size]]
  refine ⟨(h j hjl).1, (h j hjl).2.trans ?_⟩
  have : y = ((x.data.toList.getD j 0).toNat : Int) := by
    unfold bytesI at hj
    rw [List.getElem?_map, Option.map_eq_some_iff] at hj
    obtain ⟨b, hb, rfl⟩ := hj
    rw [List.getD_eq_getElem?_getD, hb]; rfl
  rw [this]
theorem change_sound {o : Oper} {F : E → Option R} (h : change P s o K = some F) (hF : F e = some r) (hr : RelG Z w0 s e acts a w G) (hd : dstOk' s o.dst) :
    ∃ nx v w', (execOp a.eval o).run P w = .ok nx w' ∧ (nx = .value v ∨ (nx = .skip ∧ v = undef)) ∧ After Z w0 acts K r G w (a.put o.dst v) w' := by
  have ev := ev_rel hr.tm
  have evs := evs_rel hr.tm
  obtain ⟨dst, op, type, pos, after, guard⟩ := o
  unfold change at h
  simp only at h hd ⊢
  split at h
  · -- alloc
    rename_i el
    rw [Option.bind_eq_some_iff] at h
    obtain ⟨z, hz, h⟩ := h
    obtain ⟨zv, hzc, hzr⟩ := zero_run hz w
    obtain ⟨h1, h2, _⟩ := hr.newBlk (K := .row el) (ob := .cells z el) (cs := z.toList.map constAV) (us := z.toList) rfl (consts_rel _)
    refine ⟨_, .pointer (some ⟨w.heap.size, 0, none⟩), w.alloc (.cells z el), ?_, .inl rfl, E, _, e, F, _, h, hF, h1.put hd h2, (newBlk_ext hr _).fz⟩
    simp only [execOp, Instr.alloc, Sem.run_bind, hzr, Result.andThen_ok, newVar, newRow, hzc]
    rfl
  · -- box
    rename_i el x
    rw [Option.bind_eq_some_iff] at h
    obtain ⟨cs, hcs, h⟩ := h
    obtain ⟨hc1, _⟩ := AV.cells_rel hcs (ev x)
    obtain ⟨h1, h2, _⟩ := hr.newBlk (K := .row el) (ob := .cells (a.eval x).cells el) (us := (a.eval x).cells.toList) rfl hc1
    refine ⟨_, .pointer (some ⟨w.heap.size, 0, none⟩), w.alloc (.cells (a.eval x).cells el), ?_, .inl rfl, E, _, e, F, _, h, hF, h1.put hd h2, (newBlk_ext hr _).fz⟩
    simp only [execOp, Instr.box, Sem.run_bind, Result.andThen_ok, newVar, newRow]
    rfl
  · -- store
    rename_i t ad x
    have had := ev ad
    split at h
    · rename_i b o' hb
      rw [hb] at had
      split at h
      · rename_i el cs hbk
        rw [Option.bind_eq_some_iff] at h
        obtain ⟨vs, hvs, h⟩ := h
        split at h
        · rename_i hck
          simp only [Bool.and_eq_true, decide_eq_true_eq] at hck
          obtain ⟨⟨hlen, hle⟩, hi⟩ := hck
          obtain ⟨hc1, hc2⟩ := AV.cells_rel hvs (ev x)
          obtain ⟨us0, hu, hus, hno⟩ := hr.blk b _ hbk
          obtain ⟨us, rfl⟩ : ∃ us : Array Value, us0 = us.toList := ⟨us0.toArray, rfl⟩
          replace hu : w.heap[G.ρ b]? = some (.cells us el (0, 0)) := hu
          have l1 := hc1.length
          have l2 := hus.length
          rw [Array.length_toList] at l1 l2
          have hfit : o' + (a.eval x).cells.toList.length ≤ us.size := by rw [Array.length_toList]; omega
          obtain ⟨h1, h2⟩ := hr.store (o := o') hbk hu hus hc1 hfit
          refine ⟨.skip, undef, _, ?_, .inr ⟨rfl, rfl⟩, E, _, e, F, _, h, hF, h1.put (s := { s with blocks := s.blocks.set b (.cells (.row el) (putCells cs o' vs)) }) hd (v := undef) ⟨#[], rfl, rfl⟩, h2⟩
          have hsz : (sizeOf t).run P w = .ok (sizeT P t) w := size_run rfl hi w
          have hne : ¬ ((a.eval x).cells.size ≠ sizeT P t) := by omega
          have hst := run_storeCells_at (P := P) (G.ρ b) o' el (a.eval x).cells.toList 0 us w hu (by rw [Nat.add_zero]; exact hfit) hc2
          rw [Nat.add_zero] at hst
          simp only [execOp, Instr.storeAt, had.2, Instr.sureAddr, Sem.run_bind, Sem.run_pure, Result.andThen_ok, storeVar, hsz, if_neg hne, hst]
        · cases h
      · cases h
    · cases h
  · -- a slice that is laid
    rename_i t n ps
    split at h
    · rename_i el ht
      simp only [Option.bind_eq_some_iff] at h
      obtain ⟨u, hu, z, hz, h⟩ := h
      split at h
      · rename_i hck
        simp only [Bool.and_eq_true, decide_eq_true_eq] at hck
        obtain ⟨⟨⟨hzs, hus⟩, hpos⟩, hn⟩ := hck
        simp only [Option.bind_eq_some_iff] at h
        obtain ⟨cs, hcs, x, hx, h⟩ := h
        obtain ⟨us, hur, hrun⟩ := buildSlice_run (G := G) (w := w) (e := e) (vs := ps.map fun (i, x) => (i, a.eval x)) ht hz hzs hus hpos hn hcs (by simp [List.map_map, Function.comp_def]) (by
          have := evs (ps.toList.map (·.2))
          simpa [List.map_map, Function.comp_def] using this)
        obtain ⟨c1, c2, c3⟩ := chunk_rel hx hur
        rw [Array.length_toList] at c2
        obtain ⟨q1, q2, q3⟩ := hr.fresh (w' := w.alloc (.cells us el)) (Φ' := fun b i => G.Φ b i ∨ (b = w.heap.size ∧ i < n * u.size)) ((Below.refl _ _).alloc (Nat.le_refl _) _) (fun b i h => .inl h)
          (fun b i hb h => h.resolve_right (fun h2 => by omega)) (fun b i h => by
            rcases h with h | ⟨h, _⟩
            · have := hr.fz b i h; simp; omega
            · simp; omega)
        have hown : OwnRel (fun b i => G.Φ b i ∨ (b = w.heap.size ∧ i < n * u.size)) (w.alloc (.cells us el)) G.B el u (x e) (.slice (some ⟨w.heap.size, 0, none⟩) n n) (some w.heap.size) := by
          refine ⟨rfl, us.toList, ⟨by rw [Array.length_toList, c1]; exact c2, .inr ⟨w.heap.size, n, us, by rw [c1], by rw [hr.B]; exact hr.bel.size, heap_alloc_new w _, by rw [c1]; exact Nat.le_refl _, ?_, c2, ?_⟩⟩, fun j y hj => (c3 j y hj).mono q2, fun g hg i => ?_⟩
          · have : n ≤ n * u.size := Nat.le_mul_of_pos_right _ hpos
            simp only [maxLen]; omega
          · rw [c1]; exact List.take_of_length_le (by rw [Array.length_toList]; omega)
          · cases hg
            rw [c1]
            exact ⟨fun h => h.elim (fun h => absurd (hr.fz _ _ h) (Nat.lt_irrefl _)) (fun h => h.2), fun h => .inr ⟨rfl, h⟩⟩
        have hput := (q1.newTok (bo := some w.heap.size) (fun g hg => by
          cases hg
          refine ⟨by show G.B ≤ _; rw [hr.B]; exact hr.bel.size, by simp, fun b hl => by have := (hr.live_lt hl).2; show G.ρ b ≠ _; omega, fun k hk hkg => ?_⟩
          have := (hr.tlo k _ hk hkg).2.1
          omega)).put (d := dst) hd (own_rel (z := decide (0 < n)) (G := { G with Φ := fun b i => G.Φ b i ∨ (b = w.heap.size ∧ i < n * u.size) }) (x := x) (el := el) hown (fun hz hx => by
          rw [decide_eq_true_eq] at hz
          have hl : (x e).length = 0 := by rw [hx]; rfl
          omega))
        rw [show ({ G with Φ := fun b i => G.Φ b i ∨ (b = w.heap.size ∧ i < n * u.size) } : Gh).nt = s.nt from hr.nt] at hput
        refine ⟨_, .slice (some ⟨w.heap.size, 0, none⟩) n n, _, ?_, .inl rfl, E, _, e, F, _, h, hF, hput, q2⟩
        simp only [execOp, Sem.run_bind, hrun, Result.andThen_ok, Sem.run_pure]
      · cases h
    · cases h
  · -- the bytes of a text
    rename_i src d x
    have hx := ev x
    split at h
    · rename_i el y hdst hxy
      rw [hxy] at hx
      obtain hv : a.eval x = _ := (List.cons.inj hx).1
      split at h
      · rename_i hel
        split at h
        · rename_i hsrc
          have hs := isStrT_spec hsrc
          obtain ⟨F1, hK, hc, hF1⟩ := guardIf_spec h hF
          have hbig0 := hc _ rfl
          simp only [okS, decide_eq_true_eq] at hbig0
          have hbig : (y e).size ≤ maxLen := hbig0
          have hrun := Lib.run_convert_string_bytes (P := P) w src d el (y e) hs hdst hel
          have hbel : Below w.heap.size w (Lib.bytesWorld w el (y e)) := ⟨by simp [Lib.bytesWorld, World.freeze, World.alloc, World.drew, -World.alloc_eq, -World.drew_eq], by simp [Lib.bytesWorld, World.freeze, World.alloc, World.drew, -World.alloc_eq, -World.drew_eq], by simp [Lib.bytesWorld, World.freeze, World.alloc, World.drew, -World.alloc_eq, -World.drew_eq], by rw [Lib.bytesWorld_size]; omega, fun k hk => Lib.bytesWorld_at_old w el (y e) k hk⟩
          obtain ⟨q1, q2, q3⟩ := hr.fresh (w' := Lib.bytesWorld w el (y e)) (Φ' := fun b i => G.Φ b i ∨ (b = w.heap.size ∧ i < (y e).size)) hbel (fun b i h => .inl h)
            (fun b i hb h => h.resolve_right (fun h2 => by omega)) (fun b i h => by
              rw [Lib.bytesWorld_size]
              rcases h with h | ⟨h, _⟩
              · have := hr.fz b i h; omega
              · omega)
          have hcap := grownCap_le_maxLen w (y e).size 0 el hbig
          have hge := grownCap_ge w (y e).size 0 el
          have hcr := bytes_rel (el := el) (y e) (Φ := fun b i => G.Φ b i ∨ (b = w.heap.size ∧ i < (y e).size)) (W := Lib.bytesWorld w el (y e)) (g := w.heap.size) hge hcap (fun j hj => ⟨.inr ⟨rfl, hj⟩, Lib.bytesWorld_cell w el (y e) j hj⟩)
          refine ⟨_, .slice (some ⟨w.heap.size, 0, none⟩) (y e).size (grownCap w (y e).size 0 el), _, ?_, .inl rfl, E, _, e, F1, _, hK, hF1, q1.put hd hcr, q2⟩
          simp only [execOp, hv, Sem.run_bind, hrun, Result.andThen_ok, Sem.run_pure]
        · cases h
      · cases h
    · cases h
  · -- calls of what is built in
    rename_i c
    obtain ⟨callee, args, ats⟩ := c
    simp only at h
    split at h
    · split at h
      · rename_i x y t u h1 h2 
        have hap : ∃ v w', (Builtin.append_ #[t, u] type #[a.eval x, a.eval y]).run P w = .ok v w' ∧ After Z w0 acts K r G w (a.put dst v) w' := by
          split at h
          · rename_i htu
            exact appendTo_sound (ty := type) h hF hr hd (ev x) (ev y)
          · exact appendStr_sound (ty := type) h hF hr hd (ev x) (ev y)
        obtain ⟨v, w', hrun, haft⟩ := hap
        have ha : args = #[x, y] := by apply Array.ext'; exact h1
        have hb : ats = #[t, u] := by apply Array.ext'; exact h2
        subst ha hb
        refine ⟨_, v, w', ?_, .inl rfl, haft⟩
        simp only [execOp, resolve, invoke, builtin, Sem.run_bind, Sem.run_pure, Result.andThen_ok, List.map_toArray, List.map_cons, List.map_nil, hrun]
      · cases h
    · cases h
  · cases h
    cases hF
  · -- a new map
    rename_i t
    split at h
    · rename_i kt et hu
      obtain ⟨h1, _, h2⟩ := hr.newBlk (K := .smap t []) (ob := .map #[] 0) (cs := []) (us := []) ⟨_, _, rfl, rfl, rfl⟩ rfl
      refine ⟨_, .map (some w.heap.size), w.alloc (.map #[] 0), ?_, .inl rfl, E, _, e, F, _, h, hF, h1.put hd h2, (newBlk_ext hr _).fz⟩
      simp only [execOp, Instr.makeMap, Option.map_none]
      rfl
    · cases h
  · -- into a map
    rename_i t m k v
    obtain ⟨w', h1, h2⟩ := updTo_sound h hF hr hd (ev m) (ev k) (ev v) (fun c hc => ckOf_val hc a)
    refine ⟨.skip, undef, w', ?_, .inr ⟨rfl, rfl⟩, h2⟩
    simp only [execOp, Sem.run_bind, h1, Result.andThen_ok, Sem.run_pure]
  · rename_i t m k v
    obtain ⟨w', h1, h2⟩ := updTo_sound h hF hr hd (ev m) (ev k) (ev v) (fun c hc => ckOf_val hc a)
    refine ⟨.skip, undef, w', ?_, .inr ⟨rfl, rfl⟩, h2⟩
    simp only [execOp, Sem.run_bind, h1, Result.andThen_ok, Sem.run_pure]
  · -- a walk along a text
    rename_i t x
    have hx := ev x
    split at h
    · rename_i y hxy
      rw [hxy] at hx
      obtain hv : a.eval x = _ := (List.cons.inj hx).1
      split at h
      · rename_i hs
        obtain ⟨h1, h2, _⟩ := hr.newBlk (K := .iter) (ob := .stringIter (y e) 0) (cs := [.sym .str y, .sym (.int .i64) fun _ => 0]) (us := [.string (y e), .int .i64 0]) ⟨_, _, rfl, rfl⟩ (.cons rfl (.cons rfl .nil))
        refine ⟨_, .pointer (some ⟨w.heap.size, 0, none⟩), w.alloc (.stringIter (y e) 0), ?_, .inl rfl, E, _, e, F, _, h, hF, h1.put hd h2, (newBlk_ext hr _).fz⟩
        simp [execOp, Instr.range, hv, run_underlying (isStrT_spec hs)]
      · cases h
    · cases h
  · rename_i it
    have hit := ev it
    split at h
    · rename_i b hb
      rw [hb] at hit
      obtain ⟨_, hv⟩ := hit
      split at h
      · rename_i y p hbk
        obtain ⟨f1, f2, hk1, hk2, rfl⟩ := splitB_spec h
        obtain ⟨us, ⟨t, q, hob, rfl⟩, hus, _⟩ := hr.blk b _ hbk
        obtain ⟨u1, r1, he1, g1, u2, r2, he2, g2, g3⟩ := hus
        simp only [List.cons.injEq] at he1
        obtain ⟨rfl, rfl⟩ := he1
        simp only [List.cons.injEq] at he2
        obtain ⟨rfl, rfl⟩ := he2
        have e1 : t = y e := by have := (List.cons.inj g1).1; simpa using this
        have e2 : @Eq Int (q : Int) (p e) := by have := (List.cons.inj g2).1; simpa using this
        subst e1
        obtain ⟨i1, _⟩ := iter_run (P := P) (w := w) (o' := .stringIter (y e) q) hob
        cases hq : ltI (p e) (lenS (y e)) with
        | true =>
          have hF1 : f1 e = some r := by rw [← hF]; simp only [hq, ifO]; rfl
          have hlt : q < (y e).size := by
            have hq' : @LT.lt Int _ (p e) (((y e).size : Nat) : Int) := of_decide_eq_true hq
            rw [← e2] at hq'
            exact Int.ofNat_lt.1 hq'
          have hpq : Int.toNat (p e) = q := by rw [← e2]; rfl
          obtain ⟨q1, q2⟩ := hr.lay (K' := .iter) (vs := [.sym .str y, .sym (.int .i64) fun e => runeN (y e) (p e)]) (us' := [.string (y e), .int .i64 (runeN (y e) (p e))]) (ob := .stringIter (y e) (q + (Utf8.decode (y e) q).2)) hbk ⟨_, _, rfl, by simp only [runeN, hpq]; rw [← e2]; simp⟩ (.cons rfl (.cons rfl .nil))
          refine ⟨.value (.tuple #[.bool true, .int .i64 (p e), .int .i32 (runeI (y e) (p e))]), _, _, ?_, .inl rfl, E, _, e, f1, G, hk1, hF1, q1.put (s := { s with blocks := s.blocks.set b (.cells .iter [.sym .str y, .sym (.int .i64) fun e => runeN (y e) (p e)]) }) hd (av := .tup [.cb true, .sym (.int .i64) p, .sym (.int .i32) fun e => runeI (y e) (p e)]) ⟨_, rfl, .cons rfl (.cons rfl (.cons rfl .nil))⟩, q2⟩
          simp [execOp, Instr.next, hv, i1, hlt, (iter_run (P := P) (w := w) (o' := .stringIter (y e) (q + (Utf8.decode (y e) q).2)) hob).2, goInt, runeI, hpq, e2]
        | false =>
          have hF2 : f2 e = some r := by rw [← hF]; simp only [hq, ifO]; rfl
          have hlt : ¬ q < (y e).size := by
            have hq' : ¬ @LT.lt Int _ (p e) (((y e).size : Nat) : Int) := of_decide_eq_false hq
            rw [← e2] at hq'
            exact fun hh => hq' (Int.ofNat_lt.2 hh)
          refine ⟨.value (.tuple #[.bool false]), _, w, ?_, .inl rfl, E, _, e, f2, G, hk2, hF2, hr.put hd (av := .tup [.cb false]) ⟨_, rfl, .cons rfl .nil⟩, .refl _ _⟩
          simp [execOp, Instr.next, hv, i1, hlt]
      · cases h
    · cases h
  · cases h
end
end Go.Proofs.YtkjjegjafpefcaaDoor.R
