/- Every operation that changes something; joins -/
import Derived.Test.YtkjjegjafpefcaaDoorQ4
/- Maps, and walks along texts, that the call makes: what is done with them. -/
namespace Go.Proofs.YtkjjegjafpefcaaDoor.R
open Go Go.RowKit
set_option linter.unusedVariables false
set_option linter.unusedSimpArgs false
section
variable {E : Type} {G : Gh} {w w0 : World} {Z : Fz} {e : E} {P : Program} {s : St E} {a : Act} {acts : List (Array Value)} {R : Type} {K : Kont R} {r : R}
theorem CK.to_inj {kd : Ty} {c c' : CK} {y : kd.den} (h : c.to kd = some y) (h' : c'.to kd = some y) : c = c' := by
  cases c <;> simp only [CK.to] at h <;> (split at h <;> first | cases h | skip) <;> (rename_i q1; subst q1)
  all_goals (cases c' <;> simp [CK.to] at h')
  · obtain ⟨rfl, h'⟩ := h'; cases h'; rfl
  · cases h'; rfl
  · cases h'; rfl
theorem find_none {kd : Ty} {d : TypeDesc} {vk : Value} {c : CK} {y : kd.den} (hc : c.to kd = some y) {Φ : Fz} (hn : ∀ (y z : kd.den) (u v : Value), VRel Φ w kd y u → VRel Φ w kd z v → Instr.sameNow d u v = some (eqD kd y z) ∧ (eqD kd y z = true → y = z ∧ Instr.sameBits 10000 v u = true)) (hv : vk = c.val) :
    ∀ (ks : List CK) (ens : List MapEntry) (i : Nat), ens.map (·.key) = ks.map CK.val → (ks.all fun c' => (c'.to kd).isSome && c' != c) = true → Instr.findNow d vk ens i = some none
  | [], ens, i, h, _ => by rw [List.map_eq_nil_iff.1 h]; rfl
  | k :: ks, ens, i, h, ha => by
    cases ens with
    | nil => simp at h
    | cons en ens =>
      simp only [List.map_cons, List.cons.injEq] at h
      simp only [List.all_cons, Bool.and_eq_true, bne_iff_ne] at ha
      obtain ⟨⟨h1, h2⟩, h3⟩ := ha
      obtain ⟨z, hz⟩ := Option.isSome_iff_exists.1 h1
      obtain ⟨s1, s2⟩ := hn y z vk en.key (by rw [hv]; exact CK.to_val hc) (by rw [h.1]; exact CK.to_val hz)
      have hf : eqD kd y z = false := by
        cases he : eqD kd y z with
        | false => rfl
        | true => obtain ⟨rfl, _⟩ := s2 he; exact absurd (CK.to_inj hz hc) h2
      rw [hf] at s1
      unfold Instr.findNow
      rw [s1]
      exact find_none hc hn hv ks ens (i + 1) h.2 (by simpa only [List.all_eq_true, Bool.and_eq_true, bne_iff_ne] using h3)
theorem setObj_run {ob o' : Obj} {g : Nat} (h : w.heap[g]? = some ob) (hb : ∃ ens clk, ob = .map ens clk) : (setObj g o').run P w = .ok () { w with heap := w.heap.setIfInBounds g o' } := by
  obtain ⟨ens, clk, rfl⟩ := hb
  exact MapKept.run_setObj_map _ h
theorem iter_run {t : ByteArray} {p : Nat} {o' : Obj} {g : Nat} (h : w.heap[g]? = some (.stringIter t p)) : (getObj g).run P w = .ok (.stringIter t p) w ∧ (setObj g o').run P w = .ok () { w with heap := w.heap.setIfInBounds g o' } := by
  constructor
  · simp [getObj, Sem.run, h]
  · simp [setObj, Sem.run, h]
/-- A block of our own is laid anew. -/
theorem RelG.lay (hr : RelG Z w0 s e acts a w G) {b : Nat} {K K' : BK} {cs vs : List (AV E)} {us' : List Value} {ob : Obj} (hb : s.blocks[b]? = some (.cells K cs)) (hk : KIs (some ob) us' K') (hv : AV.Rels G w e vs us') :
    RelG Z w0 { s with blocks := s.blocks.set b (.cells K' vs) } e acts a { w with heap := w.heap.setIfInBounds (G.ρ b) ob } G ∧ FExt G.Φ w G.Φ { w with heap := w.heap.setIfInBounds (G.ρ b) ob } := by
  have hlt := (hr.live_lt ⟨K, cs, hb⟩).2
  refine hr.turn hb rfl rfl rfl (by simp) (fun g hg => ?_) ?_ hv
  · exact Array.getElem?_setIfInBounds_ne (Ne.symm hg)
  · show KIs ((w.heap.setIfInBounds (G.ρ b) ob)[G.ρ b]?) us' K'
    rw [Array.getElem?_setIfInBounds_self_of_lt hlt]; exact hk
theorem updTo_sound {dst : Option Tmp} {t : TypeId} {m k v : AV E} {ck : Option CK} {vm vk vv : Value} {F : E → Option R} (h : updTo P s dst t m ck k v K = some F) (hF : F e = some r) (hr : RelG Z w0 s e acts a w G) (hd : dstOk' s dst)
    (hm : m.Rel G w e vm) (hk : k.Rel G w e vk) (hv : v.Rel G w e vv) (hck : ∀ c, ck = some c → vk = c.val) :
    ∃ w', (Instr.mapUpdate t vm vk vv).run P w = .ok () w' ∧ After Z w0 acts K r G w (a.put dst undef) w' := by
  unfold updTo at h
  split at h
  · rename_i kt et b hu
    obtain ⟨_, rfl⟩ := hm
    split at h
    · -- a key that is known
      rename_i c mt ks vs hbk
      simp only [Option.bind_eq_some_iff] at h
      obtain ⟨kd, hkd, y, hy, h⟩ := h
      split at h
      · rename_i hall
        have hvk := hck c rfl
        obtain ⟨us, ⟨ens, clk, hm, hks, rfl⟩, hus, _⟩ := hr.blk b _ hbk
        obtain ⟨dd, hdd, hnow, hchk⟩ := key_now (P := P) (w := w) (Φ := G.Φ) hkd
        have hfn := find_none hy hnow hvk ks ens.toList 0 hks hall
        have hyr : VRel G.Φ w kd y vk := by rw [hvk]; exact CK.to_val hy
        obtain ⟨q1, q2⟩ := hr.lay (K' := .smap mt (ks ++ [c])) (vs := vs ++ [v]) (us' := ens.toList.map (·.val) ++ [vv]) (ob := .map (ens.push { key := vk, val := vv, born := clk }) (clk + 1)) hbk ⟨_, _, rfl, by simp [hks, hvk], by simp⟩ (hus.append (.cons hv .nil))
        refine ⟨_, ?_, E, _, e, F, G, h, hF, q1.put (s := { s with blocks := s.blocks.set b (.cells (.smap mt (ks ++ [c])) (vs ++ [v])) }) hd (av := .tup []) (v := undef) ⟨#[], rfl, rfl⟩, q2⟩
        simp [Instr.mapUpdate, run_underlying hu, MapKept.run_getObj_map hm, hchk _ _ _ hyr w, MapKept.run_findKey hdd hfn, MapKept.run_setObj_map _ hm]
      · cases h
    · simp only [Option.bind_eq_some_iff] at h
      obtain ⟨kd, hkd, x, hx, y, hy, u, hu2, h⟩ := h
      obtain ⟨ens, clk, hm, hmi, el, cs, hbk⟩ := ents_rel hx hr.blk
      obtain ⟨dd, hdd, hnow, hchk⟩ := key_now (P := P) (w := w) (Φ := G.Φ) hkd
      have hyr := to_vrel hy hk
      have hur := to_vrel hu2 hv
      have fin : ∀ (ens' : Array MapEntry) (clk' : Nat), MapIs G.Φ w kd x.vd (putM kd x.vd (x.x e) (y e) (u e)) ens'.toList → (Instr.mapUpdate t (.map (some (G.ρ b))) vk vv).run P w = .ok () { w with heap := w.heap.setIfInBounds (G.ρ b) (.map ens' clk') } →
          ∃ w', (Instr.mapUpdate t (.map (some (G.ρ b))) vk vv).run P w = .ok () w' ∧ After Z w0 acts K r G w (a.put dst undef) w' := by
        intro ens' clk' hi hrun
        obtain ⟨q1, q2⟩ := hr.lay (K' := .dmap) (vs := [.ents kd x.vd fun e => putM kd x.vd (x.x e) (y e) (u e)]) (us' := [.agg (ens'.map fun en => .agg #[en.key, en.val])]) (ob := .map ens' clk') hbk ⟨_, _, rfl, rfl⟩ (.cons ⟨_, rfl, by rw [Array.toList_map]; exact hi.ents⟩ .nil)
        exact ⟨_, hrun, E, _, e, F, G, h, hF, q1.put (s := { s with blocks := s.blocks.set b (.cells .dmap [.ents kd x.vd fun e => putM kd x.vd (x.x e) (y e) (u e)]) }) hd (av := .tup []) (v := undef) ⟨#[], rfl, rfl⟩, q2⟩
      rcases find_run hnow hyr (u e) (x.x e) ens.toList 0 hmi with ⟨a1, _, _, a4⟩ | ⟨j, en, a1, a2, _, _, a5, a6⟩
      · refine fin (ens.push { key := vk, val := vv, born := clk }) (clk + 1) ?_ ?_
        · rw [a4, Array.toList_push]; exact hmi.push hyr hur
        · simp [Instr.mapUpdate, run_underlying hu, MapKept.run_getObj_map hm, hchk _ _ _ hyr w, MapKept.run_findKey hdd a1, MapKept.run_setObj_map _ hm]
      · rw [Nat.zero_add] at a1
        have a2' : ens[j]? = some en := by rw [← Array.getElem?_toList]; exact a2
        refine fin (ens.modify j fun e => { e with key := vk, val := vv }) clk ?_ ?_
        · rw [Array.toList_modify]; exact a6 (u e) vv hur
        · simp [Instr.mapUpdate, run_underlying hu, MapKept.run_getObj_map hm, hchk _ _ _ hyr w, MapKept.run_findKey hdd a1, MapKept.run_setObj_map _ hm, a2', Instr.keyThatStays, a5]
  · cases h
theorem lookK_spec {dst : Option Tmp} {kd : Ty} {d : TypeDesc} {y : E → kd.den} {vk : Value} (hn : ∀ (y z : kd.den) (u v : Value), VRel G.Φ w kd y u → VRel G.Φ w kd z v → Instr.sameNow d u v = some (eqD kd y z) ∧ (eqD kd y z = true → y = z ∧ Instr.sameBits 10000 v u = true)) (hy : VRel G.Φ w kd (y e) vk) {z : AV E} :
    ∀ (ks : List CK) (vs : List (AV E)) (ens : List MapEntry) (i : Nat) (F : E → Option R), lookK s dst K kd y z ks vs = some F → F e = some r → ens.map (·.key) = ks.map CK.val → AV.Rels G w e vs (ens.map (·.val)) →
      (∃ f, Instr.findNow d vk ens i = some none ∧ K E (s.put dst (.tup [z, .cb false])) = some f ∧ f e = some r) ∨
      (∃ j v en f, Instr.findNow d vk ens i = some (some (j, en)) ∧ v.Rel G w e en ∧ K E (s.put dst (.tup [v, .cb true])) = some f ∧ f e = some r)
  | [], vs, ens, i, F, h, hF, hk, hv => by
    cases vs with
    | nil =>
      rw [List.map_eq_nil_iff.1 hk]
      exact .inl ⟨F, rfl, h, hF⟩
    | cons v vs => simp [lookK] at h
  | k :: ks, vs, ens, i, F, h, hF, hk, hv => by
    cases vs with
    | nil => simp [lookK] at h
    | cons v vs =>
      cases ens with
      | nil => simp at hk
      | cons en ens =>
        simp only [List.map_cons, List.cons.injEq] at hk
        obtain ⟨u', r', he, h1, h2⟩ := hv
        simp only [List.map_cons, List.cons.injEq] at he
        obtain ⟨rfl, rfl⟩ := he
        simp only [lookK, Option.bind_eq_some_iff] at h
        obtain ⟨u, hu, h⟩ := h
        obtain ⟨f1, f2, hk1, hk2, rfl⟩ := splitB_spec h
        obtain ⟨s1, s2⟩ := hn (y e) u vk en.key hy (by rw [hk.1]; exact CK.to_val hu)
        cases hq : eqD kd (y e) u with
        | true =>
          right
          rw [hq] at s1
          refine ⟨i, v, en.val, f1, by simp only [Instr.findNow, s1], h1, hk1, ?_⟩
          rw [← hF]; simp only [hq, ifO]; rfl
        | false =>
          rw [hq] at s1
          have hF2 : f2 e = some r := by rw [← hF]; simp only [hq, ifO]; rfl
          rcases lookK_spec hn hy ks vs ens (i + 1) f2 hk2 hF2 hk.2 h2 with ⟨f, a1, a2, a3⟩ | ⟨j, v', en', f, a1, a2, a3, a4⟩
          · exact .inl ⟨f, by simp only [Instr.findNow, s1]; exact a1, a2, a3⟩
          · exact .inr ⟨j, v', en', f, by simp only [Instr.findNow, s1]; exact a1, a2, a3, a4⟩
theorem lookCase_sound {o : Oper} {kd : Ty} {y : E → kd.den} {ks : List CK} {vs : List (AV E)} {z : AV E} {F : E → Option R} (hc : lookCase P s o.op = some ⟨kd, y, ks, vs, z⟩) (h : lookK s o.dst K kd y z ks vs = some F) (hF : F e = some r) (ht : EnvRel G w e s.tmps a.tmps) (hb : BlksRel G w e s.blocks) :
    ∃ v av f, (execOp a.eval o).run P w = .ok (.value v) w ∧ av.Rel G w e v ∧ K E (s.put o.dst av) = some f ∧ f e = some r := by
  have ev := ev_rel ht
  obtain ⟨dst, op, type, pos, after, guard⟩ := o
  simp only at hc h ⊢
  unfold lookCase at hc
  split at hc
  · rename_i t m k
    split at hc
    · rename_i kt et b hu hm
      have hmr := ev m
      rw [hm] at hmr
      obtain ⟨_, hmv⟩ := hmr
      split at hc
      · rename_i mt ks' vs' hbk
        simp only [Option.bind_eq_some_iff, Option.map_eq_some_iff] at hc
        obtain ⟨kd', hkd, y', hy, z', hz, hc⟩ := hc
        simp only [Sigma.mk.injEq] at hc
        obtain ⟨rfl, hc⟩ := hc
        simp only [heq_eq_eq, Prod.mk.injEq] at hc
        obtain ⟨rfl, rfl, rfl, rfl⟩ := hc
        obtain ⟨us, ⟨ens, clk, hmm, hks, rfl⟩, hus, _⟩ := hb b _ hbk
        obtain ⟨zv, hzr, hzrun⟩ := zeroAV_run (G := G) (w := w) (e := e) hz
        obtain ⟨dd, hdd, hnow, hck⟩ := key_now (P := P) (w := w) (Φ := G.Φ) hkd
        have hyr := to_vrel hy (ev k)
        rcases lookK_spec hnow hyr ks' vs' ens.toList 0 F h hF hks hus with ⟨f, a1, a2, a3⟩ | ⟨j, v, en, f, a1, a2, a3, a4⟩
        · refine ⟨.tuple #[zv, .bool false], .tup [z', .cb false], f, ?_, ⟨_, rfl, zv, _, rfl, hzr, _, _, rfl, rfl, rfl⟩, a2, a3⟩
          simp [execOp, hmv, Instr.lookup, run_underlying hu, MapKept.run_getObj_map hmm, hck _ _ _ hyr w, MapKept.run_findKey hdd a1, hzrun w]
        · refine ⟨.tuple #[en, .bool true], .tup [v, .cb true], f, ?_, ⟨_, rfl, en, _, rfl, a2, _, _, rfl, rfl, rfl⟩, a3, a4⟩
          simp [execOp, hmv, Instr.lookup, run_underlying hu, MapKept.run_getObj_map hmm, hck _ _ _ hyr w, MapKept.run_findKey hdd a1]
      · cases hc
    · cases hc
  · cases hc
theorem ckOf_val {o : Operand} {c : CK} (h : ckOf o = some c) (a : Act) : a.eval o = c.val := by
  unfold ckOf at h
  split at h <;> first | (cases h; rfl) | cases h
end
end Go.Proofs.YtkjjegjafpefcaaDoor.R
/- Every operation that changes something. -/
namespace Go.Proofs.YtkjjegjafpefcaaDoor.R
open Go Go.RowKit
set_option linter.unusedVariables false
set_option linter.unusedSimpArgs false
section
variable {E : Type} {G : Gh} {w w0 : World} {Z : Fz} {e : E} {P : Program} {s : St E} {a : Act} {acts : List (Array Value)} {R : Type} {K : Kont R} {r : R}
theorem bytes_rel (x : ByteArray) {Φ : Fz} {W : World} {g : Nat} {el : TypeId} {c : Nat} (hc : x.size ≤ c) (hm : c ≤ 9223372036854775807) (h : ∀ j, j < x.size → Φ g j ∧ W.cell? ⟨g, j, none⟩ = some (.int .u8 (x.data.toList.getD j 0).toNat)) : CRel Φ W (.sl el (.int .u8)) (bytesI x) [.slice (some ⟨g, 0, none⟩) x.size c] := by
  have hl : (bytesI x).length = x.size := by unfold bytesI; rw [List.length_map]; exact Array.length_toList
  refine ⟨_, c, by rw [hl], by rw [hl]; exact hc, hm, g, 0, .inr rfl, fun j y hj => ⟨[.int .u8 y], rfl, rfl, fun i u hu => ?_⟩⟩
  have hjl : j < x.size := by rw [← hl]; exact (List.getElem?_eq_some_iff.1 hj).1
  have hi : i = 0 := by
    rcases Nat.eq_zero_or_pos i with h | h
    · exact h
    · rw [List.getElem?_eq_none (by simp; omega)] at hu; cases hu
  subst hi
  simp only [List.getElem?_cons_zero, Option.some.injEq] at hu
  subst hu
  rw [show 0 + j * (Ty.int IntKind.u8).size + 0 = j by simp [Ty.size]]
  refine ⟨(h j hjl).1, (h j hjl).2.trans ?_⟩
  have : y = ((x.data.toList.getD j 0).toNat : Int) := by
    unfold bytesI at hj
    rw [List.getElem?_map, Option.map_eq_some_iff] at hj
    obtain ⟨b, hb, rfl⟩ := hj
    rw [List.getD_eq_getElem?_getD, hb]; rfl
  rw [this]
theorem change_sound {o : Oper} {F : E → Option R} (h : change P s o K = some F) (hF : F e = some r) (hr : RelG Z w0 s e acts a w G) (hd : dstOk' s o.dst) :
    ∃ nx v w', (execOp a.eval o).run P w = .ok nx w' ∧ (nx = .value v ∨ (nx = .skip ∧ v = undef)) ∧ After Z w0 acts K r G w (a.put o.dst v) w' := by
  have ev := ev_rel hr.tm
  have evs := evs_rel hr.tm
  obtain ⟨dst, op, type, pos, after, guard⟩ := o
  unfold change at h
  simp only at h hd ⊢
  split at h
  · -- alloc
    rename_i el
    rw [Option.bind_eq_some_iff] at h
    obtain ⟨z, hz, h⟩ := h
    obtain ⟨zv, hzc, hzr⟩ := zero_run hz w
    obtain ⟨h1, h2, _⟩ := hr.newBlk (K := .row el) (ob := .cells z el) (cs := z.toList.map constAV) (us := z.toList) rfl (consts_rel _)
    refine ⟨_, .pointer (some ⟨w.heap.size, 0, none⟩), w.alloc (.cells z el), ?_, .inl rfl, E, _, e, F, _, h, hF, h1.put hd h2, (newBlk_ext hr _).fz⟩
    simp only [execOp, Instr.alloc, Sem.run_bind, hzr, Result.andThen_ok, newVar, newRow, hzc]
    rfl
  · -- box
    rename_i el x
    rw [Option.bind_eq_some_iff] at h
    obtain ⟨cs, hcs, h⟩ := h
    obtain ⟨hc1, _⟩ := AV.cells_rel hcs (ev x)
    obtain ⟨h1, h2, _⟩ := hr.newBlk (K := .row el) (ob := .cells (a.eval x).cells el) (us := (a.eval x).cells.toList) rfl hc1
    refine ⟨_, .pointer (some ⟨w.heap.size, 0, none⟩), w.alloc (.cells (a.eval x).cells el), ?_, .inl rfl, E, _, e, F, _, h, hF, h1.put hd h2, (newBlk_ext hr _).fz⟩
    simp only [execOp, Instr.box, Sem.run_bind, Result.andThen_ok, newVar, newRow]
    rfl
  · -- store
    rename_i t ad x
    have had := ev ad
    split at h
    · rename_i b o' hb
      rw [hb] at had
      split at h
      · rename_i el cs hbk
        rw [Option.bind_eq_some_iff] at h
        obtain ⟨vs, hvs, h⟩ := h
        split at h
        · rename_i hck
          simp only [Bool.and_eq_true, decide_eq_true_eq] at hck
          obtain ⟨⟨hlen, hle⟩, hi⟩ := hck
          obtain ⟨hc1, hc2⟩ := AV.cells_rel hvs (ev x)
          obtain ⟨us0, hu, hus, hno⟩ := hr.blk b _ hbk
          obtain ⟨us, rfl⟩ : ∃ us : Array Value, us0 = us.toList := ⟨us0.toArray, rfl⟩
          replace hu : w.heap[G.ρ b]? = some (.cells us el (0, 0)) := hu
          have l1 := hc1.length
          have l2 := hus.length
          rw [Array.length_toList] at l1 l2
          have hfit : o' + (a.eval x).cells.toList.length ≤ us.size := by rw [Array.length_toList]; omega
          obtain ⟨h1, h2⟩ := hr.store (o := o') hbk hu hus hc1 hfit
          refine ⟨.skip, undef, _, ?_, .inr ⟨rfl, rfl⟩, E, _, e, F, _, h, hF, h1.put (s := { s with blocks := s.blocks.set b (.cells (.row el) (putCells cs o' vs)) }) hd (v := undef) ⟨#[], rfl, rfl⟩, h2⟩
          have hsz : (sizeOf t).run P w = .ok (sizeT P t) w := size_run rfl hi w
          have hne : ¬ ((a.eval x).cells.size ≠ sizeT P t) := by omega
          have hst := run_storeCells_at (P := P) (G.ρ b) o' el (a.eval x).cells.toList 0 us w hu (by rw [Nat.add_zero]; exact hfit) hc2
          rw [Nat.add_zero] at hst
          simp only [execOp, Instr.storeAt, had.2, Instr.sureAddr, Sem.run_bind, Sem.run_pure, Result.andThen_ok, storeVar, hsz, if_neg hne, hst]
        · cases h
      · cases h
    · cases h
  · -- a slice that is laid
    rename_i t n ps
    split at h
    · rename_i el ht
      simp only [Option.bind_eq_some_iff] at h
      obtain ⟨u, hu, z, hz, h⟩ := h
      split at h
      · rename_i hck
        simp only [Bool.and_eq_true, decide_eq_true_eq] at hck
        obtain ⟨⟨⟨hzs, hus⟩, hpos⟩, hn⟩ := hck
        simp only [Option.bind_eq_some_iff] at h
        obtain ⟨cs, hcs, x, hx, h⟩ := h
        obtain ⟨us, hur, hrun⟩ := buildSlice_run (G := G) (w := w) (e := e) (vs := ps.map fun (i, x) => (i, a.eval x)) ht hz hzs hus hpos hn hcs (by simp [List.map_map, Function.comp_def]) (by
          have := evs (ps.toList.map (·.2))
          simpa [List.map_map, Function.comp_def] using this)
        obtain ⟨c1, c2, c3⟩ := chunk_rel hx hur
        rw [Array.length_toList] at c2
        obtain ⟨q1, q2, q3⟩ := hr.fresh (w' := w.alloc (.cells us el)) (Φ' := fun b i => G.Φ b i ∨ (b = w.heap.size ∧ i < n * u.size)) ((Below.refl _ _).alloc (Nat.le_refl _) _) (fun b i h => .inl h)
          (fun b i hb h => h.resolve_right (fun h2 => by omega)) (fun b i h => by
            rcases h with h | ⟨h, _⟩
            · have := hr.fz b i h; simp; omega
            · simp; omega)
        have hown : OwnRel (fun b i => G.Φ b i ∨ (b = w.heap.size ∧ i < n * u.size)) (w.alloc (.cells us el)) G.B el u (x e) (.slice (some ⟨w.heap.size, 0, none⟩) n n) (some w.heap.size) := by
          refine ⟨rfl, us.toList, ⟨by rw [Array.length_toList, c1]; exact c2, .inr ⟨w.heap.size, n, us, by rw [c1], by rw [hr.B]; exact hr.bel.size, heap_alloc_new w _, by rw [c1]; exact Nat.le_refl _, ?_, c2, ?_⟩⟩, fun j y hj => (c3 j y hj).mono q2, fun g hg i => ?_⟩
          · have : n ≤ n * u.size := Nat.le_mul_of_pos_right _ hpos
            simp only [maxLen]; omega
          · rw [c1]; exact List.take_of_length_le (by rw [Array.length_toList]; omega)
          · cases hg
            rw [c1]
            exact ⟨fun h => h.elim (fun h => absurd (hr.fz _ _ h) (Nat.lt_irrefl _)) (fun h => h.2), fun h => .inr ⟨rfl, h⟩⟩
        have hput := (q1.newTok (bo := some w.heap.size) (fun g hg => by
          cases hg
          refine ⟨by show G.B ≤ _; rw [hr.B]; exact hr.bel.size, by simp, fun b hl => by have := (hr.live_lt hl).2; show G.ρ b ≠ _; omega, fun k hk hkg => ?_⟩
          have := (hr.tlo k _ hk hkg).2.1
          omega)).put (d := dst) hd (own_rel (z := decide (0 < n)) (G := { G with Φ := fun b i => G.Φ b i ∨ (b = w.heap.size ∧ i < n * u.size) }) (x := x) (el := el) hown (fun hz hx => by
          rw [decide_eq_true_eq] at hz
          have hl : (x e).length = 0 := by rw [hx]; rfl
          omega))
        rw [show ({ G with Φ := fun b i => G.Φ b i ∨ (b = w.heap.size ∧ i < n * u.size) } : Gh).nt = s.nt from hr.nt] at hput
        refine ⟨_, .slice (some ⟨w.heap.size, 0, none⟩) n n, _, ?_, .inl rfl, E, _, e, F, _, h, hF, hput, q2⟩
        simp only [execOp, Sem.run_bind, hrun, Result.andThen_ok, Sem.run_pure]
      · cases h
    · cases h
  · -- the bytes of a text
    rename_i src d x
    have hx := ev x
    split at h
    · rename_i el y hdst hxy
      rw [hxy] at hx
      obtain hv : a.eval x = _ := (List.cons.inj hx).1
      split at h
      · rename_i hel
        split at h
        · rename_i hsrc
          have hs := isStrT_spec hsrc
          obtain ⟨F1, hK, hc, hF1⟩ := guardIf_spec h hF
          have hbig0 := hc _ rfl
          simp only [okS, decide_eq_true_eq] at hbig0
          have hbig : (y e).size ≤ maxLen := hbig0
          have hrun := Lib.run_convert_string_bytes (P := P) w src d el (y e) hs hdst hel
          have hbel : Below w.heap.size w (Lib.bytesWorld w el (y e)) := ⟨by simp [Lib.bytesWorld, World.freeze, World.alloc, World.drew, -World.alloc_eq, -World.drew_eq], by simp [Lib.bytesWorld, World.freeze, World.alloc, World.drew, -World.alloc_eq, -World.drew_eq], by simp [Lib.bytesWorld, World.freeze, World.alloc, World.drew, -World.alloc_eq, -World.drew_eq], by rw [Lib.bytesWorld_size]; omega, fun k hk => Lib.bytesWorld_at_old w el (y e) k hk⟩
          obtain ⟨q1, q2, q3⟩ := hr.fresh (w' := Lib.bytesWorld w el (y e)) (Φ' := fun b i => G.Φ b i ∨ (b = w.heap.size ∧ i < (y e).size)) hbel (fun b i h => .inl h)
            (fun b i hb h => h.resolve_right (fun h2 => by omega)) (fun b i h => by
              rw [Lib.bytesWorld_size]
              rcases h with h | ⟨h, _⟩
              · have := hr.fz b i h; omega
              · omega)
          have hcap := grownCap_le_maxLen w (y e).size 0 el hbig
          have hge := grownCap_ge w (y e).size 0 el
          have hcr := bytes_rel (el := el) (y e) (Φ := fun b i => G.Φ b i ∨ (b = w.heap.size ∧ i < (y e).size)) (W := Lib.bytesWorld w el (y e)) (g := w.heap.size) hge hcap (fun j hj => ⟨.inr ⟨rfl, hj⟩, Lib.bytesWorld_cell w el (y e) j hj⟩)
          refine ⟨_, .slice (some ⟨w.heap.size, 0, none⟩) (y e).size (grownCap w (y e).size 0 el), _, ?_, .inl rfl, E, _, e, F1, _, hK, hF1, q1.put hd hcr, q2⟩
          simp only [execOp, hv, Sem.run_bind, hrun, Result.andThen_ok, Sem.run_pure]
        · cases h
      · cases h
    · cases h
  · -- calls of what is built in
    rename_i c
    obtain ⟨callee, args, ats⟩ := c
    simp only at h
    split at h
    · split at h
      · rename_i x y t u h1 h2 
        have hap : ∃ v w', (Builtin.append_ #[t, u] type #[a.eval x, a.eval y]).run P w = .ok v w' ∧ After Z w0 acts K r G w (a.put dst v) w' := by
          split at h
          · rename_i htu
            exact appendTo_sound (ty := type) h hF hr hd (ev x) (ev y)
          · exact appendStr_sound (ty := type) h hF hr hd (ev x) (ev y)
        obtain ⟨v, w', hrun, haft⟩ := hap
        have ha : args = #[x, y] := by apply Array.ext'; exact h1
        have hb : ats = #[t, u] := by apply Array.ext'; exact h2
        subst ha hb
        refine ⟨_, v, w', ?_, .inl rfl, haft⟩
        simp only [execOp, resolve, invoke, builtin, Sem.run_bind, Sem.run_pure, Result.andThen_ok, List.map_toArray, List.map_cons, List.map_nil, hrun]
      · cases h
    · cases h
  · cases h
    cases hF
  · -- a new map
    rename_i t
    split at h
    · rename_i kt et hu
      obtain ⟨h1, _, h2⟩ := hr.newBlk (K := .smap t []) (ob := .map #[] 0) (cs := []) (us := []) ⟨_, _, rfl, rfl, rfl⟩ rfl
      refine ⟨_, .map (some w.heap.size), w.alloc (.map #[] 0), ?_, .inl rfl, E, _, e, F, _, h, hF, h1.put hd h2, (newBlk_ext hr _).fz⟩
      simp only [execOp, Instr.makeMap, Option.map_none]
      rfl
    · cases h
  · -- into a map
    rename_i t m k v
    obtain ⟨w', h1, h2⟩ := updTo_sound h hF hr hd (ev m) (ev k) (ev v) (fun c hc => ckOf_val hc a)
    refine ⟨.skip, undef, w', ?_, .inr ⟨rfl, rfl⟩, h2⟩
    simp only [execOp, Sem.run_bind, h1, Result.andThen_ok, Sem.run_pure]
  · rename_i t m k v
    obtain ⟨w', h1, h2⟩ := updTo_sound h hF hr hd (ev m) (ev k) (ev v) (fun c hc => ckOf_val hc a)
    refine ⟨.skip, undef, w', ?_, .inr ⟨rfl, rfl⟩, h2⟩
    simp only [execOp, Sem.run_bind, h1, Result.andThen_ok, Sem.run_pure]
  · -- a walk along a text
    rename_i t x
    have hx := ev x
    split at h
    · rename_i y hxy
      rw [hxy] at hx
      obtain hv : a.eval x = _ := (List.cons.inj hx).1
      split at h
      · rename_i hs
        obtain ⟨h1, h2, _⟩ := hr.newBlk (K := .iter) (ob := .stringIter (y e) 0) (cs := [.sym .str y, .sym (.int .i64) fun _ => 0]) (us := [.string (y e), .int .i64 0]) ⟨_, _, rfl, rfl⟩ (.cons rfl (.cons rfl .nil))
        refine ⟨_, .pointer (some ⟨w.heap.size, 0, none⟩), w.alloc (.stringIter (y e) 0), ?_, .inl rfl, E, _, e, F, _, h, hF, h1.put hd h2, (newBlk_ext hr _).fz⟩
        simp [execOp, Instr.range, hv, run_underlying (isStrT_spec hs)]
      · cases h
    · cases h
  · rename_i it
    have hit := ev it
    split at h
    · rename_i b hb
      rw [hb] at hit
      obtain ⟨_, hv⟩ := hit
      split at h
      · rename_i y p hbk
        obtain ⟨f1, f2, hk1, hk2, rfl⟩ := splitB_spec h
        obtain ⟨us, ⟨t, q, hob, rfl⟩, hus, _⟩ := hr.blk b _ hbk
        obtain ⟨u1, r1, he1, g1, u2, r2, he2, g2, g3⟩ := hus
        simp only [List.cons.injEq] at he1
        obtain ⟨rfl, rfl⟩ := he1
        simp only [List.cons.injEq] at he2
        obtain ⟨rfl, rfl⟩ := he2
        have e1 : t = y e := by have := (List.cons.inj g1).1; simpa using this
        have e2 : @Eq Int (q : Int) (p e) := by have := (List.cons.inj g2).1; simpa using this
        subst e1
        obtain ⟨i1, _⟩ := iter_run (P := P) (w := w) (o' := .stringIter (y e) q) hob
        cases hq : ltI (p e) (lenS (y e)) with
        | true =>
          have hF1 : f1 e = some r := by rw [← hF]; simp only [hq, ifO]; rfl
          have hlt : q < (y e).size := by
            have hq' : @LT.lt Int _ (p e) (((y e).size : Nat) : Int) := of_decide_eq_true hq
            rw [← e2] at hq'
            exact Int.ofNat_lt.1 hq'
          have hpq : Int.toNat (p e) = q := by rw [← e2]; rfl
          obtain ⟨q1, q2⟩ := hr.lay (K' := .iter) (vs := [.sym .str y, .sym (.int .i64) fun e => runeN (y e) (p e)]) (us' := [.string (y e), .int .i64 (runeN (y e) (p e))]) (ob := .stringIter (y e) (q + (Utf8.decode (y e) q).2)) hbk ⟨_, _, rfl, by simp only [runeN, hpq]; rw [← e2]; simp⟩ (.cons rfl (.cons rfl .nil))
          refine ⟨.value (.tuple #[.bool true, .int .i64 (p e), .int .i32 (runeI (y e) (p e))]), _, _, ?_, .inl rfl, E, _, e, f1, G, hk1, hF1, q1.put (s := { s with blocks := s.blocks.set b (.cells .iter [.sym .str y, .sym (.int .i64) fun e => runeN (y e) (p e)]) }) hd (av := .tup [.cb true, .sym (.int .i64) p, .sym (.int .i32) fun e => runeI (y e) (p e)]) ⟨_, rfl, .cons rfl (.cons rfl (.cons rfl .nil))⟩, q2⟩
          simp [execOp, Instr.next, hv, i1, hlt, (iter_run (P := P) (w := w) (o' := .stringIter (y e) (q + (Utf8.decode (y e) q).2)) hob).2, goInt, runeI, hpq, e2]
        | false =>
          have hF2 : f2 e = some r := by rw [← hF]; simp only [hq, ifO]; rfl
          have hlt : ¬ q < (y e).size := by
            have hq' : ¬ @LT.lt Int _ (p e) (((y e).size : Nat) : Int) := of_decide_eq_false hq
            rw [← e2] at hq'
            exact fun hh => hq' (Int.ofNat_lt.2 hh)
          refine ⟨.value (.tuple #[.bool false]), _, w, ?_, .inl rfl, E, _, e, f2, G, hk2, hF2, hr.put hd (av := .tup [.cb false]) ⟨_, rfl, .cons rfl .nil⟩, .refl _ _⟩
          simp [execOp, Instr.next, hv, i1, hlt]
      · cases h
    · cases h
  · cases h
end
end Go.Proofs.YtkjjegjafpefcaaDoor.R
/- Joins and the heads of loops: a state that has a shape is told by its plain data. -/
namespace Go.Proofs.YtkjjegjafpefcaaDoor.R
open Go Go.RowKit
set_option linter.unusedVariables false
set_option linter.unusedSimpArgs false
section
variable {E D : Type} {G G' : Gh} {w w0 : World} {Z : Fz} {e : E} {d : D} {P : Program} {s : St E} {a : Act} {acts : List (Array Value)}
/-- The same memory, told with other tokens. -/
structure Retold (G G' : Gh) : Prop where
  Φ : G'.Φ = G.Φ
  ρ : G'.ρ = G.ρ
  B : G'.B = G.B
def tokOf (G : Gh) : Option Nat → Option (Option Nat)
  | some k => G.γ k
  | none => some none
/-- The tokens of a part of the state have their places from k on. -/
def ToksAt (G G' : Gh) (ks : List (Option Nat)) (k : Nat) : Prop := ∀ m o, ks[m]? = some o → k + m < G'.nt ∧ G'.γ (k + m) = tokOf G o
def LeavesAt (leaf : (t : Ty) → Nat → D → t.den) (d : D) (e : E) (ls : List (Leaf E)) (i : Nat) : Prop := ∀ (m : Nat) (t : Ty) (x : E → t.den), ls[m]? = some ⟨t, x⟩ → leaf t (i + m) d = x e
theorem ToksAt.split {ks ls : List (Option Nat)} {k : Nat} (h : ToksAt G G' (ks ++ ls) k) : ToksAt G G' ks k ∧ ToksAt G G' ls (k + ks.length) :=
  ⟨fun m o hm => h m o (by rw [List.getElem?_append_left (List.getElem?_eq_some_iff.1 hm).1]; exact hm), fun m o hm => by
    have := h (ks.length + m) o (by rw [List.getElem?_append_right (by omega), Nat.add_sub_cancel_left]; exact hm)
    rw [← Nat.add_assoc] at this
    exact this⟩
theorem LeavesAt.split {leaf : (t : Ty) → Nat → D → t.den} {ks ls : List (Leaf E)} {k : Nat} (h : LeavesAt leaf d e (ks ++ ls) k) : LeavesAt leaf d e ks k ∧ LeavesAt leaf d e ls (k + ks.length) :=
  ⟨fun m t x hm => h m t x (by rw [List.getElem?_append_left (List.getElem?_eq_some_iff.1 hm).1]; exact hm), fun m t x hm => by
    have := h (ks.length + m) t x (by rw [List.getElem?_append_right (by omega), Nat.add_sub_cancel_left]; exact hm)
    rw [← Nat.add_assoc] at this
    exact this⟩
theorem crel_retold (hG : Retold G G') {t : Ty} {x : t.den} {us : List Value} (h : CRel G.Φ w t x us) : CRel G'.Φ w t x us := by rw [hG.Φ]; exact h
theorem ownrel_retold (hG : Retold G G') {el : TypeId} {t : Ty} {xs : List t.den} {v : Value} {bo : Option Nat} (h : OwnRel G.Φ w G.B el t xs v bo) : OwnRel G'.Φ w G'.B el t xs v bo := by rw [hG.Φ, hG.B]; exact h
/-- What a pattern takes, and makes anew. -/
structure TM (leaf : (t : Ty) → Nat → D → t.den) (G G' : Gh) (w : World) (d : D) (ls : List (Leaf E)) (ks : List (Option Nat)) (m : Made D (AV D)) (i k : Nat) (v : Value) : Prop where
  rel : m.val.Rel G' w d v
  i : m.i = i + ls.length
  k : m.k = k + ks.length
structure TMs (leaf : (t : Ty) → Nat → D → t.den) (G G' : Gh) (w : World) (d : D) (ls : List (Leaf E)) (ks : List (Option Nat)) (m : Made D (List (AV D))) (i k : Nat) (vs : List Value) : Prop where
  rel : AV.Rels G' w d m.val vs
  i : m.i = i + ls.length
  k : m.k = k + ks.length
mutual
theorem take_make (leaf : (t : Ty) → Nat → D → t.den) (hG : Retold G G') : ∀ (p : Pat) (av : AV E) (ls : List (Leaf E)) (i k : Nat) (v : Value), p.take av = some ls → p.ok G'.nb = true → av.Rel G w e v → LeavesAt leaf d e ls i → ToksAt G G' (p.toks av) k →
    TM leaf G G' w d ls (p.toks av) (p.make leaf i k) i k v
  | .undef, av, ls, i, k, v, h, _, hr, hl, ht => by
    simp only [Pat.take, Option.some.injEq] at h
    subst h
    have : Pat.toks .undef av = [] := by cases av <;> rfl
    rw [this]
    exact ⟨trivial, rfl, rfl⟩
  | .sym t, av, ls, i, k, v, h, _, hr, hl, ht => by
    simp only [Pat.take, Option.map_eq_some_iff] at h
    obtain ⟨x, hx, rfl⟩ := h
    have : Pat.toks (.sym t) av = [] := by cases av <;> rfl
    rw [this]
    refine ⟨?_, rfl, rfl⟩
    show CRel G'.Φ w t (leaf t i d) [v]
    rw [show leaf t i d = x e from hl 0 t x rfl]
    exact crel_retold hG (AV.to1_rel hx hr)
  | .cb b, av, ls, i, k, v, h, _, hr, hl, ht => by
    cases av with
    | cb b' =>
      simp only [Pat.take] at h
      split at h
      · rename_i hb
        obtain rfl := Option.some.inj h
        exact ⟨by rw [hb]; exact hr, rfl, rfl⟩
      · cases h
    | _ => simp [Pat.take] at h
  | .nilsl, av, ls, i, k, v, h, _, hr, hl, ht => by
    cases av with
    | nilsl => simp only [Pat.take, Option.some.injEq] at h; subst h; exact ⟨hr, rfl, rfl⟩
    | _ => simp [Pat.take] at h
  | .full el t, av, ls, i, k, v, h, _, hr, hl, ht => by
    cases av with
    | full el' t' x =>
      simp only [Pat.take, Option.map_eq_some_iff] at h
      obtain ⟨y, hy, rfl⟩ := h
      refine ⟨?_, rfl, rfl⟩
      refine ⟨?_, hr.2⟩
      rw [show leaf (.sl el t) i d = y e from hl 0 (.sl el t) y rfl]
      exact crel_retold hG (castTo_rel (t := .sl el' t') hy hr.1)
    | _ => simp [Pat.take] at h
  | .own z el t, av, ls, i, k, v, h, _, hr, hl, ht => by
    cases av with
    | own z' k' el' t' x =>
      simp only [Pat.take] at h
      split at h
      · cases h
      rename_i hzz
      rw [Option.map_eq_some_iff] at h
      obtain ⟨y, hy, rfl⟩ := h
      obtain ⟨h1, h2⟩ := ht 0 (some k') rfl
      obtain ⟨h3, hz, bo, h4, h5⟩ := hr
      obtain ⟨he, hy'⟩ := castTo_spec hy
      cases he
      rw [show y = x from hy'] at hl
      have hle : leaf (.sl el t) i d = x e := hl 0 (.sl el t) x rfl
      refine ⟨⟨h1, fun hzt hx => ?_, bo, h2.trans h4, ?_⟩, rfl, rfl⟩
      · refine hz ?_ (hle.symm.trans hx)
        rw [hzt] at hzz
        simpa using hzz
      · rw [hle]
        exact ownrel_retold hG h5
    | nilsl =>
      simp only [Pat.take, Option.some.injEq] at h
      subst h
      obtain ⟨h1, h2⟩ := ht 0 none rfl
      refine ⟨⟨h1, fun _ _ => hr, none, h2, ?_⟩, rfl, rfl⟩
      rw [show leaf (.sl el t) i d = [] from hl 0 (.sl el t) (fun _ => []) rfl, show v = _ from hr]
      exact ⟨rfl, [], World.ownsRow_nil w _ _ _, (fun j x hj => by simp at hj), (fun g hg => nomatch hg)⟩
    | _ => simp [Pat.take] at h
  | .ptr b o, av, ls, i, k, v, h, hok, hr, hl, ht => by
    cases av with
    | ptr b' o' =>
      simp only [Pat.take] at h
      split at h
      · rename_i hb
        simp only [Bool.and_eq_true, decide_eq_true_eq] at hb
        obtain ⟨rfl, rfl⟩ := hb
        obtain rfl := Option.some.inj h
        exact ⟨⟨by simpa [Pat.ok] using hok, by rw [hG.ρ]; exact hr.2⟩, rfl, rfl⟩
      · cases h
    | _ => simp [Pat.take] at h
  | .np b o, av, ls, i, k, v, h, hok, hr, hl, ht => by
    cases av with
    | nilp =>
      simp only [Pat.take, Option.some.injEq] at h
      subst h
      exact ⟨.inl hr, rfl, rfl⟩
    | ptr b' o' =>
      simp only [Pat.take] at h
      split at h
      · rename_i hb
        simp only [Bool.and_eq_true, decide_eq_true_eq] at hb
        obtain ⟨rfl, rfl⟩ := hb
        obtain rfl := Option.some.inj h
        exact ⟨.inr ⟨by simpa [Pat.ok] using hok, by rw [hG.ρ]; exact hr.2⟩, rfl, rfl⟩
      · cases h
    | np b' o' =>
      simp only [Pat.take] at h
      split at h
      · rename_i hb
        simp only [Bool.and_eq_true, decide_eq_true_eq] at hb
        obtain ⟨rfl, rfl⟩ := hb
        obtain rfl := Option.some.inj h
        exact ⟨hr.imp id fun hr => ⟨by simpa [Pat.ok] using hok, by rw [hG.ρ]; exact hr.2⟩, rfl, rfl⟩
      · cases h
    | _ => simp [Pat.take] at h
  | .nilp, av, ls, i, k, v, h, _, hr, hl, ht => by
    cases av with
    | nilp => simp only [Pat.take, Option.some.injEq] at h; subst h; exact ⟨hr, rfl, rfl⟩
    | _ => simp [Pat.take] at h
  | .ag ps, av, ls, i, k, v, h, hok, hr, hl, ht => by
    cases av with
    | ag cs =>
      obtain ⟨us, hv, h1⟩ := hr
      have := takes_make leaf hG ps cs ls i k us.toList (by simpa only [Pat.take] using h) (by simpa only [Pat.ok] using hok) h1 hl ht
      exact ⟨⟨us, hv, this.rel⟩, this.i, this.k⟩
    | _ => simp [Pat.take] at h
  | .mp b, av, ls, i, k, v, h, hok, hr, hl, ht => by
    cases av with
    | mp b' =>
      simp only [Pat.take] at h
      split at h
      · rename_i hb
        subst hb
        obtain rfl := Option.some.inj h
        exact ⟨⟨by simpa [Pat.ok] using hok, by rw [hG.ρ]; exact hr.2⟩, rfl, rfl⟩
      · cases h
    | _ => simp [Pat.take] at h
  | .ents kd vd, av, ls, i, k, v, h, hok, hr, hl, ht => by
    cases av with
    | ents kd' vd' x =>
      simp only [Pat.take, Option.map_eq_some_iff] at h
      obtain ⟨y, hy, rfl⟩ := h
      obtain ⟨hty, hyx⟩ := castTo_spec hy
      simp only [Ty.sl.injEq, Ty.pair.injEq, true_and] at hty
      obtain ⟨rfl, rfl⟩ := hty
      obtain rfl : y = x := hyx
      refine ⟨?_, rfl, rfl⟩
      obtain ⟨us, hv, h1⟩ := hr
      refine ⟨us, hv, ?_⟩
      rw [show leaf (.sl 0 (.pair kd' vd')) i d = y e from hl 0 (.sl 0 (.pair kd' vd')) y rfl, hG.Φ]
      exact h1
    | _ => simp [Pat.take] at h
  | .fn f ps, av, ls, i, k, v, h, hok, hr, hl, ht => by
    cases av with
    | fn g cs =>
      simp only [Pat.take] at h
      split at h
      · rename_i hf
        subst hf
        obtain ⟨us, hv, h1⟩ := hr
        have := takes_make leaf hG ps cs ls i k us.toList h (by simpa only [Pat.ok] using hok) h1 hl ht
        exact ⟨⟨us, hv, this.rel⟩, this.i, this.k⟩
      · cases h
    | _ => simp [Pat.take] at h
theorem takes_make (leaf : (t : Ty) → Nat → D → t.den) (hG : Retold G G') : ∀ (ps : List Pat) (cs : List (AV E)) (ls : List (Leaf E)) (i k : Nat) (vs : List Value), Pat.takes ps cs = some ls → Pat.oks G'.nb ps = true → AV.Rels G w e cs vs → LeavesAt leaf d e ls i → ToksAt G G' (Pat.tokss ps cs) k →
    TMs leaf G G' w d ls (Pat.tokss ps cs) (Pat.makes leaf ps i k) i k vs
  | [], cs, ls, i, k, vs, h, _, hr, hl, ht => by
    cases cs with
    | nil => simp only [Pat.takes, Option.some.injEq] at h; subst h; exact ⟨hr, rfl, rfl⟩
    | cons c cs => simp [Pat.takes] at h
  | p :: ps, cs, ls, i, k, vs, h, hok, hr, hl, ht => by
    cases cs with
    | nil => simp [Pat.takes] at h
    | cons c cs =>
      simp only [Pat.takes, Option.bind_eq_some_iff] at h
      obtain ⟨x, hx, y, hy, h⟩ := h
      obtain rfl := Option.some.inj h
      obtain ⟨u, r, rfl, h1, h2⟩ := hr
      simp only [Pat.oks, Bool.and_eq_true] at hok
      obtain ⟨l1, l2⟩ := hl.split
      obtain ⟨t1, t2⟩ := ht.split
      have a1 := take_make leaf hG p c x i k u hx hok.1 h1 l1 t1
      have a2 := takes_make leaf hG ps cs y (p.make leaf i k).i (p.make leaf i k).k r hy hok.2 h2 (by rw [a1.i]; exact l2) (by rw [a1.k]; exact t2)
      refine ⟨.cons a1.rel a2.rel, ?_, ?_⟩
      · show (Pat.makes leaf ps (p.make leaf i k).i (p.make leaf i k).k).i = _
        rw [a2.i, a1.i, List.length_append]; omega
      · show (Pat.makes leaf ps (p.make leaf i k).i (p.make leaf i k).k).k = _
        rw [a2.k, a1.k]
        show _ = k + (p.toks c ++ Pat.tokss ps cs).length
        rw [List.length_append]; omega
end
end
end Go.Proofs.YtkjjegjafpefcaaDoor.R
/- A state that has a shape is told by its plain data: the whole state. -/
namespace Go.Proofs.YtkjjegjafpefcaaDoor.R
open Go Go.RowKit
set_option linter.unusedVariables false
set_option linter.unusedSimpArgs false
section
variable {E D : Type} {G G' : Gh} {w w0 : World} {Z : Fz} {e : E} {d : D} {P : Program} {s : St E} {a : Act} {acts : List (Array Value)}
theorem env_make (leaf : (t : Ty) → Nat → D → t.den) (hG : Retold G G') {env : Env E} {t : Array Value} (hr : EnvRel G w e env t) : ∀ (ps : List (Nat × Pat)) (ls : List (Leaf E)) (i k : Nat), env.takes ps = some ls → (ps.all fun p => p.2.ok G'.nb) = true → LeavesAt leaf d e ls i → ToksAt G G' (env.tokss ps) k →
    EnvRel G' w d (Env.makes leaf ps i k).val t ∧ (Env.makes leaf ps i k).i = i + ls.length ∧ (Env.makes leaf ps i k).k = k + (env.tokss ps).length
  | [], ls, i, k, h, _, hl, ht => by
    simp only [Env.takes, Option.some.injEq] at h
    subst h
    exact ⟨fun u => trivial, rfl, rfl⟩
  | (u, p) :: ps, ls, i, k, h, hok, hl, ht => by
    simp only [Env.takes, Option.bind_eq_some_iff] at h
    obtain ⟨x, hx, y, hy, h⟩ := h
    obtain rfl := Option.some.inj h
    rw [List.all_cons, Bool.and_eq_true] at hok
    obtain ⟨l1, l2⟩ := hl.split
    obtain ⟨t1, t2⟩ := ht.split
    have a1 := take_make leaf hG p (env.get u) x i k _ hx hok.1 (hr u) l1 t1
    obtain ⟨a2, a3, a4⟩ := env_make leaf hG hr ps y (p.make leaf i k).i (p.make leaf i k).k hy hok.2 (by rw [a1.i]; exact l2) (by rw [a1.k]; exact t2)
    refine ⟨fun v => ?_, ?_, ?_⟩
    · show (Env.get ((u, (p.make leaf i k).val) :: (Env.makes leaf ps (p.make leaf i k).i (p.make leaf i k).k).val) v).Rel G' w d _
      unfold Env.get
      by_cases hv : u = v
      · subst hv; rw [if_pos rfl]; exact a1.rel
      · rw [if_neg hv]; exact a2 v
    · show (Env.makes leaf ps (p.make leaf i k).i (p.make leaf i k).k).i = _
      rw [a3, a1.i, List.length_append]; omega
    · show (Env.makes leaf ps (p.make leaf i k).i (p.make leaf i k).k).k = _
      rw [a4, a1.k]
      show _ = k + (p.toks (env.get u) ++ env.tokss ps).length
      rw [List.length_append]; omega
theorem stack_make (leaf : (t : Ty) → Nat → D → t.den) (hG : Retold G G') : ∀ (ss : List (Env E)) (ts : List (Array Value)) (ps : List (List (Nat × Pat))) (ls : List (Leaf E)) (i k : Nat), StkRel G w e ss ts → stackTakes ss ps = some ls → (ps.all fun l => l.all fun p => p.2.ok G'.nb) = true → LeavesAt leaf d e ls i → ToksAt G G' (stackToks ss ps) k →
    StkRel G' w d (stackMakes leaf ps i k).val ts ∧ (stackMakes leaf ps i k).i = i + ls.length ∧ (stackMakes leaf ps i k).k = k + (stackToks ss ps).length
  | [], ts, ps, ls, i, k, hr, h, _, hl, ht => by
    cases ps with
    | nil => simp only [stackTakes, Option.some.injEq] at h; subst h; exact ⟨hr, rfl, rfl⟩
    | cons p ps => simp [stackTakes] at h
  | s :: ss, ts, ps, ls, i, k, hr, h, hok, hl, ht => by
    cases ps with
    | nil => simp [stackTakes] at h
    | cons p ps =>
      obtain ⟨t, ts', rfl, h1, h2⟩ := hr
      simp only [stackTakes, Option.bind_eq_some_iff] at h
      obtain ⟨x, hx, y, hy, h⟩ := h
      obtain rfl := Option.some.inj h
      rw [List.all_cons, Bool.and_eq_true] at hok
      obtain ⟨l1, l2⟩ := hl.split
      obtain ⟨t1, t2⟩ := ht.split
      obtain ⟨a1, a2, a3⟩ := env_make leaf hG h1 p x i k hx hok.1 l1 t1
      obtain ⟨b1, b2, b3⟩ := stack_make leaf hG ss ts' ps y (Env.makes leaf p i k).i (Env.makes leaf p i k).k h2 hy hok.2 (by rw [a2]; exact l2) (by rw [a3]; exact t2)
      refine ⟨⟨t, ts', rfl, a1, b1⟩, ?_, ?_⟩
      · show (stackMakes leaf ps (Env.makes leaf p i k).i (Env.makes leaf p i k).k).i = _
        rw [b2, a2, List.length_append]; omega
      · show (stackMakes leaf ps (Env.makes leaf p i k).i (Env.makes leaf p i k).k).k = _
        rw [b3, a3]
        show _ = k + (s.tokss p ++ stackToks ss ps).length
        rw [List.length_append]; omega
theorem blk_make (leaf : (t : Ty) → Nat → D → t.den) (hG : Retold G G') : ∀ (bs : List (Blk E)) (b0 : Nat) (ps : List (Option (BK × List Pat))) (ls : List (Leaf E)) (i k : Nat), (∀ b B, bs[b]? = some B → BlkRel G w e (b0 + b) B) → blkTakes bs ps = some ls →
    (ps.all fun b => match b with | none => true | some (_, q) => Pat.oks G'.nb q) = true → LeavesAt leaf d e ls i → ToksAt G G' (blkToks bs ps) k →
    (∀ b B, (blkMakes leaf ps i k).val[b]? = some B → BlkRel G' w d (b0 + b) B ∧ (Live (blkMakes leaf ps i k).val b → Live bs b)) ∧ (blkMakes leaf ps i k).val.length = ps.length ∧ (blkMakes leaf ps i k).i = i + ls.length ∧ (blkMakes leaf ps i k).k = k + (blkToks bs ps).length
  | bs, b0, [], ls, i, k, hr, h, _, hl, ht => by
    have : ls = [] := by cases bs <;> simp [blkTakes] at h <;> exact h
    subst this
    refine ⟨fun b B hB => by simp [blkMakes] at hB, rfl, rfl, ?_⟩
    cases bs with
    | nil => rfl
    | cons b bs => cases b <;> rfl
  | [], b0, p :: ps, ls, i, k, hr, h, _, hl, ht => by cases p <;> simp [blkTakes] at h
  | b :: bs, b0, none :: ps, ls, i, k, hr, h, hok, hl, ht => by
    have htk : blkToks (b :: bs) (none :: ps) = blkToks bs ps := by cases b <;> rfl
    have htt : blkTakes (b :: bs) (none :: ps) = blkTakes bs ps := by cases b <;> rfl
    rw [htk] at ht ⊢
    rw [htt] at h
    rw [List.all_cons, Bool.and_eq_true] at hok
    obtain ⟨a1, a2, a3, a4⟩ := blk_make leaf hG bs (b0 + 1) ps ls i k (fun b' B hB => by
      have := hr (b' + 1) B (by simpa using hB)
      rw [show b0 + (b' + 1) = b0 + 1 + b' by omega] at this
      exact this) h hok.2 hl ht
    refine ⟨fun b' B hB => ?_, by show (blkMakes leaf ps i k).val.length + 1 = _; rw [a2]; rfl, a3, a4⟩
    cases b' with
    | zero =>
      have : B = .dead := by simpa [blkMakes] using hB.symm
      subst this
      exact ⟨trivial, fun ⟨el, cs, hh⟩ => by simp [blkMakes] at hh⟩
    | succ b' =>
      have hB' : (blkMakes leaf ps i k).val[b']? = some B := by simpa [blkMakes] using hB
      obtain ⟨h1, h2⟩ := a1 b' B hB'
      rw [show b0 + 1 + b' = b0 + (b' + 1) by omega] at h1
      refine ⟨h1, fun ⟨el, cs, hh⟩ => ?_⟩
      obtain ⟨el', cs', h3⟩ := h2 ⟨el, cs, by simpa [blkMakes] using hh⟩
      exact ⟨el', cs', by simpa using h3⟩
  | b :: bs, b0, some (el, q) :: ps, ls, i, k, hr, h, hok, hl, ht => by
    cases b with
    | dead => simp [blkTakes] at h
    | cells el' cs =>
      simp only [blkTakes] at h
      split at h
      · rename_i hel
        subst hel
        simp only [Option.bind_eq_some_iff] at h
        obtain ⟨x, hx, y, hy, h⟩ := h
        obtain rfl := Option.some.inj h
        rw [List.all_cons, Bool.and_eq_true] at hok
        obtain ⟨l1, l2⟩ := hl.split
        obtain ⟨t1, t2⟩ := ht.split
        obtain ⟨us, hu, hus, hno⟩ := hr 0 _ rfl
        have c1 := takes_make leaf hG q cs x i k us hx hok.1 hus l1 t1
        obtain ⟨a1, a2, a3, a4⟩ := blk_make leaf hG bs (b0 + 1) ps y (Pat.makes leaf q i k).i (Pat.makes leaf q i k).k (fun b' B hB => by
          have := hr (b' + 1) B (by simpa using hB)
          rw [show b0 + (b' + 1) = b0 + 1 + b' by omega] at this
          exact this) hy hok.2 (by rw [c1.i]; exact l2) (by rw [c1.k]; exact t2)
        refine ⟨fun b' B hB => ?_, by show (blkMakes leaf ps _ _).val.length + 1 = _; rw [a2]; rfl, ?_, ?_⟩
        · cases b' with
          | zero =>
            have : B = .cells el' (Pat.makes leaf q i k).val := by simpa [blkMakes] using hB.symm
            subst this
            exact ⟨⟨us, by rw [hG.ρ]; exact hu, c1.rel, by rw [hG.ρ, hG.Φ]; exact hno⟩, fun _ => ⟨el', cs, rfl⟩⟩
          | succ b' =>
            have hB' : (blkMakes leaf ps (Pat.makes leaf q i k).i (Pat.makes leaf q i k).k).val[b']? = some B := by simpa [blkMakes] using hB
            obtain ⟨h1, h2⟩ := a1 b' B hB'
            rw [show b0 + 1 + b' = b0 + (b' + 1) by omega] at h1
            refine ⟨h1, fun ⟨el2, cs2, hh⟩ => ?_⟩
            obtain ⟨el3, cs3, h3⟩ := h2 ⟨el2, cs2, by simpa [blkMakes] using hh⟩
            exact ⟨el3, cs3, by simpa using h3⟩
        · show (blkMakes leaf ps (Pat.makes leaf q i k).i (Pat.makes leaf q i k).k).i = _
          rw [a3, c1.i, List.length_append]; omega
        · show (blkMakes leaf ps (Pat.makes leaf q i k).i (Pat.makes leaf q i k).k).k = _
          rw [a4, c1.k]
          show _ = k + (Pat.tokss q cs ++ blkToks bs ps).length
          rw [List.length_append]; omega
      · split at h
        · rename_i mt ks kd vd hne
          simp only [Option.bind_eq_some_iff] at h
          obtain ⟨x, hx, y, hy, h⟩ := h
          obtain rfl := Option.some.inj h
          rw [List.all_cons, Bool.and_eq_true] at hok
          have htk : blkToks (.cells (.smap mt ks) cs :: bs) (some (.dmap, [.ents kd vd]) :: ps) = blkToks bs ps := by
            cases cs <;> simp [blkToks, Pat.tokss, Pat.toks]
          rw [htk] at ht ⊢
          obtain ⟨us, ⟨ens, clk, hm, hks, rfl⟩, hus, hno⟩ := hr 0 _ rfl
          have hmi := MapIs.of_keys hx hks hus
          obtain ⟨l1, l2⟩ := LeavesAt.split (ks := [⟨.sl 0 (.pair kd vd), x⟩]) (ls := y) hl
          obtain ⟨a1, a2, a3, a4⟩ := blk_make leaf hG bs (b0 + 1) ps y (i + 1) k (fun b' B hB => by
            have := hr (b' + 1) B (by simpa using hB)
            rw [show b0 + (b' + 1) = b0 + 1 + b' by omega] at this
            exact this) hy hok.2 l2 ht
          refine ⟨fun b' B hB => ?_, by show (blkMakes leaf ps (i + 1) k).val.length + 1 = _; rw [a2]; rfl, ?_, ?_⟩
          · cases b' with
            | zero =>
              have : B = .cells .dmap [.ents kd vd (leaf (.sl 0 (.pair kd vd)) i)] := by simpa [blkMakes, Pat.makes, Pat.make] using hB.symm
              subst this
              refine ⟨⟨[.agg (ens.map fun en => .agg #[en.key, en.val])], by rw [hG.ρ]; exact ⟨ens, clk, hm, rfl⟩, .cons ⟨_, rfl, ?_⟩ .nil, by rw [hG.ρ, hG.Φ]; exact hno⟩, fun _ => ⟨_, _, rfl⟩⟩
              rw [show leaf (.sl 0 (.pair kd vd)) i d = x e from l1 0 (.sl 0 (.pair kd vd)) x rfl, hG.Φ, Array.toList_map]
              exact hmi.ents
            | succ b' =>
              have hB' : (blkMakes leaf ps (i + 1) k).val[b']? = some B := by simpa [blkMakes, Pat.makes, Pat.make] using hB
              obtain ⟨h1, h2⟩ := a1 b' B hB'
              rw [show b0 + 1 + b' = b0 + (b' + 1) by omega] at h1
              refine ⟨h1, fun ⟨el2, cs2, hh⟩ => ?_⟩
              obtain ⟨el3, cs3, h3⟩ := h2 ⟨el2, cs2, by simpa [blkMakes, Pat.makes, Pat.make] using hh⟩
              exact ⟨el3, cs3, by simpa using h3⟩
          · show (blkMakes leaf ps (i + 1) k).i = _
            rw [a3, List.length_cons]; omega
          · exact a4
        · cases h
/-! ### tokens -/
mutual
theorem toks_lt : ∀ (p : Pat) (av : AV E) (v : Value), av.Rel G w e v → ∀ k, some k ∈ p.toks av → k < G.nt ∧ ∃ bo, G.γ k = some bo
  | .own z el t, av, v, hr, k, hk => by
    cases av with
    | own z' k' el' t' x =>
      simp only [Pat.toks, List.mem_singleton, Option.some.injEq] at hk
      subst hk
      obtain ⟨h1, _, bo, h2, _⟩ := hr
      exact ⟨h1, bo, h2⟩
    | _ => simp [Pat.toks] at hk
  | .ag ps, av, v, hr, k, hk => by
    cases av with
    | ag cs => obtain ⟨us, _, h⟩ := hr; exact tokss_lt ps cs us.toList h k hk
    | _ => simp [Pat.toks] at hk
  | .fn f ps, av, v, hr, k, hk => by
    cases av with
    | fn g cs => obtain ⟨us, _, h⟩ := hr; exact tokss_lt ps cs us.toList h k hk
    | _ => simp [Pat.toks] at hk
  | .undef, av, v, hr, k, hk => by cases av <;> simp [Pat.toks] at hk
  | .sym t, av, v, hr, k, hk => by cases av <;> simp [Pat.toks] at hk
  | .cb b, av, v, hr, k, hk => by cases av <;> simp [Pat.toks] at hk
  | .nilsl, av, v, hr, k, hk => by cases av <;> simp [Pat.toks] at hk
  | .full el t, av, v, hr, k, hk => by cases av <;> simp [Pat.toks] at hk
  | .ptr b o, av, v, hr, k, hk => by cases av <;> simp [Pat.toks] at hk
  | .nilp, av, v, hr, k, hk => by cases av <;> simp [Pat.toks] at hk
  | .mp b, av, v, hr, k, hk => by cases av <;> simp [Pat.toks] at hk
  | .ents kd vd, av, v, hr, k, hk => by cases av <;> simp [Pat.toks] at hk
theorem tokss_lt : ∀ (ps : List Pat) (cs : List (AV E)) (vs : List Value), AV.Rels G w e cs vs → ∀ k, some k ∈ Pat.tokss ps cs → k < G.nt ∧ ∃ bo, G.γ k = some bo
  | [], cs, vs, hr, k, hk => by cases cs <;> simp [Pat.tokss] at hk
  | p :: ps, [], vs, hr, k, hk => by simp [Pat.tokss] at hk
  | p :: ps, c :: cs, vs, hr, k, hk => by
    obtain ⟨u, r, rfl, h1, h2⟩ := hr
    rw [Pat.tokss, List.mem_append] at hk
    rcases hk with hk | hk
    · exact toks_lt p c u h1 k hk
    · exact tokss_lt ps cs r h2 k hk
end
theorem env_toks_lt {env : Env E} {t : Array Value} (hr : EnvRel G w e env t) : ∀ (ps : List (Nat × Pat)) (k : Nat), some k ∈ env.tokss ps → k < G.nt ∧ ∃ bo, G.γ k = some bo
  | [], k, hk => by simp [Env.tokss] at hk
  | (u, p) :: ps, k, hk => by
    rw [Env.tokss, List.mem_append] at hk
    rcases hk with hk | hk
    · exact toks_lt p _ _ (hr u) k hk
    · exact env_toks_lt hr ps k hk
theorem stack_toks_lt : ∀ (ss : List (Env E)) (ts : List (Array Value)) (ps : List (List (Nat × Pat))), StkRel G w e ss ts → ∀ k, some k ∈ stackToks ss ps → k < G.nt ∧ ∃ bo, G.γ k = some bo
  | [], ts, ps, hr, k, hk => by cases ps <;> simp [stackToks] at hk
  | s :: ss, ts, [], hr, k, hk => by simp [stackToks] at hk
  | s :: ss, ts, p :: ps, hr, k, hk => by
    obtain ⟨t, ts', rfl, h1, h2⟩ := hr
    rw [stackToks, List.mem_append] at hk
    rcases hk with hk | hk
    · exact env_toks_lt h1 p k hk
    · exact stack_toks_lt ss ts' ps h2 k hk
theorem blk_toks_lt : ∀ (bs : List (Blk E)) (b0 : Nat) (ps : List (Option (BK × List Pat))), (∀ b B, bs[b]? = some B → BlkRel G w e (b0 + b) B) → ∀ k, some k ∈ blkToks bs ps → k < G.nt ∧ ∃ bo, G.γ k = some bo
  | [], b0, ps, hr, k, hk => by cases ps with
    | nil => simp [blkToks] at hk
    | cons p ps => cases p <;> simp [blkToks] at hk
  | b :: bs, b0, [], hr, k, hk => by cases b <;> simp [blkToks] at hk
  | b :: bs, b0, none :: ps, hr, k, hk => by
    have htk : blkToks (b :: bs) (none :: ps) = blkToks bs ps := by cases b <;> rfl
    rw [htk] at hk
    exact blk_toks_lt bs (b0 + 1) ps (fun b' B hB => by
      have := hr (b' + 1) B (by simpa using hB)
      rw [show b0 + (b' + 1) = b0 + 1 + b' by omega] at this
      exact this) k hk
  | .dead :: bs, b0, some (el, q) :: ps, hr, k, hk => by simp [blkToks] at hk
  | .cells el' cs :: bs, b0, some (el, q) :: ps, hr, k, hk => by
    obtain ⟨us, hu, hus, hno⟩ := hr 0 _ rfl
    rw [blkToks, List.mem_append] at hk
    rcases hk with hk | hk
    · exact tokss_lt q cs us hus k hk
    · exact blk_toks_lt bs (b0 + 1) ps (fun b' B hB => by
        have := hr (b' + 1) B (by simpa using hB)
        rw [show b0 + (b' + 1) = b0 + 1 + b' by omega] at this
        exact this) k hk
end
end Go.Proofs.YtkjjegjafpefcaaDoor.R
/- A state that has a shape is told by its plain data: the end. -/
namespace Go.Proofs.YtkjjegjafpefcaaDoor.R
open Go Go.RowKit
set_option linter.unusedVariables false
set_option linter.unusedSimpArgs false
section
variable {E D : Type} {G G' : Gh} {w w0 : World} {Z : Fz} {e : E} {d : D} {P : Program} {s : St E} {a : Act} {acts : List (Array Value)}
theorem getTup_cast {u t : Ty} {x : u.den} {y : t.den} {f : E → u.den} {g : E → t.den} (h : castTo u t f = some g) : (if h : t = u then (h ▸ g e : u.den) else u.dft) = f e := by
  obtain ⟨ht, hg⟩ := castTo_spec h
  subst ht
  rw [show g = f from hg]
  simp
theorem mkTup_get : ∀ {l : List Ty} {ls : List (Leaf E)} {lv : E → Tup l}, mkTup l ls = some lv → ∀ (i : Nat) (t : Ty) (x : E → t.den), ls[i]? = some ⟨t, x⟩ → getTup l t i (lv e) = x e
  | [], ls, lv, h, i, t, x, hi => by
    cases ls with
    | nil => simp at hi
    | cons c ls => simp [mkTup] at h
  | [u], ls, lv, h, i, t, x, hi => by
    match ls, h with
    | [], h => simp [mkTup] at h
    | [⟨v, y⟩], h =>
      cases i with
      | zero =>
        simp only [List.getElem?_cons_zero, Option.some.injEq] at hi
        cases hi
        have hc : castTo t u x = some lv := by simpa only [mkTup] using h
        obtain ⟨ht, hg⟩ := castTo_spec hc
        subst ht
        rw [show lv = x from hg]
        simp [getTup]
      | succ i => simp at hi
    | _ :: _ :: _, h => simp [mkTup] at h
  | u :: v :: r, ls, lv, h, i, t, x, hi => by
    match ls, h with
    | [], h => simp [mkTup] at h
    | ⟨v', y⟩ :: ls, h =>
      simp only [mkTup, Option.bind_eq_some_iff] at h
      obtain ⟨p, hp, q, hq, h⟩ := h
      obtain rfl := Option.some.inj h
      cases i with
      | zero =>
        simp only [List.getElem?_cons_zero, Option.some.injEq] at hi
        cases hi
        obtain ⟨ht, hg⟩ := castTo_spec hp
        subst ht
        rw [show p = x from hg]
        simp [getTup]
      | succ i =>
        have := mkTup_get hq i t x (by simpa using hi)
        simpa only [getTup] using this
theorem someToks_mem : ∀ {ks : List (Option Nat)} {m k : Nat}, ks[m]? = some (some k) → k ∈ someToks ks
  | none :: ks, m, k, h => by
    cases m with
    | zero => simp at h
    | succ m => exact someToks_mem (ks := ks) (m := m) (by simpa using h)
  | some j :: ks, m, k, h => by
    cases m with
    | zero => simp at h; subst h; exact List.mem_cons_self ..
    | succ m => exact List.mem_cons_of_mem _ (someToks_mem (ks := ks) (m := m) (by simpa using h))
theorem distinct_inj : ∀ {ks : List (Option Nat)} {m m' k : Nat}, distinct (someToks ks) = true → ks[m]? = some (some k) → ks[m']? = some (some k) → m = m'
  | none :: ks, m, m', k, hd, h, h' => by
    cases m with
    | zero => simp at h
    | succ m =>
      cases m' with
      | zero => simp at h'
      | succ m' => exact congrArg (· + 1) (distinct_inj (ks := ks) (k := k) hd (by simpa using h) (by simpa using h'))
  | some j :: ks, m, m', k, hd, h, h' => by
    simp only [someToks, distinct, Bool.and_eq_true, Bool.not_eq_true'] at hd
    cases m with
    | zero =>
      simp at h; subst h
      cases m' with
      | zero => rfl
      | succ m' =>
        have := someToks_mem (ks := ks) (m := m') (by simpa using h')
        have hc : (someToks ks).contains j = true := List.contains_iff_mem.2 this
        rw [hd.1] at hc; cases hc
    | succ m =>
      cases m' with
      | zero =>
        simp at h'; subst h'
        have := someToks_mem (ks := ks) (m := m) (by simpa using h)
        have hc : (someToks ks).contains j = true := List.contains_iff_mem.2 this
        rw [hd.1] at hc; cases hc
      | succ m' => exact congrArg (· + 1) (distinct_inj (ks := ks) (k := k) hd.2 (by simpa using h) (by simpa using h'))
theorem take_sound {S : Shp} {size : Nat} {lv : E → S.V} (h : S.take size s = some lv) (hr : RelG Z w0 s e acts a w G) : ∃ G' : Gh, RelG Z w0 (S.make size) (lv e) acts a w G' ∧ FExt G.Φ w G'.Φ w := by
  unfold Shp.take at h
  split at h
  rotate_left
  · cases h
  rename_i hck
  rw [Bool.and_eq_true, decide_eq_true_eq] at hck
  obtain ⟨hsize, hok⟩ := hck
  simp only [Shp.ok, Bool.and_eq_true] at hok
  obtain ⟨⟨ok1, ok2⟩, ok3⟩ := hok
  simp only [Option.bind_eq_some_iff] at h
  obtain ⟨x, hx, y, hy, z, hz, h⟩ := h
  split at h
  rotate_left
  · cases h
  rename_i hdist
  generalize hks : s.tmps.tokss S.tmps ++ (stackToks s.stack S.stack ++ blkToks s.blocks S.blocks) = ks at hdist
  let G' : Gh := { G with γ := fun m => (ks[m]?).bind (tokOf G), nb := S.blocks.length, nt := ks.length }
  have hG : Retold G G' := ⟨rfl, rfl, rfl⟩
  have htoks : ToksAt G G' ks 0 := fun m o hm => ⟨by rw [Nat.zero_add]; exact (List.getElem?_eq_some_iff.1 hm).1, by show (ks[0 + m]?).bind (tokOf G) = _; rw [Nat.zero_add, hm]; rfl⟩
  have hleaf : LeavesAt (fun (t : Ty) (i : Nat) (v : S.V) => getTup S.tys t i v) (lv e) e (x ++ (y ++ z)) 0 := fun m t f hm => by rw [Nat.zero_add]; exact mkTup_get h m t f hm
  rw [← hks] at htoks
  obtain ⟨t1, t23⟩ := htoks.split
  obtain ⟨t2, t3⟩ := t23.split
  obtain ⟨l1, l23⟩ := hleaf.split
  obtain ⟨l2, l3⟩ := l23.split
  obtain ⟨a1, a2, a3⟩ := env_make (fun (t : Ty) (i : Nat) (v : S.V) => getTup S.tys t i v) hG hr.tm S.tmps x 0 0 hx ok1 l1 t1
  obtain ⟨b1, b2, b3⟩ := stack_make (fun (t : Ty) (i : Nat) (v : S.V) => getTup S.tys t i v) hG s.stack acts S.stack y (Env.makes (fun (t : Ty) (i : Nat) (v : S.V) => getTup S.tys t i v) S.tmps 0 0).i (Env.makes (fun (t : Ty) (i : Nat) (v : S.V) => getTup S.tys t i v) S.tmps 0 0).k hr.stk hy ok2 (by rw [a2]; exact l2) (by rw [a3]; exact t2)
  obtain ⟨c1, c2, c3, c4⟩ := blk_make (fun (t : Ty) (i : Nat) (v : S.V) => getTup S.tys t i v) hG s.blocks 0 S.blocks z (stackMakes (fun (t : Ty) (i : Nat) (v : S.V) => getTup S.tys t i v) S.stack (Env.makes (fun (t : Ty) (i : Nat) (v : S.V) => getTup S.tys t i v) S.tmps 0 0).i (Env.makes (fun (t : Ty) (i : Nat) (v : S.V) => getTup S.tys t i v) S.tmps 0 0).k).i (stackMakes (fun (t : Ty) (i : Nat) (v : S.V) => getTup S.tys t i v) S.stack (Env.makes (fun (t : Ty) (i : Nat) (v : S.V) => getTup S.tys t i v) S.tmps 0 0).i (Env.makes (fun (t : Ty) (i : Nat) (v : S.V) => getTup S.tys t i v) S.tmps 0 0).k).k (fun b B hB => by rw [Nat.zero_add]; exact hr.blk b B hB) hz ok3 (by rw [b2, a2]; exact l3) (by rw [b3, a3]; exact t3)
  have hlt : ∀ k, some k ∈ ks → k < G.nt := by
    intro k hk
    rw [← hks, List.mem_append, List.mem_append] at hk
    rcases hk with hk | hk | hk
    · exact (env_toks_lt hr.tm _ k hk).1
    · exact (stack_toks_lt _ _ _ hr.stk k hk).1
    · exact (blk_toks_lt s.blocks 0 _ (fun b B hB => by rw [Nat.zero_add]; exact hr.blk b B hB) k hk).1
  have hγ : ∀ m g, G'.γ m = some (some g) → ∃ k, ks[m]? = some (some k) ∧ k < G.nt ∧ G.γ k = some (some g) := by
    intro m g hm
    have hm' : (ks[m]?).bind (tokOf G) = some (some g) := hm
    rw [Option.bind_eq_some_iff] at hm'
    obtain ⟨o, ho, hg⟩ := hm'
    cases o with
    | none => cases hg
    | some k => exact ⟨k, ho, hlt k (List.mem_of_getElem? ho), hg⟩
  have hlive : ∀ b, Live (S.make size).blocks b → Live s.blocks b := by
    rintro b ⟨el, cs, hb⟩
    exact (c1 b _ hb).2 ⟨el, cs, hb⟩
  refine ⟨G', ⟨hr.B, hr.bel, hr.defers, hr.size.trans hsize, c2.symm, ?_, hr.fz, a1, b1, fun b B hB => ?_, fun b hl => hr.lo b (hlive b hl), fun b b' hl hl' => hr.inj b b' (hlive b hl) (hlive b' hl'), fun k g _ hg => ?_, fun k k' g _ _ hg hg' => ?_, hr.zz⟩, .refl _ _⟩
  · show ks.length = _
    have : (S.make size).nt = (blkMakes (fun (t : Ty) (i : Nat) (v : S.V) => getTup S.tys t i v) S.blocks (stackMakes (fun (t : Ty) (i : Nat) (v : S.V) => getTup S.tys t i v) S.stack (Env.makes (fun (t : Ty) (i : Nat) (v : S.V) => getTup S.tys t i v) S.tmps 0 0).i (Env.makes (fun (t : Ty) (i : Nat) (v : S.V) => getTup S.tys t i v) S.tmps 0 0).k).i (stackMakes (fun (t : Ty) (i : Nat) (v : S.V) => getTup S.tys t i v) S.stack (Env.makes (fun (t : Ty) (i : Nat) (v : S.V) => getTup S.tys t i v) S.tmps 0 0).i (Env.makes (fun (t : Ty) (i : Nat) (v : S.V) => getTup S.tys t i v) S.tmps 0 0).k).k).k := rfl
    rw [this, c4, b3, a3, ← hks, List.length_append, List.length_append]
    omega
  · have := (c1 b B hB).1
    rw [Nat.zero_add] at this
    exact this
  · obtain ⟨j, _, h2, h3⟩ := hγ k g hg
    obtain ⟨p1, p2, p3⟩ := hr.tlo j g h2 h3
    exact ⟨p1, p2, fun b hl => p3 b (hlive b hl)⟩
  · obtain ⟨j, h1, h2, h3⟩ := hγ k g hg
    obtain ⟨j', h1', h2', h3'⟩ := hγ k' g hg'
    obtain rfl := hr.tinj j j' g h2 h2' h3 h3'
    exact distinct_inj hdist h1 h1'
end
end Go.Proofs.YtkjjegjafpefcaaDoor.R
