/- Every operation that changes something -/
import Derived.Test.YtmmbedlegmbppaaDoorQ4
import Derived.Laws.MakeOwn
/- Maps, and walks along texts, that the call makes: what is done with them. -/
namespace Go.Proofs.YtmmbedlegmbppaaDoor.R
open Go Go.RowKit
set_option linter.unusedVariables false
set_option linter.unusedSimpArgs false
section
variable {E : Type} {G : Gh} {w w0 : World} {Z : Zf} {e : E} {P : Program} {s : St E} {a : Act} {acts : List (Array Value)} {R : Type} {K : Kont R} {r : R}
theorem CK.to_inj {kd : Ty} {c c' : CK} {y : kd.den} (h : c.to kd = some y) (h' : c'.to kd = some y) : c = c' := by
  cases c <;> simp only [CK.to] at h <;> (split at h <;> first | cases h | skip) <;> (rename_i q1; subst q1)
  all_goals (cases c' <;> simp [CK.to] at h')
  · obtain ⟨rfl, h'⟩ := h'; cases h'; rfl
  · cases h'; rfl
  · cases h'; rfl
theorem find_none {kd : Ty} {d : TypeDesc} {vk : Value} {c : CK} {y : kd.den} (hc : c.to kd = some y) {Φ : Fz} (hn : ∀ (y z : kd.den) (u v : Value), VRel Φ w kd y u → VRel Φ w kd z v → Instr.sameNow d u v = some (eqD kd y z) ∧ (eqD kd y z = true → y = z ∧ Instr.sameBits 10000 v u = true)) (hv : vk = c.val) :
    ∀ (ks : List CK) (ens : List MapEntry) (i : Nat), ens.map (·.key) = ks.map CK.val → (ks.all fun c' => (c'.to kd).isSome && c' != c) = true → Instr.findNow d vk ens i = some none
  | [], ens, i, h, _ => by rw [List.map_eq_nil_iff.1 h]; rfl
  | k :: ks, ens, i, h, ha => by
    cases ens with
    | nil => simp at h
    | cons en ens =>
      simp only [List.map_cons, List.cons.injEq] at h
      simp only [List.all_cons, Bool.and_eq_true, bne_iff_ne] at ha
      obtain ⟨⟨h1, h2⟩, h3⟩ := ha
      obtain ⟨z, hz⟩ := Option.isSome_iff_exists.1 h1
      obtain ⟨s1, s2⟩ := hn y z vk en.key (by rw [hv]; exact CK.to_val hc) (by rw [h.1]; exact CK.to_val hz)
      have hf : eqD kd y z = false := by
        cases he : eqD kd y z with
        | false => rfl
        | true => obtain ⟨rfl, _⟩ := s2 he; exact absurd (CK.to_inj hz hc) h2
      rw [hf] at s1
      unfold Instr.findNow
      rw [s1]
      exact find_none hc hn hv ks ens (i + 1) h.2 (by simpa only [List.all_eq_true, Bool.and_eq_true, bne_iff_ne] using h3)
theorem setObj_run {ob o' : Obj} {g : Nat} (h : w.heap[g]? = some ob) (hb : ∃ ens clk, ob = .map ens clk) : (setObj g o').run P w = .ok () { w with heap := w.heap.setIfInBounds g o' } := by
  obtain ⟨ens, clk, rfl⟩ := hb
  exact MapKept.run_setObj_map _ h
theorem iter_run {t : ByteArray} {p : Nat} {o' : Obj} {g : Nat} (h : w.heap[g]? = some (.stringIter t p)) : (getObj g).run P w = .ok (.stringIter t p) w ∧ (setObj g o').run P w = .ok () { w with heap := w.heap.setIfInBounds g o' } := by
  constructor
  · simp [getObj, Sem.run, h]
  · simp [setObj, Sem.run, h]
/-- A block of our own is laid anew. -/
theorem RelG.lay (hr : RelG Z w0 s e acts a w G) {b : Nat} {K K' : BK} {cs vs : List (AV E)} {us' : List Value} {ob : Obj} (hb : s.blocks[b]? = some (.cells K cs)) (hk : KIs (some ob) us' K') (hv : AV.Rels G w e vs us') :
    RelG Z w0 { s with blocks := s.blocks.set b (.cells K' vs) } e acts a { w with heap := w.heap.setIfInBounds (G.ρ b) ob } G ∧ FExt G.Φ w G.Φ { w with heap := w.heap.setIfInBounds (G.ρ b) ob } := by
  have hlt := (hr.live_lt ⟨K, cs, hb⟩).2
  refine hr.turn hb rfl rfl rfl (by simp) (fun g hg => ?_) ?_ hv
  · exact Array.getElem?_setIfInBounds_ne (Ne.symm hg)
  · show KIs ((w.heap.setIfInBounds (G.ρ b) ob)[G.ρ b]?) us' K'
    rw [Array.getElem?_setIfInBounds_self_of_lt hlt]; exact hk
theorem updTo_sound {dst : Option Tmp} {t : TypeId} {m k v : AV E} {ck : Option CK} {vm vk vv : Value} {F : E → Option R} (h : updTo P s dst t m ck k v K = some F) (hF : F e = some r) (hr : RelG Z w0 s e acts a w G) (hd : dstOk' s dst)
    (hm : m.Rel G w e vm) (hk : k.Rel G w e vk) (hv : v.Rel G w e vv) (hck : ∀ c, ck = some c → vk = c.val) :
    ∃ w', (Instr.mapUpdate t vm vk vv).run P w = .ok () w' ∧ After Z w0 acts K r G w (a.put dst undef) w' := by
  unfold updTo at h
  split at h
  · rename_i kt et b hu
    obtain ⟨_, rfl⟩ := hm
    split at h
    · -- a key that is known
      rename_i c mt ks vs hbk
      simp only [Option.bind_eq_some_iff] at h
      obtain ⟨kd, hkd, y, hy, h⟩ := h
      split at h
      · rename_i hall
        have hvk := hck c rfl
        obtain ⟨us, ⟨ens, clk, hm, hks, rfl, hbo⟩, hus, _⟩ := hr.blk b _ hbk
        obtain ⟨dd, hdd, hnow, hchk⟩ := key_now (P := P) (w := w) (Φ := G.Φ) hkd
        have hfn := find_none hy hnow hvk ks ens.toList 0 hks hall
        have hyr : VRel G.Φ w kd y vk := by rw [hvk]; exact CK.to_val hy
        obtain ⟨q1, q2⟩ := hr.lay (K' := .smap mt (ks ++ [c])) (vs := vs ++ [v]) (us' := ens.toList.map (·.val) ++ [vv]) (ob := .map (ens.push { key := vk, val := vv, born := clk }) (clk + 1)) hbk ⟨_, _, rfl, by simp [hks, hvk], by simp, hbo.push _ _⟩ (hus.append (.cons hv .nil))
        refine ⟨_, ?_, E, _, e, F, G, h, hF, q1.put (s := { s with blocks := s.blocks.set b (.cells (.smap mt (ks ++ [c])) (vs ++ [v])) }) hd (av := .tup []) (v := undef) ⟨#[], rfl, rfl⟩, q2⟩
        simp [Instr.mapUpdate, run_underlying hu, MapKept.run_getObj_map hm, hchk _ _ _ hyr w, MapKept.run_findKey hdd hfn, MapKept.run_setObj_map _ hm]
      · cases h
    · simp only [Option.bind_eq_some_iff] at h
      obtain ⟨kd, hkd, x, hx, y, hy, u, hu2, h⟩ := h
      obtain ⟨ens, clk, hm, hmi, ⟨el, cs, hbk⟩, hbo⟩ := ents_rel hx hr.blk
      obtain ⟨dd, hdd, hnow, hchk⟩ := key_now (P := P) (w := w) (Φ := G.Φ) hkd
      have hyr := to_vrel hy hk
      have hur := to_vrel hu2 hv
      have fin : ∀ (ens' : Array MapEntry) (clk' : Nat), BornOK ens' clk' → MapIs G.Φ w kd x.vd (putM kd x.vd (x.x e) (y e) (u e)) ens'.toList → (Instr.mapUpdate t (.map (some (G.ρ b))) vk vv).run P w = .ok () { w with heap := w.heap.setIfInBounds (G.ρ b) (.map ens' clk') } →
          ∃ w', (Instr.mapUpdate t (.map (some (G.ρ b))) vk vv).run P w = .ok () w' ∧ After Z w0 acts K r G w (a.put dst undef) w' := by
        intro ens' clk' hbo' hi hrun
        obtain ⟨q1, q2⟩ := hr.lay (K' := .dmap) (vs := [.ents kd x.vd fun e => putM kd x.vd (x.x e) (y e) (u e)]) (us' := [.agg (ens'.map fun en => .agg #[en.key, en.val])]) (ob := .map ens' clk') hbk ⟨_, _, rfl, rfl, hbo'⟩ (.cons ⟨_, rfl, by rw [Array.toList_map]; exact hi.ents⟩ .nil)
        exact ⟨_, hrun, E, _, e, F, G, h, hF, q1.put (s := { s with blocks := s.blocks.set b (.cells .dmap [.ents kd x.vd fun e => putM kd x.vd (x.x e) (y e) (u e)]) }) hd (av := .tup []) (v := undef) ⟨#[], rfl, rfl⟩, q2⟩
      rcases find_run hnow hyr (u e) (x.x e) ens.toList 0 hmi with ⟨a1, _, _, a4⟩ | ⟨j, en, a1, a2, _, _, a5, a6⟩
      · refine fin (ens.push { key := vk, val := vv, born := clk }) (clk + 1) (hbo.push _ _) ?_ ?_
        · rw [a4, Array.toList_push]; exact hmi.push hyr hur
        · simp [Instr.mapUpdate, run_underlying hu, MapKept.run_getObj_map hm, hchk _ _ _ hyr w, MapKept.run_findKey hdd a1, MapKept.run_setObj_map _ hm]
      · rw [Nat.zero_add] at a1
        have a2' : ens[j]? = some en := by rw [← Array.getElem?_toList]; exact a2
        refine fin (ens.modify j fun e => { e with key := vk, val := vv }) clk (hbo.modify j vk vv) ?_ ?_
        · rw [Array.toList_modify]; exact a6 (u e) vv hur
        · simp [Instr.mapUpdate, run_underlying hu, MapKept.run_getObj_map hm, hchk _ _ _ hyr w, MapKept.run_findKey hdd a1, MapKept.run_setObj_map _ hm, a2', Instr.keyThatStays, a5]
  · cases h
theorem lookK_spec {dst : Option Tmp} {kd : Ty} {d : TypeDesc} {y : E → kd.den} {vk : Value} (hn : ∀ (y z : kd.den) (u v : Value), VRel G.Φ w kd y u → VRel G.Φ w kd z v → Instr.sameNow d u v = some (eqD kd y z) ∧ (eqD kd y z = true → y = z ∧ Instr.sameBits 10000 v u = true)) (hy : VRel G.Φ w kd (y e) vk) {z : AV E} :
    ∀ (ks : List CK) (vs : List (AV E)) (ens : List MapEntry) (i : Nat) (F : E → Option R), lookK s dst K kd y z ks vs = some F → F e = some r → ens.map (·.key) = ks.map CK.val → AV.Rels G w e vs (ens.map (·.val)) →
      (∃ f, Instr.findNow d vk ens i = some none ∧ K E (s.put dst (.tup [z, .cb false])) = some f ∧ f e = some r) ∨
      (∃ j v en f, Instr.findNow d vk ens i = some (some (j, en)) ∧ v.Rel G w e en ∧ K E (s.put dst (.tup [v, .cb true])) = some f ∧ f e = some r)
  | [], vs, ens, i, F, h, hF, hk, hv => by
    cases vs with
    | nil =>
      rw [List.map_eq_nil_iff.1 hk]
      exact .inl ⟨F, rfl, h, hF⟩
    | cons v vs => simp [lookK] at h
  | k :: ks, vs, ens, i, F, h, hF, hk, hv => by
    cases vs with
    | nil => simp [lookK] at h
    | cons v vs =>
      cases ens with
      | nil => simp at hk
      | cons en ens =>
        simp only [List.map_cons, List.cons.injEq] at hk
        obtain ⟨u', r', he, h1, h2⟩ := hv
        simp only [List.map_cons, List.cons.injEq] at he
        obtain ⟨rfl, rfl⟩ := he
        simp only [lookK, Option.bind_eq_some_iff] at h
        obtain ⟨u, hu, h⟩ := h
        obtain ⟨f1, f2, hk1, hk2, rfl⟩ := splitB_spec h
        obtain ⟨s1, s2⟩ := hn (y e) u vk en.key hy (by rw [hk.1]; exact CK.to_val hu)
        cases hq : eqD kd (y e) u with
        | true =>
          right
          rw [hq] at s1
          refine ⟨i, v, en.val, f1, by simp only [Instr.findNow, s1], h1, hk1, ?_⟩
          rw [← hF]; simp only [hq, ifO]; rfl
        | false =>
          rw [hq] at s1
          have hF2 : f2 e = some r := by rw [← hF]; simp only [hq, ifO]; rfl
          rcases lookK_spec hn hy ks vs ens (i + 1) f2 hk2 hF2 hk.2 h2 with ⟨f, a1, a2, a3⟩ | ⟨j, v', en', f, a1, a2, a3, a4⟩
          · exact .inl ⟨f, by simp only [Instr.findNow, s1]; exact a1, a2, a3⟩
          · exact .inr ⟨j, v', en', f, by simp only [Instr.findNow, s1]; exact a1, a2, a3, a4⟩
theorem lookCase_sound {o : Oper} {kd : Ty} {y : E → kd.den} {ks : List CK} {vs : List (AV E)} {z : AV E} {F : E → Option R} (hc : lookCase P s o.op = some ⟨kd, y, ks, vs, z⟩) (h : lookK s o.dst K kd y z ks vs = some F) (hF : F e = some r) (ht : EnvRel G w e s.tmps a.tmps) (hb : BlksRel G w e s.blocks) :
    ∃ v av f, (execOp a.eval o).run P w = .ok (.value v) w ∧ av.Rel G w e v ∧ K E (s.put o.dst av) = some f ∧ f e = some r := by
  have ev := ev_rel ht
  obtain ⟨dst, op, type, pos, after, guard⟩ := o
  simp only at hc h ⊢
  unfold lookCase at hc
  split at hc
  · rename_i t m k
    split at hc
    · rename_i kt et b hu hm
      have hmr := ev m
      rw [hm] at hmr
      obtain ⟨_, hmv⟩ := hmr
      split at hc
      · rename_i mt ks' vs' hbk
        simp only [Option.bind_eq_some_iff, Option.map_eq_some_iff] at hc
        obtain ⟨kd', hkd, y', hy, z', hz, hc⟩ := hc
        simp only [Sigma.mk.injEq] at hc
        obtain ⟨rfl, hc⟩ := hc
        simp only [heq_eq_eq, Prod.mk.injEq] at hc
        obtain ⟨rfl, rfl, rfl, rfl⟩ := hc
        obtain ⟨us, ⟨ens, clk, hmm, hks, rfl, _⟩, hus, _⟩ := hb b _ hbk
        obtain ⟨zv, hzr, hzrun⟩ := zeroAV_run (G := G) (w := w) (e := e) hz
        obtain ⟨dd, hdd, hnow, hck⟩ := key_now (P := P) (w := w) (Φ := G.Φ) hkd
        have hyr := to_vrel hy (ev k)
        rcases lookK_spec hnow hyr ks' vs' ens.toList 0 F h hF hks hus with ⟨f, a1, a2, a3⟩ | ⟨j, v, en, f, a1, a2, a3, a4⟩
        · refine ⟨.tuple #[zv, .bool false], .tup [z', .cb false], f, ?_, ⟨_, rfl, zv, _, rfl, hzr, _, _, rfl, rfl, rfl⟩, a2, a3⟩
          simp [execOp, hmv, Instr.lookup, run_underlying hu, MapKept.run_getObj_map hmm, hck _ _ _ hyr w, MapKept.run_findKey hdd a1, hzrun w]
        · refine ⟨.tuple #[en, .bool true], .tup [v, .cb true], f, ?_, ⟨_, rfl, en, _, rfl, a2, _, _, rfl, rfl, rfl⟩, a3, a4⟩
          simp [execOp, hmv, Instr.lookup, run_underlying hu, MapKept.run_getObj_map hmm, hck _ _ _ hyr w, MapKept.run_findKey hdd a1]
      · cases hc
    · cases hc
  · cases hc
theorem ckOf_val {o : Operand} {c : CK} (h : ckOf o = some c) (a : Act) : a.eval o = c.val := by
  unfold ckOf at h
  split at h <;> first | (cases h; rfl) | cases h
end
end Go.Proofs.YtmmbedlegmbppaaDoor.R
/- Every operation that changes something. -/
namespace Go.Proofs.YtmmbedlegmbppaaDoor.R
open Go Go.RowKit
set_option linter.unusedVariables false
set_option linter.unusedSimpArgs false
section
variable {E : Type} {G : Gh} {w w0 : World} {Z : Zf} {e : E} {P : Program} {s : St E} {a : Act} {acts : List (Array Value)} {R : Type} {K : Kont R} {r : R}
theorem bytes_rel (x : ByteArray) {Φ : Fz} {W : World} {g : Nat} {el : TypeId} {c : Nat} (hc : x.size ≤ c) (hm : c ≤ 9223372036854775807) (h : ∀ j, j < x.size → Φ g j ∧ W.cell? ⟨g, j, none⟩ = some (.int .u8 (x.data.toList.getD j 0).toNat)) : CRel Φ W (.sl el (.int .u8)) (bytesI x) [.slice (some ⟨g, 0, none⟩) x.size c] := by
  have hl : (bytesI x).length = x.size := by unfold bytesI; rw [List.length_map]; exact Array.length_toList
  refine ⟨_, c, by rw [hl], by rw [hl]; exact hc, hm, g, 0, .inr rfl, fun j y hj => ⟨[.int .u8 y], rfl, rfl, fun i u hu => ?_⟩⟩
  have hjl : j < x.size := by rw [← hl]; exact (List.getElem?_eq_some_iff.1 hj).1
  have hi : i = 0 := by
    rcases Nat.eq_zero_or_pos i with h | h
    · exact h
    · rw [List.getElem?_eq_none (by simp; omega)] at hu; cases hu
  subst hi
  simp only [List.getElem?_cons_zero, Option.some.injEq] at hu
  subst hu
  rw [show 0 + j * (Ty.int IntKind.u8).size + 0 = j by simp [Ty.size]]
  refine ⟨(h j hjl).1, (h j hjl).2.trans ?_⟩
  have : y = ((x.data.toList.getD j 0).toNat : Int) := by
    unfold bytesI at hj
    rw [List.getElem?_map, Option.map_eq_some_iff] at hj
    obtain ⟨b, hb, rfl⟩ := hj
    rw [List.getD_eq_getElem?_getD, hb]; rfl
  rw [this]
theorem change_sound {o : Oper} {F : E → Option R} (h : change P s o K = some F) (hF : F e = some r) (hr : RelG Z w0 s e acts a w G) (hd : dstOk' s o.dst) :
    ∃ nx v w', (execOp a.eval o).run P w = .ok nx w' ∧ (nx = .value v ∨ (nx = .skip ∧ v = undef)) ∧ After Z w0 acts K r G w (a.put o.dst v) w' := by
  have ev := ev_rel hr.tm
  have evs := evs_rel hr.tm
  obtain ⟨dst, op, type, pos, after, guard⟩ := o
  unfold change at h
  simp only at h hd ⊢
  split at h
  · -- alloc
    rename_i el
    rw [Option.bind_eq_some_iff] at h
    obtain ⟨z, hz, h⟩ := h
    obtain ⟨zv, hzc, hzr⟩ := zero_run hz w
    obtain ⟨h1, h2, _⟩ := hr.newBlk (K := .row el) (ob := .cells z el) (cs := z.toList.map constAV) (us := z.toList) rfl (consts_rel _)
    refine ⟨_, .pointer (some ⟨w.heap.size, 0, none⟩), w.alloc (.cells z el), ?_, .inl rfl, E, _, e, F, _, h, hF, h1.put hd h2, (newBlk_ext hr _).fz⟩
    simp only [execOp, Instr.alloc, Sem.run_bind, hzr, Result.andThen_ok, newVar, newRow, hzc]
    rfl
  · -- box
    rename_i el x
    rw [Option.bind_eq_some_iff] at h
    obtain ⟨cs, hcs, h⟩ := h
    obtain ⟨hc1, _⟩ := AV.cells_rel hcs (ev x)
    obtain ⟨h1, h2, _⟩ := hr.newBlk (K := .row el) (ob := .cells (a.eval x).cells el) (us := (a.eval x).cells.toList) rfl hc1
    refine ⟨_, .pointer (some ⟨w.heap.size, 0, none⟩), w.alloc (.cells (a.eval x).cells el), ?_, .inl rfl, E, _, e, F, _, h, hF, h1.put hd h2, (newBlk_ext hr _).fz⟩
    simp only [execOp, Instr.box, Sem.run_bind, Result.andThen_ok, newVar, newRow]
    rfl
  · -- store
    rename_i t ad x
    have had := ev ad
    split at h
    · rename_i b o' hb
      rw [hb] at had
      split at h
      · rename_i el cs hbk
        rw [Option.bind_eq_some_iff] at h
        obtain ⟨vs, hvs, h⟩ := h
        split at h
        · rename_i hck
          simp only [Bool.and_eq_true, decide_eq_true_eq] at hck
          obtain ⟨⟨hlen, hle⟩, hi⟩ := hck
          obtain ⟨hc1, hc2⟩ := AV.cells_rel hvs (ev x)
          obtain ⟨us0, hu, hus, hno⟩ := hr.blk b _ hbk
          obtain ⟨us, rfl⟩ : ∃ us : Array Value, us0 = us.toList := ⟨us0.toArray, rfl⟩
          replace hu : w.heap[G.ρ b]? = some (.cells us el (0, 0)) := hu
          have l1 := hc1.length
          have l2 := hus.length
          rw [Array.length_toList] at l1 l2
          have hfit : o' + (a.eval x).cells.toList.length ≤ us.size := by rw [Array.length_toList]; omega
          obtain ⟨h1, h2⟩ := hr.store (o := o') hbk hu hus hc1 hfit
          refine ⟨.skip, undef, _, ?_, .inr ⟨rfl, rfl⟩, E, _, e, F, _, h, hF, h1.put (s := { s with blocks := s.blocks.set b (.cells (.row el) (putCells cs o' vs)) }) hd (v := undef) ⟨#[], rfl, rfl⟩, h2⟩
          have hsz : (sizeOf t).run P w = .ok (sizeT P t) w := size_run rfl hi w
          have hne : ¬ ((a.eval x).cells.size ≠ sizeT P t) := by omega
          have hst := run_storeCells_at (P := P) (G.ρ b) o' el (a.eval x).cells.toList 0 us w hu (by rw [Nat.add_zero]; exact hfit) hc2
          rw [Nat.add_zero] at hst
          simp only [execOp, Instr.storeAt, had.2, Instr.sureAddr, Sem.run_bind, Sem.run_pure, Result.andThen_ok, storeVar, hsz, if_neg hne, hst]
        · cases h
      · cases h
    · cases h
  · -- a slice that is laid
    rename_i t n ps
    split at h
    · rename_i el ht
      split at h
      · simp only [Option.bind_eq_some_iff] at h
        obtain ⟨z, hz, h⟩ := h
        split at h
        · rename_i hck
          simp only [Bool.and_eq_true, decide_eq_true_eq] at hck
          obtain ⟨⟨hzs, hpos⟩, hn⟩ := hck
          simp only [Option.bind_eq_some_iff] at h
          obtain ⟨cs, hcs, h⟩ := h
          obtain ⟨us, hur, hrun⟩ := buildSlice_run (G := G) (w := w) (e := e) (vs := ps.map fun (i, x) => (i, a.eval x)) ht hz hzs hzs hpos hn hcs (by simp [List.map_map, Function.comp_def]) (by
            have := evs (ps.toList.map (·.2))
            simpa [List.map_map, Function.comp_def] using this)
          obtain ⟨h1, h2, _⟩ := hr.newBlk (K := .row el) (ob := .cells us el) (cs := cs) (us := us.toList) rfl hur
          have hb : (AV.bsl (E := E) s.blocks.length 0 n).Rel (G.newBlk w) (w.alloc (.cells us el)) e (.slice (some ⟨w.heap.size, 0, none⟩) n n) := by
            obtain ⟨q1, q2⟩ := h2
            refine ⟨q1, n, Nat.le_refl _, ?_⟩
            simp only [Value.pointer.injEq, Option.some.injEq, Addr.mk.injEq] at q2
            rw [← q2.1]
          refine ⟨_, .slice (some ⟨w.heap.size, 0, none⟩) n n, w.alloc (.cells us el), ?_, .inl rfl, E, _, e, F, _, h, hF, h1.put hd hb, (newBlk_ext hr _).fz⟩
          simp only [execOp, Sem.run_bind, hrun, Result.andThen_ok, Sem.run_pure]
        · cases h
      rename_i u hu
      simp only [Option.bind_eq_some_iff] at h
      obtain ⟨z, hz, h⟩ := h
      split at h
      · rename_i hck
        simp only [Bool.and_eq_true, decide_eq_true_eq] at hck
        obtain ⟨⟨⟨hzs, hus⟩, hpos⟩, hn⟩ := hck
        simp only [Option.bind_eq_some_iff] at h
        obtain ⟨cs, hcs, x, hx, h⟩ := h
        obtain ⟨us, hur, hrun⟩ := buildSlice_run (G := G) (w := w) (e := e) (vs := ps.map fun (i, x) => (i, a.eval x)) ht hz hzs hus hpos hn hcs (by simp [List.map_map, Function.comp_def]) (by
          have := evs (ps.toList.map (·.2))
          simpa [List.map_map, Function.comp_def] using this)
        obtain ⟨c1, c2, c3⟩ := chunk_rel hx hur
        rw [Array.length_toList] at c2
        obtain ⟨q1, q2, q3⟩ := hr.fresh (w' := w.alloc (.cells us el)) (Φ' := fun b i => G.Φ b i ∨ (b = w.heap.size ∧ i < n * u.size)) ((Below.refl _ _).alloc (Nat.le_refl _) _) (fun b i h => .inl h)
          (fun b i hb h => h.resolve_right (fun h2 => by omega)) (fun b i h => by
            rcases h with h | ⟨h, _⟩
            · have := hr.fz b i h; simp; omega
            · simp; omega)
        have hown : OwnRel (fun b i => G.Φ b i ∨ (b = w.heap.size ∧ i < n * u.size)) (w.alloc (.cells us el)) G.B el u (x e) (.slice (some ⟨w.heap.size, 0, none⟩) n n) (some w.heap.size) := by
          refine ⟨rfl, us.toList, ⟨by rw [Array.length_toList, c1]; exact c2, .inr ⟨w.heap.size, n, us, by rw [c1], by rw [hr.B]; exact hr.bel.size, heap_alloc_new w _, by rw [c1]; exact Nat.le_refl _, ?_, c2, ?_⟩⟩, fun j y hj => (c3 j y hj).mono q2, fun g hg i => ?_⟩
          · have : n ≤ n * u.size := Nat.le_mul_of_pos_right _ hpos
            simp only [maxLen]; omega
          · rw [c1]; exact List.take_of_length_le (by rw [Array.length_toList]; omega)
          · cases hg
            rw [c1]
            exact ⟨fun h => h.elim (fun h => absurd (hr.fz _ _ h) (Nat.lt_irrefl _)) (fun h => h.2), fun h => .inr ⟨rfl, h⟩⟩
        have hput := (q1.newTok (bo := some w.heap.size) (fun g hg => by
          cases hg
          refine ⟨by show G.B ≤ _; rw [hr.B]; exact hr.bel.size, by simp, fun b hl => by have := (hr.live_lt hl).2; show G.ρ b ≠ _; omega, fun k hk hkg => ?_⟩
          have := (hr.tlo k _ hk hkg).2.1
          omega)).put (d := dst) hd (own_rel (z := decide (0 < n)) (G := { G with Φ := fun b i => G.Φ b i ∨ (b = w.heap.size ∧ i < n * u.size) }) (x := x) (el := el) hown (fun hz hx => by
          rw [decide_eq_true_eq] at hz
          have hl : (x e).length = 0 := by rw [hx]; rfl
          omega))
        rw [show ({ G with Φ := fun b i => G.Φ b i ∨ (b = w.heap.size ∧ i < n * u.size) } : Gh).nt = s.nt from hr.nt] at hput
        refine ⟨_, .slice (some ⟨w.heap.size, 0, none⟩) n n, _, ?_, .inl rfl, E, _, e, F, _, h, hF, hput, q2⟩
        simp only [execOp, Sem.run_bind, hrun, Result.andThen_ok, Sem.run_pure]
      · cases h
    · cases h
  · -- the bytes of a text
    rename_i src d x
    have hx := ev x
    split at h
    · rename_i el y hdst hxy
      rw [hxy] at hx
      obtain hv : a.eval x = _ := (List.cons.inj hx).1
      split at h
      · rename_i hel
        split at h
        · rename_i hsrc
          have hs := isStrT_spec hsrc
          obtain ⟨F1, hK, hc, hF1⟩ := guardIf_spec h hF
          have hbig0 := hc _ rfl
          simp only [okS, decide_eq_true_eq] at hbig0
          have hbig : (y e).size ≤ maxLen := hbig0
          have hrun := Lib.run_convert_string_bytes (P := P) w src d el (y e) hs hdst hel
          have hbel : Below w.heap.size w (Lib.bytesWorld w el (y e)) := ⟨by simp [Lib.bytesWorld, World.freeze, World.alloc, World.drew, -World.alloc_eq, -World.drew_eq], by simp [Lib.bytesWorld, World.freeze, World.alloc, World.drew, -World.alloc_eq, -World.drew_eq], by simp [Lib.bytesWorld, World.freeze, World.alloc, World.drew, -World.alloc_eq, -World.drew_eq], by rw [Lib.bytesWorld_size]; omega, fun k hk => Lib.bytesWorld_at_old w el (y e) k hk⟩
          obtain ⟨q1, q2, q3⟩ := hr.fresh (w' := Lib.bytesWorld w el (y e)) (Φ' := fun b i => G.Φ b i ∨ (b = w.heap.size ∧ i < (y e).size)) hbel (fun b i h => .inl h)
            (fun b i hb h => h.resolve_right (fun h2 => by omega)) (fun b i h => by
              rw [Lib.bytesWorld_size]
              rcases h with h | ⟨h, _⟩
              · have := hr.fz b i h; omega
              · omega)
          have hcap := grownCap_le_maxLen w (y e).size 0 el hbig
          have hge := grownCap_ge w (y e).size 0 el
          have hcr := bytes_rel (el := el) (y e) (Φ := fun b i => G.Φ b i ∨ (b = w.heap.size ∧ i < (y e).size)) (W := Lib.bytesWorld w el (y e)) (g := w.heap.size) hge hcap (fun j hj => ⟨.inr ⟨rfl, hj⟩, Lib.bytesWorld_cell w el (y e) j hj⟩)
          refine ⟨_, .slice (some ⟨w.heap.size, 0, none⟩) (y e).size (grownCap w (y e).size 0 el), _, ?_, .inl rfl, E, _, e, F1, _, hK, hF1, q1.put hd hcr, q2⟩
          simp only [execOp, hv, Sem.run_bind, hrun, Result.andThen_ok, Sem.run_pure]
        · cases h
      · cases h
    · cases h
  · -- calls of what is built in
    rename_i c
    obtain ⟨callee, args, ats⟩ := c
    simp only at h
    split at h
    · split at h
      · rename_i x y t u h1 h2 
        have hap : ∃ v w', (Builtin.append_ #[t, u] type #[a.eval x, a.eval y]).run P w = .ok v w' ∧ After Z w0 acts K r G w (a.put dst v) w' := by
          split at h
          · rename_i htu
            exact appendTo_sound (ty := type) h hF hr hd (ev x) (ev y)
          · exact appendStr_sound (ty := type) h hF hr hd (ev x) (ev y)
        obtain ⟨v, w', hrun, haft⟩ := hap
        have ha : args = #[x, y] := by apply Array.ext'; exact h1
        have hb : ats = #[t, u] := by apply Array.ext'; exact h2
        subst ha hb
        refine ⟨_, v, w', ?_, .inl rfl, haft⟩
        simp only [execOp, resolve, invoke, builtin, Sem.run_bind, Sem.run_pure, Result.andThen_ok, List.map_toArray, List.map_cons, List.map_nil, hrun]
      · cases h
    · cases h
  · cases h
    cases hF
  · -- a new map
    rename_i t
    split at h
    · rename_i kt et hu
      obtain ⟨h1, _, h2⟩ := hr.newBlk (K := .smap t []) (ob := .map #[] 0) (cs := []) (us := []) ⟨_, _, rfl, rfl, rfl, BornOK.nil 0⟩ rfl
      refine ⟨_, .map (some w.heap.size), w.alloc (.map #[] 0), ?_, .inl rfl, E, _, e, F, _, h, hF, h1.put hd h2, (newBlk_ext hr _).fz⟩
      simp only [execOp, Instr.makeMap, Option.map_none]
      rfl
    · cases h
  · -- into a map
    rename_i t m k v
    obtain ⟨w', h1, h2⟩ := updTo_sound h hF hr hd (ev m) (ev k) (ev v) (fun c hc => ckOf_val hc a)
    refine ⟨.skip, undef, w', ?_, .inr ⟨rfl, rfl⟩, h2⟩
    simp only [execOp, Sem.run_bind, h1, Result.andThen_ok, Sem.run_pure]
  · rename_i t m k v
    obtain ⟨w', h1, h2⟩ := updTo_sound h hF hr hd (ev m) (ev k) (ev v) (fun c hc => ckOf_val hc a)
    refine ⟨.skip, undef, w', ?_, .inr ⟨rfl, rfl⟩, h2⟩
    simp only [execOp, Sem.run_bind, h1, Result.andThen_ok, Sem.run_pure]
  · -- a walk along a text
    rename_i t x
    have hx := ev x
    split at h
    · rename_i y hxy
      rw [hxy] at hx
      obtain hv : a.eval x = _ := (List.cons.inj hx).1
      split at h
      · rename_i hs
        obtain ⟨h1, h2, _⟩ := hr.newBlk (K := .iter) (ob := .stringIter (y e) 0) (cs := [.sym .str y, .sym (.int .i64) fun _ => 0]) (us := [.string (y e), .int .i64 0]) ⟨_, _, rfl, rfl⟩ (.cons rfl (.cons rfl .nil))
        refine ⟨_, .pointer (some ⟨w.heap.size, 0, none⟩), w.alloc (.stringIter (y e) 0), ?_, .inl rfl, E, _, e, F, _, h, hF, h1.put hd h2, (newBlk_ext hr _).fz⟩
        simp [execOp, Instr.range, hv, run_underlying (isStrT_spec hs)]
      · cases h
    · cases h
  · rename_i it
    have hit := ev it
    split at h
    · rename_i b hb
      rw [hb] at hit
      obtain ⟨_, hv⟩ := hit
      split at h
      · rename_i y p hbk
        obtain ⟨f1, f2, hk1, hk2, rfl⟩ := splitB_spec h
        obtain ⟨us, ⟨t, q, hob, rfl⟩, hus, _⟩ := hr.blk b _ hbk
        obtain ⟨u1, r1, he1, g1, u2, r2, he2, g2, g3⟩ := hus
        simp only [List.cons.injEq] at he1
        obtain ⟨rfl, rfl⟩ := he1
        simp only [List.cons.injEq] at he2
        obtain ⟨rfl, rfl⟩ := he2
        have e1 : t = y e := by have := (List.cons.inj g1).1; simpa using this
        have e2 : @Eq Int (q : Int) (p e) := by have := (List.cons.inj g2).1; simpa using this
        subst e1
        obtain ⟨i1, _⟩ := iter_run (P := P) (w := w) (o' := .stringIter (y e) q) hob
        cases hq : ltI (p e) (lenS (y e)) with
        | true =>
          have hF1 : f1 e = some r := by rw [← hF]; simp only [hq, ifO]; rfl
          have hlt : q < (y e).size := by
            have hq' : @LT.lt Int _ (p e) (((y e).size : Nat) : Int) := of_decide_eq_true hq
            rw [← e2] at hq'
            exact Int.ofNat_lt.1 hq'
          have hpq : Int.toNat (p e) = q := by rw [← e2]; rfl
          obtain ⟨q1, q2⟩ := hr.lay (K' := .iter) (vs := [.sym .str y, .sym (.int .i64) fun e => runeN (y e) (p e)]) (us' := [.string (y e), .int .i64 (runeN (y e) (p e))]) (ob := .stringIter (y e) (q + (Utf8.decode (y e) q).2)) hbk ⟨_, _, rfl, by simp only [runeN, hpq]; rw [← e2]; simp⟩ (.cons rfl (.cons rfl .nil))
          refine ⟨.value (.tuple #[.bool true, .int .i64 (p e), .int .i32 (runeI (y e) (p e))]), _, _, ?_, .inl rfl, E, _, e, f1, G, hk1, hF1, q1.put (s := { s with blocks := s.blocks.set b (.cells .iter [.sym .str y, .sym (.int .i64) fun e => runeN (y e) (p e)]) }) hd (av := .tup [.cb true, .sym (.int .i64) p, .sym (.int .i32) fun e => runeI (y e) (p e)]) ⟨_, rfl, .cons rfl (.cons rfl (.cons rfl .nil))⟩, q2⟩
          simp [execOp, Instr.next, hv, i1, hlt, (iter_run (P := P) (w := w) (o' := .stringIter (y e) (q + (Utf8.decode (y e) q).2)) hob).2, goInt, runeI, hpq, e2]
        | false =>
          have hF2 : f2 e = some r := by rw [← hF]; simp only [hq, ifO]; rfl
          have hlt : ¬ q < (y e).size := by
            have hq' : ¬ @LT.lt Int _ (p e) (((y e).size : Nat) : Int) := of_decide_eq_false hq
            rw [← e2] at hq'
            exact fun hh => hq' (Int.ofNat_lt.2 hh)
          refine ⟨.value (.tuple #[.bool false]), _, w, ?_, .inl rfl, E, _, e, f2, G, hk2, hF2, hr.put hd (av := .tup [.cb false]) ⟨_, rfl, .cons rfl .nil⟩, .refl _ _⟩
          simp [execOp, Instr.next, hv, i1, hlt]
      · cases h
    · cases h
  · cases h
end
end Go.Proofs.YtmmbedlegmbppaaDoor.R
/- Rows that are not frozen: frozen when they must be; stores into them. -/
namespace Go.Proofs.YtmmbedlegmbppaaDoor.R
open Go Go.RowKit
set_option linter.unusedVariables false
set_option linter.unusedSimpArgs false
mutual
theorem AV.Rel.free {E : Type} {k : Nat} {G G' : Gh} {w : World} {e : E} (hx : GExtK k G w G' w) (hf : k < G.nt → ∀ g, G.γ k = some (some g) → ∀ i, G'.Φ g i) : ∀ (a : AV E) (v : Value), a.Rel G w e v → (a.free k).Rel G' w e v
  | .undef, _, _ => trivial
  | .sym t x, v, h => CRel.mono hx.fz (show CRel G.Φ w t (x e) [v] from h)
  | .cb b, v, h => h
  | .nilsl, v, h => h
  | .full el t x, v, h => ⟨CRel.mono hx.fz (show CRel G.Φ w (.sl el t) (x e) [v] from h.1), h.2⟩
  | .own z j el t x, v, h => by
    unfold AV.free
    obtain ⟨h1, hz, bo, h2, h3⟩ := h
    by_cases hj : j = k
    · rw [if_pos hj]
      exact h3.view.mono hx.fz
    · rw [if_neg hj]
      exact ⟨Nat.lt_of_lt_of_le h1 hx.nt, hz, bo, (hx.γ j h1 hj bo h2).1, by rw [hx.B]; exact h3.mono hx.fz (hx.γ j h1 hj bo h2).2⟩
  | .ptr b o, v, h => ⟨Nat.lt_of_lt_of_le h.1 hx.nb, by rw [hx.ρ b h.1]; exact h.2⟩
  | .np b o, v, h => h.imp id fun h => ⟨Nat.lt_of_lt_of_le h.1 hx.nb, by rw [hx.ρ b h.1]; exact h.2⟩
  | .nilp, v, h => h
  | .rp cs, v, h => by
    obtain ⟨g, o, hv, us, h1, h2⟩ := h
    exact ⟨g, o, hv, us, AV.Rels.free hx hf cs us h1, fun i u hu => ⟨hx.fz.sub _ _ (h2 i u hu).1, (hx.fz.same _ _ (h2 i u hu).1).trans (h2 i u hu).2⟩⟩
  | .ag cs, v, h => by
    obtain ⟨us, hv, h1⟩ := h
    exact ⟨us, hv, AV.Rels.free hx hf cs _ h1⟩
  | .tup cs, v, h => by
    obtain ⟨us, hv, h1⟩ := h
    exact ⟨us, hv, AV.Rels.free hx hf cs _ h1⟩
  | .fn f cs, v, h => by
    obtain ⟨us, hv, h1⟩ := h
    exact ⟨us, hv, AV.Rels.free hx hf cs _ h1⟩
  | .nilf, v, h => h
  | .mp b, v, h => ⟨Nat.lt_of_lt_of_le h.1 hx.nb, by rw [hx.ρ b h.1]; exact h.2⟩
  | .ents kd vd x, v, h => by
    obtain ⟨us, hv, h1⟩ := h
    exact ⟨us, hv, h1.mono hx.fz⟩
  | .nili, v, h => h
  | .mow z j el t x, v, h => by
    unfold AV.free
    obtain ⟨h1, hz, bo, h2, h3⟩ := h
    by_cases hj : j = k
    · rw [if_pos hj]
      subst hj
      exact h3.view hx.fz.sub (fun g hg i _ => hf h1 g (by rw [h2, hg]) i)
    · rw [if_neg hj]
      exact ⟨Nat.lt_of_lt_of_le h1 hx.nt, hz, bo, (hx.γ j h1 hj bo h2).1, by rw [hx.B]; exact h3.mono hx.fz (hx.γ j h1 hj bo h2).2⟩
  | .ep j el t x i o, v, h => by
    unfold AV.free
    by_cases hj : j = k
    · rw [if_pos hj]; trivial
    · rw [if_neg hj]
      obtain ⟨h1, g, vs, h2, h3, h4⟩ := h
      exact ⟨Nat.lt_of_lt_of_le h1 hx.nt, g, vs, (hx.γ j h1 hj _ h2).1, by rw [hx.B]; exact h3.mono hx.fz (hx.γ j h1 hj _ h2).2, h4⟩
  | .tl j el t x l, v, h => by
    unfold AV.free
    by_cases hj : j = k
    · rw [if_pos hj]; trivial
    · rw [if_neg hj]
      obtain ⟨h1, bo, vs, A, c, h2, h3, h4⟩ := h
      exact ⟨Nat.lt_of_lt_of_le h1 hx.nt, bo, vs, A, c, (hx.γ j h1 hj _ h2).1, by rw [hx.B]; exact h3.mono hx.fz (hx.γ j h1 hj _ h2).2, h4⟩
  | .capk j n, v, h => by
    unfold AV.free
    by_cases hj : j = k
    · rw [if_pos hj]; trivial
    · rw [if_neg hj]
      obtain ⟨h1, bo, c, h2, h3, h4, h5, h6⟩ := h
      exact ⟨Nat.lt_of_lt_of_le h1 hx.nt, bo, c, (hx.γ j h1 hj _ h2).1, h3, h4, (fun g hg => by rw [((hx.γ j h1 hj _ h2).2 g hg).1]; exact h5 g hg), h6⟩
  | .bsl b o n, v, h => ⟨Nat.lt_of_lt_of_le h.1 hx.nb, by rw [hx.ρ b h.1]; exact h.2⟩
theorem AV.Rels.free {E : Type} {k : Nat} {G G' : Gh} {w : World} {e : E} (hx : GExtK k G w G' w) (hf : k < G.nt → ∀ g, G.γ k = some (some g) → ∀ i, G'.Φ g i) : ∀ (cs : List (AV E)) (us : List Value), AV.Rels G w e cs us → AV.Rels G' w e (AV.frees k cs) us
  | [], _, h => h
  | c :: cs, us, h => by
    obtain ⟨u, r, hu, h1, h2⟩ := h
    exact ⟨u, r, hu, AV.Rel.free hx hf c u h1, AV.Rels.free hx hf cs r h2⟩
end
mutual
/-- A result: what rows there are, is seen as views. -/
theorem AV.Rel.view {E : Type} {G G' : Gh} {w : World} {e : E} (hs : ∀ b i, G.Φ b i → G'.Φ b i) (hf : ∀ k, k < G.nt → ∀ g, G.γ k = some (some g) → ∀ i, G'.Φ g i) (hρ : G'.ρ = G.ρ) (hnb : G'.nb = G.nb) : ∀ (a : AV E) (v : Value), a.Rel G w e v → a.view.Rel G' w e v
  | .undef, _, _ => trivial
  | .sym t x, v, h => CRel.mono ⟨hs, fun _ _ _ => rfl⟩ (show CRel G.Φ w t (x e) [v] from h)
  | .cb b, v, h => h
  | .nilsl, v, h => h
  | .full el t x, v, h => ⟨CRel.mono ⟨hs, fun _ _ _ => rfl⟩ (show CRel G.Φ w (.sl el t) (x e) [v] from h.1), h.2⟩
  | .own z j el t x, v, h => by
    obtain ⟨h1, hz, bo, h2, h3⟩ := h
    exact h3.view.mono ⟨hs, fun _ _ _ => rfl⟩
  | .ptr b o, v, h => ⟨by rw [hnb]; exact h.1, by rw [hρ]; exact h.2⟩
  | .np b o, v, h => h.imp id fun h => ⟨by rw [hnb]; exact h.1, by rw [hρ]; exact h.2⟩
  | .nilp, v, h => h
  | .rp cs, v, h => by
    obtain ⟨g, o, hv, us, h1, h2⟩ := h
    exact ⟨g, o, hv, us, AV.Rels.view hs hf hρ hnb cs us h1, fun i u hu => ⟨hs _ _ (h2 i u hu).1, (h2 i u hu).2⟩⟩
  | .ag cs, v, h => by
    obtain ⟨us, hv, h1⟩ := h
    exact ⟨us, hv, AV.Rels.view hs hf hρ hnb cs _ h1⟩
  | .tup cs, v, h => by
    obtain ⟨us, hv, h1⟩ := h
    exact ⟨us, hv, AV.Rels.view hs hf hρ hnb cs _ h1⟩
  | .fn f cs, v, h => by
    obtain ⟨us, hv, h1⟩ := h
    exact ⟨us, hv, AV.Rels.view hs hf hρ hnb cs _ h1⟩
  | .nilf, v, h => h
  | .mp b, v, h => ⟨by rw [hnb]; exact h.1, by rw [hρ]; exact h.2⟩
  | .ents kd vd x, v, h => by
    obtain ⟨us, hv, h1⟩ := h
    exact ⟨us, hv, h1.mono ⟨hs, fun _ _ _ => rfl⟩⟩
  | .nili, v, h => h
  | .mow z j el t x, v, h => by
    obtain ⟨h1, hz, bo, h2, h3⟩ := h
    exact h3.view hs (fun g hg i _ => hf j h1 g (by rw [h2, hg]) i)
  | .ep j el t x i o, v, h => trivial
  | .tl j el t x l, v, h => trivial
  | .capk j n, v, h => trivial
  | .bsl b o n, v, h => ⟨by rw [hnb]; exact h.1, by rw [hρ]; exact h.2⟩
theorem AV.Rels.view {E : Type} {G G' : Gh} {w : World} {e : E} (hs : ∀ b i, G.Φ b i → G'.Φ b i) (hf : ∀ k, k < G.nt → ∀ g, G.γ k = some (some g) → ∀ i, G'.Φ g i) (hρ : G'.ρ = G.ρ) (hnb : G'.nb = G.nb) : ∀ (cs : List (AV E)) (us : List Value), AV.Rels G w e cs us → AV.Rels G' w e (AV.views cs) us
  | [], _, h => h
  | c :: cs, us, h => by
    obtain ⟨u, r, hu, h1, h2⟩ := h
    exact ⟨u, r, hu, AV.Rel.view hs hf hρ hnb c u h1, AV.Rels.view hs hf hρ hnb cs r h2⟩
end
section
variable {E : Type} {G : Gh} {w w0 : World} {Z : Zf} {e : E} {P : Program} {s : St E} {a : Act} {acts : List (Array Value)}
theorem Env.get_free (k : Nat) (l : Env E) (u : Nat) : (Env.free k l).get u = (l.get u).free k := by
  induction l with
  | nil => rfl
  | cons p l ih =>
    obtain ⟨x, y⟩ := p
    simp only [Env.free, Env.get]
    split
    · rfl
    · exact ih
theorem EnvRel.free {k : Nat} {env : Env E} {t : Array Value} {G' : Gh} (hx : GExtK k G w G' w) (hf : k < G.nt → ∀ g, G.γ k = some (some g) → ∀ i, G'.Φ g i) (h : EnvRel G w e env t) : EnvRel G' w e (env.free k) t := by
  intro u
  rw [Env.get_free]
  exact AV.Rel.free hx hf _ _ (h u)
theorem StkRel.free {k : Nat} {G' : Gh} (hx : GExtK k G w G' w) (hf : k < G.nt → ∀ g, G.γ k = some (some g) → ∀ i, G'.Φ g i) : ∀ {ss : List (Env E)} {ts : List (Array Value)}, StkRel G w e ss ts → StkRel G' w e (ss.map (Env.free k)) ts
  | [], _, h => h
  | s :: ss, _, h => by obtain ⟨t, ts, rfl, h1, h2⟩ := h; exact ⟨t, ts, rfl, h1.free hx hf, h2.free hx hf⟩
theorem live_free {k : Nat} {bs : List (Blk E)} {b : Nat} : Live (bs.map (Blk.free k)) b ↔ Live bs b := by
  unfold Live
  rw [List.getElem?_map]
  cases bs[b]? with
  | none => simp
  | some B => cases B <;> simp [Blk.free]
theorem RelG.free1 (hr : RelG Z w0 s e acts a w G) (k : Nat) : ∃ G', RelG Z w0 (s.free1 k) e acts a w G' ∧ FExt G.Φ w G'.Φ w := by
  let G' : Gh := { G with Φ := fun b i => G.Φ b i ∨ (k < G.nt ∧ G.γ k = some (some b)), γ := fun j => if j = k then none else G.γ j }
  have hts : ∀ j g, j < G'.nt → G'.γ j = some (some g) → j ≠ k ∧ G.γ j = some (some g) := by
    intro j g hj hg
    have hg' : (if j = k then none else G.γ j) = some (some g) := hg
    split at hg'
    · cases hg'
    · rename_i hne; exact ⟨hne, hg'⟩
  have hx : GExtK k G w G' w := ⟨⟨fun _ _ h => .inl h, fun _ _ _ => rfl⟩, Nat.le_refl _, Nat.le_refl _, rfl, fun _ _ => rfl, fun j hj hne bo hb => ⟨by show (if j = k then none else G.γ j) = _; rw [if_neg hne]; exact hb, fun g hg => ⟨rfl, fun i hi => by
    rcases hi with hi | ⟨h1, h2⟩
    · exact hi
    · subst hg
      exact absurd (hr.tinj j k g hj h1 hb h2) hne⟩⟩⟩
  have hf : k < G.nt → ∀ g, G.γ k = some (some g) → ∀ i, G'.Φ g i := fun h1 g h2 i => .inr ⟨h1, h2⟩
  refine ⟨G', ⟨hr.B, hr.bel, hr.defers, hr.size, by simp [St.free1]; exact hr.nb, hr.nt, ?_, hr.tm.free hx hf, hr.stk.free hx hf, ?_, fun b hl => hr.lo b (live_free.1 hl), fun b b' hl hl' => hr.inj b b' (live_free.1 hl) (live_free.1 hl'), ?_, fun j j' g hj hj' hg hg' => hr.tinj j j' g hj hj' (hts j g hj hg).2 (hts j' g hj' hg').2, ⟨fun b i hb => .inl (hr.zz.1 b i hb), ?_⟩⟩, hx.fz⟩
  · rintro b i (h | ⟨h1, h2⟩)
    · exact hr.fz b i h
    · exact (hr.tlo k b h1 h2).2.1
  · intro b B hB
    simp only [St.free1, List.getElem?_map, Option.map_eq_some_iff] at hB
    obtain ⟨B0, hB0, rfl⟩ := hB
    have h0 := hr.blk b B0 hB0
    cases B0 with
    | dead => trivial
    | cells el cs =>
      obtain ⟨us, h1, h2, h3⟩ := h0
      refine ⟨us, h1, AV.Rels.free hx hf _ _ h2, ?_⟩
      rintro i (h | ⟨h4, h5⟩)
      · exact h3 i h
      · exact (hr.tlo k _ h4 h5).2.2 b ⟨el, cs, hB0⟩ rfl
  · intro j g hj hg
    obtain ⟨p1, p2, p3⟩ := hr.tlo j g hj (hts j g hj hg).2
    exact ⟨p1, p2, fun b hl => p3 b (live_free.1 hl)⟩
  · rintro b i hb (h | ⟨h1, h2⟩)
    · exact hr.zz.2 b i hb h
    · have := (hr.tlo k b h1 h2).1
      rw [hr.B] at this
      omega
theorem frees_size (s : St E) (ks : List Nat) : (s.frees ks).size = s.size := by
  induction ks generalizing s with
  | nil => rfl
  | cons k ks ih => exact ih (s.free1 k)
theorem RelG.frees (ks : List Nat) : ∀ {s : St E} {G : Gh}, RelG Z w0 s e acts a w G → ∃ G', RelG Z w0 (s.frees ks) e acts a w G' ∧ FExt G.Φ w G'.Φ w := by
  induction ks with
  | nil => intro s G hr; exact ⟨G, hr, .refl _ _⟩
  | cons k ks ih =>
    intro s G hr
    obtain ⟨G1, h1, h2⟩ := hr.free1 k
    obtain ⟨G2, h3, h4⟩ := ih h1
    exact ⟨G2, h3, h2.trans h4⟩
/-! ### stores -/
/-- What is stored into the row of one token. -/
structure Upd (k : Nat) (g0 : Nat) (el : TypeId) (t : Ty) (F : List t.den → List t.den) (G : Gh) (w w' : World) : Prop where
  fz : FExt G.Φ w G.Φ w'
  γ : ∀ j, j < G.nt → j ≠ k → ∀ bo, G.γ j = some bo → ∀ g, bo = some g → w'.heap[g]? = w.heap[g]?
  tok : G.γ k = some (some g0)
  row : ∀ xs v, MowRel G.Φ w G.B el t xs v (some g0) → MowRel G.Φ w' G.B el t (F xs) v (some g0)
  len : ∀ xs, (F xs).length = xs.length
  cap : ∀ cur e, w.heap[g0]? = some (.cells cur e (0, 0)) → ∃ cur', w'.heap[g0]? = some (.cells cur' e (0, 0)) ∧ cur'.size = cur.size
theorem Upd.ext {k g0 : Nat} {el : TypeId} {t : Ty} {F : List t.den → List t.den} {w' : World} (hu : Upd k g0 el t F G w w') : GExtK k G w G w' :=
  ⟨hu.fz, Nat.le_refl _, Nat.le_refl _, rfl, fun _ _ => rfl, fun j hj hne bo hb => ⟨hb, fun g hg => ⟨hu.γ j hj hne bo hb g hg, fun i hi => hi⟩⟩⟩
mutual
theorem AV.Rel.upd {k g0 : Nat} {el : TypeId} {t : Ty} {F : E → List t.den → List t.den} {w' : World} (hu : Upd k g0 el t (F e) G w w') : ∀ (a : AV E) (v : Value), a.Rel G w e v → (a.upd k el t F).Rel G w' e v
  | .undef, _, _ => trivial
  | .sym t x, v, h => CRel.mono hu.fz (show CRel G.Φ w t (x e) [v] from h)
  | .cb b, v, h => h
  | .nilsl, v, h => h
  | .full el t x, v, h => ⟨CRel.mono hu.fz (show CRel G.Φ w (.sl el t) (x e) [v] from h.1), h.2⟩
  | .own z j el' t' x, v, h => by
    unfold AV.upd
    by_cases hj : j = k
    · rw [if_pos hj]; trivial
    · rw [if_neg hj]
      obtain ⟨h1, hz, bo, h2, h3⟩ := h
      exact ⟨h1, hz, bo, h2, h3.mono hu.fz (fun g hg => ⟨hu.γ j h1 hj bo h2 g hg, fun i hi => hi⟩)⟩
  | .ptr b o, v, h => h
  | .np b o, v, h => h
  | .nilp, v, h => h
  | .rp cs, v, h => by
    obtain ⟨g, o, hv, us, h1, h2⟩ := h
    exact ⟨g, o, hv, us, AV.Rels.upd hu cs us h1, fun i u hi => ⟨(h2 i u hi).1, (hu.fz.same _ _ (h2 i u hi).1).trans (h2 i u hi).2⟩⟩
  | .ag cs, v, h => by
    obtain ⟨us, hv, h1⟩ := h
    exact ⟨us, hv, AV.Rels.upd hu cs _ h1⟩
  | .tup cs, v, h => by
    obtain ⟨us, hv, h1⟩ := h
    exact ⟨us, hv, AV.Rels.upd hu cs _ h1⟩
  | .fn f cs, v, h => by
    obtain ⟨us, hv, h1⟩ := h
    exact ⟨us, hv, AV.Rels.upd hu cs _ h1⟩
  | .nilf, v, h => h
  | .mp b, v, h => h
  | .ents kd vd x, v, h => by
    obtain ⟨us, hv, h1⟩ := h
    exact ⟨us, hv, h1.mono hu.fz⟩
  | .nili, v, h => h
  | .mow z j el' t' x, v, h => by
    unfold AV.upd
    obtain ⟨h1, hz, bo, h2, h3⟩ := h
    by_cases hj : j = k
    · rw [if_pos hj]
      split
      · rename_i x' hx'
        obtain ⟨ht, hxe⟩ := castTo_spec hx'
        cases ht
        obtain rfl : x' = x := hxe
        subst hj
        rw [hu.tok] at h2
        obtain rfl := Option.some.inj h2
        refine ⟨h1, fun hzt hnil => hz hzt (List.eq_nil_of_length_eq_zero ?_), _, hu.tok, hu.row _ _ h3⟩
        have h9 : (F e (x' e)).length = (x' e).length := hu.len (x' e)
        rw [show F e (x' e) = [] from hnil] at h9
        exact h9.symm
      · trivial
    · rw [if_neg hj]
      exact ⟨h1, hz, bo, h2, h3.mono hu.fz (fun g hg => ⟨hu.γ j h1 hj bo h2 g hg, fun i hi => hi⟩)⟩
  | .ep j el' t' x i o, v, h => by
    unfold AV.upd
    obtain ⟨h1, g, vs, h2, h3, h4⟩ := h
    by_cases hj : j = k
    · rw [if_pos hj]
      split
      · rename_i x' hx'
        obtain ⟨ht, hxe⟩ := castTo_spec hx'
        cases ht
        obtain rfl : x' = x := hxe
        subst hj
        obtain rfl : g0 = g := by rw [hu.tok] at h2; exact Option.some.inj (Option.some.inj h2)
        refine ⟨h1, _, vs, hu.tok, hu.row _ _ h3, h4.1, ?_, h4.2.2⟩
        rw [hu.len]; exact h4.2.1
      · trivial
    · rw [if_neg hj]
      exact ⟨h1, g, vs, h2, h3.mono hu.fz (fun g' hg => ⟨hu.γ j h1 hj _ h2 g' hg, fun i hi => hi⟩), h4⟩
  | .tl j el' t' x l, v, h => by
    unfold AV.upd
    by_cases hj : j = k
    · rw [if_pos hj]; trivial
    · rw [if_neg hj]
      obtain ⟨h1, bo, vs, A, c, h2, h3, h4⟩ := h
      exact ⟨h1, bo, vs, A, c, h2, h3.mono hu.fz (fun g hg => ⟨hu.γ j h1 hj _ h2 g hg, fun i hi => hi⟩), h4⟩
  | .capk j n, v, h => by
    obtain ⟨h1, bo, c, h2, h3, h4, h5, h6⟩ := h
    refine ⟨h1, bo, c, h2, h3, h4, fun g hg => ?_, h6⟩
    obtain ⟨cur, el', h7, h8⟩ := h5 g hg
    by_cases hj : j = k
    · subst hj
      obtain rfl : g0 = g := by rw [hg, hu.tok] at h2; exact Option.some.inj (Option.some.inj h2)
      obtain ⟨cur', h9, h10⟩ := hu.cap cur el' h7
      exact ⟨cur', el', h9, h10.trans h8⟩
    · exact ⟨cur, el', (hu.γ j h1 hj bo h2 g hg).trans h7, h8⟩
  | .bsl b o n, v, h => h
theorem AV.Rels.upd {k g0 : Nat} {el : TypeId} {t : Ty} {F : E → List t.den → List t.den} {w' : World} (hu : Upd k g0 el t (F e) G w w') : ∀ (cs : List (AV E)) (us : List Value), AV.Rels G w e cs us → AV.Rels G w' e (AV.upds k el t F cs) us
  | [], _, h => h
  | c :: cs, us, h => by
    obtain ⟨u, r, hi, h1, h2⟩ := h
    exact ⟨u, r, hi, AV.Rel.upd hu c u h1, AV.Rels.upd hu cs r h2⟩
end
theorem EnvRel.upd {k g0 : Nat} {el : TypeId} {t : Ty} {F : E → List t.den → List t.den} {w' : World} (hu : Upd k g0 el t (F e) G w w') {env : Env E} {tt : Array Value} (h : EnvRel G w e env tt) : EnvRel G w' e (env.upd k el t F) tt := by
  intro u
  have hg : ∀ (l : Env E), (Env.upd k el t F l).get u = (l.get u).upd k el t F := by
    intro l
    induction l with
    | nil => rfl
    | cons p l ih =>
      obtain ⟨x, y⟩ := p
      simp only [Env.upd, Env.get]
      split
      · rfl
      · exact ih
  rw [hg]
  exact AV.Rel.upd hu _ _ (h u)
theorem StkRel.upd {k g0 : Nat} {el : TypeId} {t : Ty} {F : E → List t.den → List t.den} {w' : World} (hu : Upd k g0 el t (F e) G w w') : ∀ {ss : List (Env E)} {ts : List (Array Value)}, StkRel G w e ss ts → StkRel G w' e (ss.map (Env.upd k el t F)) ts
  | [], _, h => h
  | s :: ss, _, h => by obtain ⟨tt, ts, rfl, h1, h2⟩ := h; exact ⟨tt, ts, rfl, h1.upd hu, h2.upd hu⟩
theorem live_upd {k : Nat} {el : TypeId} {t : Ty} {F : E → List t.den → List t.den} {bs : List (Blk E)} {b : Nat} : Live (bs.map (Blk.upd k el t F)) b ↔ Live bs b := by
  unfold Live
  rw [List.getElem?_map]
  cases bs[b]? with
  | none => simp
  | some B => cases B <;> simp [Blk.upd]
theorem RelG.upd (hr : RelG Z w0 s e acts a w G) {k g0 : Nat} {el : TypeId} {t : Ty} {F : E → List t.den → List t.den} {w' : World} (hk : k < G.nt) (htok : G.γ k = some (some g0)) (hos : w'.os = w.os) (htp : w'.tape = w.tape) (hout : w'.output = w.output) (hsz : w'.heap.size = w.heap.size)
    (hother : ∀ g, g ≠ g0 → w'.heap[g]? = w.heap[g]?) (hno : ∀ i, ¬ G.Φ g0 i) (hrow : ∀ xs v, MowRel G.Φ w G.B el t xs v (some g0) → ∃ us', w'.ownsRow G.B el t.size v (F e xs).length us' ∧ ∀ (j : Nat) (x : t.den), (F e xs)[j]? = some x → CRel G.Φ w t x ((us'.drop (j * t.size)).take t.size)) (hlen : ∀ xs, (F e xs).length = xs.length)
    (hcap : ∀ cur e, w.heap[g0]? = some (.cells cur e (0, 0)) → ∃ cur', w'.heap[g0]? = some (.cells cur' e (0, 0)) ∧ cur'.size = cur.size) :
    RelG Z w0 (s.upd k el t F) e acts a w' G ∧ FExt G.Φ w G.Φ w' := by
  have hfx : FExt G.Φ w G.Φ w' := ⟨fun _ _ h => h, fun c i h => World.cell?_of_block (w := w) (a := ⟨c, i, none⟩) (hother c (fun he => hno i (he ▸ h)))⟩
  have hu : Upd k g0 el t (F e) G w w' := ⟨hfx, fun j hj hne bo hb g hg => hother g (fun he => hne (by subst hg; subst he; exact hr.tinj j k _ hj hk hb htok)), htok, fun xs v h => by
    obtain ⟨us', h1, h2⟩ := hrow xs v h
    exact ⟨h.1, us', h1, fun j x hj => (h2 j x hj).mono hfx, fun g hg i hi => by cases hg; exact hno i hi⟩, hlen, hcap⟩
  have hbel : BelX Z.op w0.heap.size w0 w' := by
    refine hr.bel.trans ⟨hos, htp, hout, by omega, fun c hc => hother c ?_⟩
    have := (hr.tlo k g0 hk htok).1
    rw [hr.B] at this
    omega
  refine ⟨⟨hr.B, hbel, hr.defers, hr.size, by simp [St.upd]; exact hr.nb, hr.nt, fun c i h => by have := hr.fz c i h; omega, hr.tm.upd hu, hr.stk.upd hu, ?_, fun b hl => hr.lo b (live_upd.1 hl), fun b b' hl hl' => hr.inj b b' (live_upd.1 hl) (live_upd.1 hl'), fun j g hj hg => ?_, hr.tinj, hr.zz⟩, hfx⟩
  · intro b B hB
    simp only [St.upd, List.getElem?_map, Option.map_eq_some_iff] at hB
    obtain ⟨B0, hB0, rfl⟩ := hB
    have h0 := hr.blk b B0 hB0
    cases B0 with
    | dead => trivial
    | cells K cs =>
      obtain ⟨us, h1, h2, h3⟩ := h0
      exact ⟨us, by rw [hother _ ((hr.tlo k g0 hk htok).2.2 b ⟨K, cs, hB0⟩)]; exact h1, AV.Rels.upd hu _ _ h2, h3⟩
  · obtain ⟨p1, p2, p3⟩ := hr.tlo j g hj hg
    exact ⟨p1, by omega, fun b hl => p3 b (live_upd.1 hl)⟩
end
end Go.Proofs.YtmmbedlegmbppaaDoor.R
/- What operations on rows that are not frozen do. -/
namespace Go.Proofs.YtmmbedlegmbppaaDoor.R
open Go Go.RowKit
set_option linter.unusedVariables false
set_option linter.unusedSimpArgs false
section
variable {E : Type} {G : Gh} {w w0 : World} {Z : Zf} {e : E} {P : Program} {s : St E} {a : Act} {acts : List (Array Value)} {R : Type} {K : Kont R} {r : R}
theorem mow_rel {z : Bool} {t : Ty} {el : TypeId} {x : E → List t.den} {v : Value} {bo : Option Nat} (h : MowRel G.Φ w G.B el t (x e) v bo) (hz : z = true → x e = [] → v = .slice none 0 0) : (AV.mow z G.nt el t x).Rel (G.newTok bo) w e v :=
  ⟨Nat.lt_succ_self _, hz, bo, by simp [Gh.newTok], h⟩
theorem openBase_rel {mu : Bool} {el : TypeId} {t : Ty} {av : AV E} {tok : Option Nat} {x : E → List t.den} {v : Value} (h : av.openBase? mu el t = some (tok, x)) (hr : av.Rel G w e v) :
    (∀ k, tok = some k → k < G.nt ∧ G.γ k = some v.ownBlock) ∧ (tok = none → v.ownBlock = none) ∧ MowRel G.Φ w G.B el t (x e) v v.ownBlock ∧ (av.emptyNil = true → x e = [] → v = .slice none 0 0) := by
  cases av with
  | nilsl =>
    simp only [AV.openBase?] at h
    split at h
    · simp only [Option.some.injEq, Prod.mk.injEq] at h
      obtain ⟨rfl, rfl⟩ := h
      rw [show v = _ from hr]
      exact ⟨(fun k hk => nomatch hk), (fun _ => rfl), ⟨rfl, [], World.ownsRow_nil w _ _ _, (fun j x hj => by simp at hj), (fun g hg => nomatch hg)⟩, fun _ _ => rfl⟩
    · cases h
  | mow zz k el' t' y =>
    simp only [AV.openBase?, Option.map_eq_some_iff, Prod.mk.injEq] at h
    obtain ⟨z, hz, rfl, rfl⟩ := h
    obtain ⟨h1, hzz, bo, h2, h3⟩ := hr
    obtain rfl := h3.1
    refine ⟨(fun j hj => by cases hj; exact ⟨h1, h2⟩), (fun hh => nomatch hh), ?_⟩
    obtain ⟨ht, hy⟩ := castTo_spec hz
    cases ht
    rw [show z = y from hy]
    exact ⟨h3, hzz⟩
  | _ => simp [AV.openBase?] at h
theorem row_one {Φ : Fz} {t : Ty} {xs : List t.den} {us : List Value} (hl : us.length = xs.length * t.size) (h : ∀ (j : Nat) (x : t.den), xs[j]? = some x → CRel Φ w t x ((us.drop (j * t.size)).take t.size)) : ∀ u ∈ us, u.oneCell' = true := by
  intro u hu
  obtain ⟨i, hi, rfl⟩ := List.getElem_of_mem hu
  have hs : 0 < t.size := by
    rcases Nat.eq_zero_or_pos t.size with h0 | h0
    · rw [h0, Nat.mul_zero] at hl; omega
    · exact h0
  have hj : i / t.size < xs.length := by rw [Nat.div_lt_iff_lt_mul hs, ← hl]; exact hi
  have hc := h (i / t.size) _ (List.getElem?_eq_getElem hj)
  refine hc.one _ ?_
  have hm := Nat.mod_lt i hs
  have hd := Nat.div_add_mod i t.size
  have he : us[i]? = ((us.drop (i / t.size * t.size)).take t.size)[i % t.size]? := by
    rw [List.getElem?_take_of_lt hm, List.getElem?_drop]
    congr 1
    rw [Nat.mul_comm]; exact hd.symm
  exact List.mem_of_getElem? (he.symm.trans (List.getElem?_eq_getElem hi))
theorem now_cells {el : TypeId} {t : Ty} {av : AV E} {y : E → List t.den} {v : Value} (h : av.now? (.sl el t) = some y) (hr : av.Rel G w e v) :
    ∃ A c, v = .slice A (y e).length c ∧ ∃ us : List Value, us.length = (y e).length * t.size ∧ (∀ (j : Nat) (x : t.den), (y e)[j]? = some x → CRel G.Φ w t x ((us.drop (j * t.size)).take t.size)) ∧ (∀ u ∈ us, u.oneCell' = true) ∧ ((y e).length = 0 ∨ ∃ ad, A = some ad ∧ ∀ j u, us[j]? = some u → w.cell? (ad.add j) = some u) := by
  have base : av.to1 (.sl el t) = some y → ∃ A c, v = .slice A (y e).length c ∧ ∃ us : List Value, us.length = (y e).length * t.size ∧ (∀ (j : Nat) (x : t.den), (y e)[j]? = some x → CRel G.Φ w t x ((us.drop (j * t.size)).take t.size)) ∧ (∀ u ∈ us, u.oneCell' = true) ∧ ((y e).length = 0 ∨ ∃ ad, A = some ad ∧ ∀ j u, us[j]? = some u → w.cell? (ad.add j) = some u) := by
    intro hb
    have hyr := AV.to1_rel hb hr
    obtain ⟨A, c, hv, _, _⟩ := id hyr
    obtain rfl := (List.cons.inj hv).1
    obtain ⟨us, n1, n2, n3, n4⟩ := slice_cells hyr
    refine ⟨A, c, rfl, us, n1, n2, n3, ?_⟩
    rcases n4 with h0 | ⟨g, o, rfl, hc4⟩
    · exact .inl h0
    · exact .inr ⟨⟨g, o, none⟩, rfl, fun j u hj => by rw [add_cell]; exact (hc4 j u hj).2⟩
  cases av with
  | mow z k el' t' x =>
    obtain ⟨ht, hy⟩ := castTo_spec (show castTo (.sl el' t') (.sl el t) x = some y from h)
    cases ht
    obtain rfl : y = x := hy
    obtain ⟨_, _, bo, _, hbo, us, hrow, hc, _⟩ := hr
    obtain ⟨A, c, rfl, _⟩ := own_max hrow
    refine ⟨A, c, rfl, us, hrow.1, hc, row_one hrow.1 hc, ?_⟩
    rcases hrow.2 with ⟨_, h0⟩ | ⟨g, cap, cur, hv, _⟩
    · exact .inl h0
    · simp only [Value.slice.injEq] at hv
      obtain ⟨rfl, _⟩ := hv
      exact .inr ⟨⟨g, 0, none⟩, rfl, fun j u hj => by rw [add_cell, Nat.zero_add]; exact own_cell hrow rfl hj⟩
  | _ => exact base h
/-- What 'append' does to a row that is not frozen. -/
theorem appendOpen_sound {mu : Bool} {dst : Option Tmp} {t u ty : TypeId} {x y : AV E} {vx vy : Value} {F : E → Option R} (h : appendOpen P mu s dst t u x y K = some F) (hF : F e = some r) (hr : RelG Z w0 s e acts a w G) (hd : dstOk' s dst) (hx : x.Rel G w e vx) (hy : y.Rel G w e vy) :
    ∃ v w', (Builtin.append_ #[t, u] ty #[vx, vy]).run P w = .ok v w' ∧ After Z w0 acts K r G w (a.put dst v) w' := by
  unfold appendOpen at h
  split at h
  rotate_left
  · cases h
  rename_i el ht
  simp only [Option.bind_eq_some_iff] at h
  obtain ⟨tt, htt, ⟨tok, xs⟩, hb, ys, hys, h⟩ := h
  split at h
  rotate_left
  · cases h
  rename_i hck
  simp only [Bool.and_eq_true, decide_eq_true_eq, Option.any_eq_true] at hck
  obtain ⟨⟨⟨⟨hsz, hpos⟩, hby⟩, rfl⟩, z, hz, hzs⟩ := hck
  obtain ⟨F1, hK, hc, hF1⟩ := guardIf_spec h hF
  have hfit := hc _ rfl
  obtain ⟨it, zv, hit, hiz, hzc⟩ := zero_some hz
  have hsize : it.size = tt.size := by rw [hsz]; simp [sizeT, Program.cellsOf, hit]
  have hbytes : bytesT P el = it.bytes := by simp [bytesT, Program.bytesOf, hit]
  have hzcs : zv.cells.size = it.size := by rw [hzc, hsize]; exact hzs
  obtain ⟨A2, c2, rfl, news, n1, n2, n3, hA⟩ := now_cells hys hy
  have hfit' : ((xs e).length + (ys e).length) * it.bytes ≤ 140737488355328 ∧ (xs e).length + (ys e).length ≤ 140737488355328 := by
    rw [fitsL_iff, hbytes] at hfit
    obtain ⟨f1, f2⟩ := hfit
    have f1' : (((xs e).length : Int) + ((ys e).length : Int)) * (it.bytes : Int) ≤ 140737488355328 := f1
    have f2' : ((xs e).length : Int) + ((ys e).length : Int) ≤ 140737488355328 := f2
    refine ⟨?_, by omega⟩
    have h2 : ((((xs e).length + (ys e).length) * it.bytes : Nat) : Int) ≤ ((140737488355328 : Nat) : Int) := by rw [Int.natCast_mul, Int.natCast_add]; exact f1'
    exact Int.ofNat_le.1 h2
  have hbase : w0.heap.size ≤ w.heap.size := hr.bel.size
  obtain ⟨htok, hnone, hown, hemp⟩ := openBase_rel hb hx
  obtain ⟨_, us, hrow, hreps, hΦ0⟩ := hown
  rw [hr.B, ← hsize] at hrow
  obtain ⟨v', w', hrun, hrow', hg, hm0⟩ := append_own (P := P) (ty := ty) (c := c2) ht hit hiz hzcs (by omega) hrow hbase (by rw [n1, hsize]) hA n3 hfit'.1 hfit'.2
  refine ⟨v', w', hrun, ?_⟩
  have hus : us.length = (xs e).length * tt.size := by rw [← hsize]; exact hrow.1
  have hvg : ∀ k g, tok = some k → G.γ k = some (some g) → vx.ownBlock = some g := fun k g hk hkg => by
    have := (htok k hk).2; rw [hkg] at this; exact (Option.some.inj this).symm
  obtain ⟨q1, q2, q3, q4⟩ := hr.grow (tok := tok) (w' := w') (bo := v'.ownBlock) (L := 0) hg.os hg.tape hg.output hg.size (fun k hk => (htok k hk).1)
    (fun b hb hne => by
      rcases hg.way with ⟨_, h2⟩ | ⟨_, _, h2⟩
      · refine h2 b (fun he => ?_)
        cases tok with
        | none => rw [hnone rfl] at he; cases he
        | some k => exact hne k rfl (by rw [(htok k rfl).2, ← he])
      · exact h2 b hb)
    (fun g hgg => by
      rcases hg.way with ⟨h1, _⟩ | ⟨h1, h2, _⟩
      · rw [h1] at hgg
        cases tok with
        | none => rw [hnone rfl] at hgg; cases hgg
        | some k => exact .inr ⟨k, rfl, by rw [(htok k rfl).2, hgg]⟩
      · rw [h1] at hgg; cases hgg; exact .inl ⟨rfl, h2⟩)
    (fun k g hk hkg i hi => absurd hi (hΦ0 g (hvg k g hk hkg) i))
    (fun k g hk hkg hbo i hi => absurd hi (hΦ0 g (hvg k g hk hkg) i))
  have hlen : (catL (xs e) (ys e)).length = (xs e).length + (ys e).length := List.length_append
  have hown' : MowRel (fun b i => G.Φ b i ∨ (v'.ownBlock = some b ∧ i < 0)) w' G.B el tt (catL (xs e) (ys e)) v' v'.ownBlock := by
    refine ⟨rfl, us ++ news, by rw [hlen, hr.B, ← hsize]; exact hrow', fun j x hj => ?_, fun g hg i hi => by have := (q3 g hg i).1 hi; omega⟩
    unfold catL at hj
    rw [List.getElem?_append] at hj
    split at hj
    · rename_i hlt
      have := (hreps j x hj).mono q2
      have hle : (j + 1) * tt.size ≤ us.length := by rw [hus]; exact Nat.mul_le_mul_right _ hlt
      rw [Nat.succ_mul] at hle
      rw [List.drop_append_of_le_length (by omega), List.take_append_of_le_length (by rw [List.length_drop]; omega)]
      exact this
    · rename_i hge
      have := (n2 _ x hj).mono q2
      have hj' : j * tt.size = us.length + (j - (xs e).length) * tt.size := by
        rw [hus, ← Nat.add_mul]; congr 1; omega
      rw [hj', List.drop_append]
      rw [List.drop_eq_nil_of_le (by omega), List.nil_append, Nat.add_sub_cancel_left]
      exact this
  have hput := (q1.newTok (bo := v'.ownBlock) q4).put (d := dst) (dstOk'_drop hd) (mow_rel (z := x.emptyNil) (x := fun e' => catL (xs e') (ys e')) (el := el) hown' (fun hz hx => by
    have hl : (xs e ++ ys e).length = 0 := by rw [show xs e ++ ys e = [] from hx]; rfl
    rw [List.length_append] at hl
    rw [hm0 (by omega)]
    exact hemp hz (List.eq_nil_of_length_eq_zero (by omega))))
  rw [show ({ G with Φ := fun b i => G.Φ b i ∨ (v'.ownBlock = some b ∧ i < 0), γ := fun j => if tok = some j then none else G.γ j } : Gh).nt = s.nt from hr.nt] at hput
  exact ⟨E, _, e, F1, _, hK, hF1, hput, q2⟩
/-! ### the cells of one element -/
theorem mow_el {t : Ty} {el : TypeId} {xs : List t.den} {v : Value} {g : Nat} {j : Int} (h : MowRel G.Φ w G.B el t xs v (some g)) (h0 : 0 ≤ j) (hj : j < (xs.length : Int)) :
    ∃ us : List Value, us.length = t.size ∧ CRel G.Φ w t (elT t xs j) us ∧ ∀ (i : Nat) (u : Value), us[i]? = some u → w.cell? ⟨g, j.toNat * t.size + i, none⟩ = some u := by
  obtain ⟨hv, us, hrow, hc, _⟩ := h
  have hlt : j.toNat < xs.length := by omega
  have hx : xs[j.toNat]? = some (elT t xs j) := by unfold elT; rw [List.getD_eq_getElem?_getD, List.getElem?_eq_getElem hlt]; rfl
  have hcr := hc j.toNat _ hx
  refine ⟨_, hcr.length, hcr, fun i u hu => ?_⟩
  rw [List.getElem?_take] at hu
  split at hu
  · rw [List.getElem?_drop] at hu
    exact own_cell hrow hv hu
  · cases hu
/-- The row is cells of one block. -/
theorem mow_block {t : Ty} {el : TypeId} {xs : List t.den} {v : Value} {g : Nat} (h : MowRel G.Φ w G.B el t xs v (some g)) : ∃ cur cap n, w.heap[g]? = some (.cells cur el (0, 0)) ∧ cur.size = cap * t.size ∧ n = xs.length ∧ n ≤ cap ∧ v = .slice (some ⟨g, 0, none⟩) n cap := by
  obtain ⟨hv, us, hrow, hc, _⟩ := h
  rcases hrow.2 with ⟨rfl, _⟩ | ⟨g', cap, cur, rfl, hb, hg, hn, hm, hs, ht⟩
  · cases hv
  · obtain rfl : g' = g := Option.some.inj hv
    exact ⟨cur, cap, _, hg, hs, rfl, hn, rfl⟩
end
end Go.Proofs.YtmmbedlegmbppaaDoor.R
/- What operations on rows that are not frozen do: all of them. -/
namespace Go.Proofs.YtmmbedlegmbppaaDoor.R
open Go Go.RowKit
set_option linter.unusedVariables false
set_option linter.unusedSimpArgs false
section
variable {E : Type} {G : Gh} {w w0 : World} {Z : Zf} {e : E} {P : Program} {s : St E} {a : Act} {acts : List (Array Value)} {R : Type} {K : Kont R} {r : R}
/-- Cells of a row that is not frozen are written. -/
theorem RelG.write (hr : RelG Z w0 s e acts a w G) {k g : Nat} {el : TypeId} {t : Ty} {F : E → List t.den → List t.den} (hk : k < G.nt) (htok : G.γ k = some (some g)) {cur : Array Value} (hcur : w.heap[g]? = some (.cells cur el (0, 0))) (hno : ∀ i, ¬ G.Φ g i) {o : Nat} {ns : List Value} (hfit : o + ns.length ≤ cur.size)
    (hlen : ∀ xs, (F e xs).length = xs.length)
    (hel : ∀ xs : List t.den, (∀ (i : Nat) (x : t.den), xs[i]? = some x → (i + 1) * t.size ≤ cur.size ∧ CRel G.Φ w t x ((cur.toList.drop (i * t.size)).take t.size)) → ∀ (i : Nat) (x : t.den), (F e xs)[i]? = some x → CRel G.Φ w t x (((cur.toList.take o ++ ns ++ cur.toList.drop (o + ns.length)).drop (i * t.size)).take t.size)) :
    RelG Z w0 (s.upd k el t F) e acts a (w.setRow g (cur.toList.take o ++ ns ++ cur.toList.drop (o + ns.length)).toArray) G ∧ FExt G.Φ w G.Φ (w.setRow g (cur.toList.take o ++ ns ++ cur.toList.drop (o + ns.length)).toArray) := by
  have hL : (cur.toList.take o ++ ns ++ cur.toList.drop (o + ns.length)).length = cur.size := by
    simp only [List.length_append, List.length_take, List.length_drop, Array.length_toList]; omega
  refine hr.upd hk htok rfl rfl rfl (by simp [World.setRow]) (fun g' hg' => setRow_other w g g' _ hg') hno (fun xs v hm => ?_) hlen (fun cur' e' hc' => ?_)
  · obtain ⟨hv, us, hrow, hc, _⟩ := hm
    rcases hrow.2 with ⟨rfl, _⟩ | ⟨g', cap, cur', rfl, hb, hg, hn, hm, hs, ht⟩
    · cases hv
    · obtain rfl : g' = g := Option.some.inj hv
      rw [hcur] at hg
      simp only [Option.some.injEq, Obj.cells.injEq, and_true, true_and] at hg
      obtain rfl := hg
      have hle : xs.length * t.size ≤ cur.size := by rw [hs]; exact Nat.mul_le_mul_right _ hn
      have hone : ∀ i, i < xs.length → (i + 1) * t.size ≤ xs.length * t.size := fun i hi => Nat.mul_le_mul_right _ hi
      refine ⟨(cur.toList.take o ++ ns ++ cur.toList.drop (o + ns.length)).take (xs.length * t.size), ⟨by rw [hlen, List.length_take, hL]; omega, .inr ⟨g', cap, _, by rw [hlen], hb, setRow_heap w g' cur _ el _ hcur, by rw [hlen]; exact hn, hm, by simp only [List.size_toArray, hL]; exact hs, by rw [hlen]⟩⟩, fun j x hj => ?_⟩
      have hjl : j < xs.length := by rw [← hlen xs]; exact (List.getElem?_eq_some_iff.1 hj).1
      have := hel xs (fun i x hi => by
        have hil := (List.getElem?_eq_some_iff.1 hi).1
        have h1 := hone i hil
        refine ⟨by omega, ?_⟩
        have h2 := hc i x hi
        rw [← ht, List.drop_take, List.take_take] at h2
        rw [Nat.succ_mul] at h1
        rw [Nat.min_eq_left (by omega)] at h2
        exact h2) j x hj
      have h1 := hone j hjl
      rw [Nat.succ_mul] at h1
      rw [List.drop_take, List.take_take, Nat.min_eq_left (by omega)]
      exact this
  · rw [hcur] at hc'
    simp only [Option.some.injEq, Obj.cells.injEq, and_true] at hc'
    obtain ⟨rfl, rfl⟩ := hc'
    exact ⟨_, setRow_heap w g cur _ el _ hcur, by simp only [List.size_toArray, hL]⟩
theorem splice_get {A ns : List Value} {o : Nat} (h : o + ns.length ≤ A.length) (m : Nat) : (A.take o ++ ns ++ A.drop (o + ns.length))[m]? = if m < o then A[m]? else if m < o + ns.length then ns[m - o]? else A[m]? := by
  rw [List.append_assoc, List.getElem?_append, List.length_take, Nat.min_eq_left (by omega)]
  split
  · rename_i h1; rw [List.getElem?_take_of_lt h1]
  · rename_i h1
    rw [List.getElem?_append]
    by_cases h2 : m - o < ns.length
    · rw [if_pos h2, if_pos (by omega)]
    · rw [if_neg h2, if_neg (by omega), List.getElem?_drop]
      congr 1; omega
theorem part_get {L : List Value} {o n i : Nat} : ((L.drop o).take n)[i]? = if i < n then L[o + i]? else none := by
  rw [List.getElem?_take]
  split
  · rw [List.getElem?_drop]
  · rfl
theorem rep_part {l : List Value} : ∀ {n i : Nat}, i < n → ((rep n l).drop (i * l.length)).take l.length = l
  | 0, i, h => absurd h (Nat.not_lt_zero _)
  | n + 1, 0, h => by rw [Nat.zero_mul, List.drop_zero]; unfold rep; exact List.take_left' rfl
  | n + 1, i + 1, h => by
    unfold rep
    rw [Nat.succ_mul, Nat.add_comm, ← List.drop_drop, List.drop_left' rfl]
    exact rep_part (Nat.lt_of_succ_lt_succ h)
theorem made_rep (z : Array Value) (hz : 0 < z.size) (n : Nat) : (madeCells z (n * z.size)).toList = rep n z.toList := by
  unfold madeCells
  rw [Array.toList_map, Array.toList_range]
  exact range_rep z hz n
theorem rep_length {l : List Value} : ∀ n, (rep n l).length = n * l.length
  | 0 => by simp [rep]
  | n + 1 => by unfold rep; rw [List.length_append, rep_length n, Nat.succ_mul, Nat.add_comm]
/-- A row of our own that is cut at its end. -/
theorem trunc_sound {dst : Option Tmp} {z : Bool} {k : Nat} {el : TypeId} {t : Ty} {xs : E → List t.den} {h : E → Int} {v : Value} {F : E → Option R} (hc : truncTo s dst k el t xs h K = some F) (hF : F e = some r) (hr : RelG Z w0 s e acts a w G) (hd : dstOk' s dst) (hv : (AV.mow z k el t xs).Rel G w e v) :
    boundB (h e) ((xs e).length : Int) = true ∧ ∀ A n c, v = .slice A n c → After Z w0 acts K r G w (a.put dst (.slice A (h e).toNat c)) w := by
  unfold truncTo at hc
  obtain ⟨F1, hK, hb, hF1⟩ := guardIf_spec hc hF
  have hb0 : boundB (h e) ((xs e).length : Int) = true := hb _ rfl
  refine ⟨hb0, fun A n c hvv => ?_⟩
  subst hvv
  rw [boundB_iff] at hb0
  obtain ⟨hk, _, bo, hbo, hob, us, hrow, hreps, hΦ0⟩ := hv
  subst hob
  have hown : (Value.slice A (h e).toNat c).ownBlock = (Value.slice A n c).ownBlock := by cases A <;> rfl
  obtain ⟨q1, q2, q3, q4⟩ := hr.grow (tok := some k) (w' := w) (bo := (Value.slice A n c).ownBlock) (L := 0) rfl rfl rfl (Nat.le_refl _) (fun j hj => by cases hj; exact hk) (fun _ _ _ => rfl)
    (fun g hg => .inr ⟨k, rfl, by rw [hbo, hg]⟩) (fun _ _ _ _ _ _ => rfl) (fun j g hj hjg hg i hi => by cases hj; exact absurd hi (hΦ0 g hg i))
  have hlen : (cutL (xs e) 0 (h e)).length = (h e).toNat := by unfold cutL; rw [Int.toNat_zero, List.drop_zero, List.length_take]; omega
  have hle : (h e).toNat * t.size ≤ us.length := by rw [hrow.1]; exact Nat.mul_le_mul_right _ (by omega)
  have hown' : MowRel (fun b i => G.Φ b i ∨ ((Value.slice A n c).ownBlock = some b ∧ i < 0)) w G.B el t (cutL (xs e) 0 (h e)) (.slice A (h e).toNat c) (Value.slice A n c).ownBlock := by
    refine ⟨hown, us.take ((h e).toNat * t.size), ⟨by rw [hlen, List.length_take]; omega, ?_⟩, fun j x hj => ?_, fun g hg i hi => by have := (q3 g hg i).1 hi; omega⟩
    · rcases hrow.2 with ⟨h1, h2⟩ | ⟨g, cap, cur, h1, hb1, hg, hn, hm, hs, ht⟩
      · simp only [Value.slice.injEq] at h1
        obtain ⟨rfl, rfl, rfl⟩ := h1
        have : (h e).toNat = 0 := by omega
        exact .inl ⟨by rw [this], by rw [hlen]; exact this⟩
      · simp only [Value.slice.injEq] at h1
        obtain ⟨rfl, rfl, rfl⟩ := h1
        exact .inr ⟨g, c, cur, by rw [hlen], hb1, hg, by rw [hlen]; omega, hm, hs, by rw [hlen, ← ht, List.take_take, Nat.min_eq_left (Nat.mul_le_mul_right _ (by omega))]⟩
    · have hjl : j < (h e).toNat := by rw [← hlen]; exact (List.getElem?_eq_some_iff.1 hj).1
      have hj' : (xs e)[j]? = some x := by
        unfold cutL at hj
        rw [Int.toNat_zero, List.drop_zero, List.getElem?_take_of_lt hjl] at hj
        exact hj
      have h1 : (j + 1) * t.size ≤ (h e).toNat * t.size := Nat.mul_le_mul_right _ hjl
      rw [Nat.succ_mul] at h1
      rw [List.drop_take, List.take_take, Nat.min_eq_left (by omega)]
      exact (hreps j x hj').mono q2
  have hput := (q1.newTok (bo := (Value.slice A n c).ownBlock) q4).put (d := dst) (dstOk'_drop (k := some k) hd) (mow_rel (z := false) (x := fun e' => cutL (xs e') 0 (h e')) (el := el) hown' (fun hz => nomatch hz))
  rw [show ({ G with Φ := fun b i => G.Φ b i ∨ ((Value.slice A n c).ownBlock = some b ∧ i < 0), γ := fun j => if some k = some j then none else G.γ j } : Gh).nt = s.nt from hr.nt] at hput
  exact ⟨E, _, e, F1, _, hK, hF1, hput, q2⟩
end
end Go.Proofs.YtmmbedlegmbppaaDoor.R
/- Every operation on rows that are not frozen. -/
namespace Go.Proofs.YtmmbedlegmbppaaDoor.R
open Go Go.RowKit
set_option linter.unusedVariables false
set_option linter.unusedSimpArgs false
section
variable {E : Type} {G : Gh} {w w0 : World} {Z : Zf} {e : E} {P : Program} {s : St E} {a : Act} {acts : List (Array Value)} {R : Type} {K : Kont R} {r : R}
theorem makeSlice_sound {t : TypeId} {el : TypeId} {u : Ty} {z : Array Value} {d : E → u.den} {n c : E → Int} {kn kc : IntKind} {dst : Option Tmp} {F : E → Option R} (ht : P.underlying t = some (.slice el)) (hz : zeroCells P el = some z) (hzs : z.size = sizeT P el) (hus : u.size = sizeT P el) (hpos : 0 < u.size) (hdt : toTy (E := E) u (z.toList.map constAV) = some d)
    (h : guardIf (some fun e' => makeB (n e') (c e') (bytesT P el)) (K E ((newTok s).put dst (.mow false s.nt el u fun e' => repL (n e') (d e')))) = some F) (hF : F e = some r) (hr : RelG Z w0 s e acts a w G) (hd : dstOk' s dst) :
    ∃ v w', (Instr.makeSlice t (.int kn (n e)) (.int kc (c e))).run P w = .ok v w' ∧ After Z w0 acts K r G w (a.put dst v) w' := by
  obtain ⟨F1, hK, hb, hF1⟩ := guardIf_spec h hF
  have hb0 := hb _ rfl
  simp only [makeB, Bool.and_eq_true, decide_eq_true_eq] at hb0
  obtain ⟨⟨⟨hn0, hnc⟩, hby⟩, hc2⟩ := hb0
  obtain ⟨it, zv, hit, hiz, hzc⟩ := zero_some hz
  have hsize : it.size = u.size := by rw [hus]; simp [sizeT, Program.cellsOf, hit]
  have hbytes : bytesT P el = it.bytes := by simp [bytesT, Program.bytesOf, hit]
  rw [hbytes] at hby
  have hzz : z.size = u.size := by rw [hzs, hus]
  have hrun := run_make (P := P) w t el it zv ht hit hiz kn kc (n e) (c e) hn0 hnc (by rw [Int.mul_comm]; omega) (by omega)
  rw [hsize, hzc, ← hzz] at hrun
  have hmade := made_rep z (by omega) (c e).toNat
  have hcr : CRel G.Φ w u (d e) z.toList := toTy_rel hdt (consts_rel z.toList)
  obtain ⟨q1, q2, q3⟩ := hr.fresh (w' := w.alloc (.cells (madeCells z ((c e).toNat * z.size)) el)) (Φ' := G.Φ) ((Below.refl _ _).alloc (Nat.le_refl _) _) (fun b i h => h) (fun b i hb h => h) (fun b i h => by have := hr.fz b i h; simp; omega)
  have hlen : (repL (n e) (d e)).length = (n e).toNat := by unfold repL; rw [List.length_replicate]
  have hzl : z.toList.length = u.size := by rw [Array.length_toList]; exact hzz
  have hown : MowRel G.Φ (w.alloc (.cells (madeCells z ((c e).toNat * z.size)) el)) G.B el u (repL (n e) (d e)) (.slice (some ⟨w.heap.size, 0, none⟩) (n e).toNat (c e).toNat) (some w.heap.size) := by
    refine ⟨rfl, (madeCells z ((c e).toNat * z.size)).toList.take ((n e).toNat * u.size), ⟨?_, .inr ⟨w.heap.size, (c e).toNat, _, by rw [hlen], by rw [hr.B]; exact hr.bel.size, heap_alloc_new w _, by rw [hlen]; omega, by simp only [maxLen]; omega, by rw [size_madeCells, hzz], by rw [hlen]⟩⟩, fun j x hj => ?_, fun g hg i hi => ?_⟩
    · rw [hlen, List.length_take, Array.length_toList, size_madeCells, hzz, Nat.min_eq_left (Nat.mul_le_mul_right _ (by omega))]
    · have hjl : j < (n e).toNat := by rw [← hlen]; exact (List.getElem?_eq_some_iff.1 hj).1
      have hx : x = d e := by
        exact List.eq_of_mem_replicate (List.mem_of_getElem? hj)
      rw [hx, hmade, List.drop_take, List.take_take]
      have h1 : (j + 1) * u.size ≤ (n e).toNat * u.size := Nat.mul_le_mul_right _ hjl
      rw [Nat.succ_mul] at h1
      rw [Nat.min_eq_left (by omega)]
      have h2 := rep_part (l := z.toList) (n := (c e).toNat) (i := j) (by omega)
      rw [hzl] at h2
      rw [h2]
      exact hcr.mono q2
    · cases hg; exact absurd (hr.fz _ _ hi) (Nat.lt_irrefl _)
  have hput := (q1.newTok (bo := some w.heap.size) (fun g hg => by
    cases hg
    refine ⟨by show G.B ≤ _; rw [hr.B]; exact hr.bel.size, by simp, fun b hl => by have := (hr.live_lt hl).2; show G.ρ b ≠ _; omega, fun k hk hkg => ?_⟩
    have := (hr.tlo k _ hk hkg).2.1
    omega)).put (d := dst) hd (mow_rel (z := false) (x := fun e' => repL (n e') (d e')) (el := el) hown (fun hz => nomatch hz))
  rw [show ({ G with Φ := G.Φ } : Gh).nt = s.nt from hr.nt] at hput
  exact ⟨_, _, hrun, E, _, e, F1, _, hK, hF1, hput, q2⟩
theorem build0_sound {t : TypeId} {el : TypeId} {u : Ty} {z : Array Value} {dst : Option Tmp} {F : E → Option R} (ht : P.underlying t = some (.slice el)) (hz : zeroCells P el = some z) (hzs : z.size = sizeT P el) (hus : u.size = sizeT P el) (hpos : 0 < u.size)
    (h : K E ((newTok s).put dst (.mow false s.nt el u fun _ => [])) = some F) (hF : F e = some r) (hr : RelG Z w0 s e acts a w G) (hd : dstOk' s dst) :
    ∃ v w', (Instr.buildSlice t 0 #[]).run P w = .ok v w' ∧ After Z w0 acts K r G w (a.put dst v) w' := by
  obtain ⟨us, hur, hrun⟩ := buildSlice_run (G := G) (w := w) (e := e) (n := 0) (vs := #[]) (ps := []) (cs := []) ht hz hzs hus hpos (by omega) rfl rfl rfl
  have hul : us.toList = [] := hur
  have husz : us.size = 0 := by rw [← Array.length_toList, hul]; rfl
  obtain ⟨q1, q2, q3⟩ := hr.fresh (w' := w.alloc (.cells us el)) (Φ' := G.Φ) ((Below.refl _ _).alloc (Nat.le_refl _) _) (fun b i h => h) (fun b i hb h => h) (fun b i h => by have := hr.fz b i h; simp; omega)
  have hown : MowRel G.Φ (w.alloc (.cells us el)) G.B el u [] (.slice (some ⟨w.heap.size, 0, none⟩) 0 0) (some w.heap.size) := by
    refine ⟨rfl, [], ⟨by simp, .inr ⟨w.heap.size, 0, us, rfl, by rw [hr.B]; exact hr.bel.size, heap_alloc_new w _, Nat.le_refl _, Nat.zero_le _, by rw [husz]; simp, by rw [hul]; simp⟩⟩, fun j x hj => by simp at hj, fun g hg i hi => ?_⟩
    cases hg; exact absurd (hr.fz _ _ hi) (Nat.lt_irrefl _)
  have hput := (q1.newTok (bo := some w.heap.size) (fun g hg => by
    cases hg
    refine ⟨by show G.B ≤ _; rw [hr.B]; exact hr.bel.size, by simp, fun b hl => by have := (hr.live_lt hl).2; show G.ρ b ≠ _; omega, fun k hk hkg => ?_⟩
    have := (hr.tlo k _ hk hkg).2.1
    omega)).put (d := dst) hd (mow_rel (z := false) (x := fun _ => []) (el := el) hown (fun hz => nomatch hz))
  rw [show ({ G with Φ := G.Φ } : Gh).nt = s.nt from hr.nt] at hput
  exact ⟨_, _, hrun w, E, _, e, F, _, h, hF, hput, q2⟩
theorem mutate_sound {mu : Bool} {o : Oper} {F : E → Option R} (h : mutate P mu s o K = some F) (hF : F e = some r) (hr : RelG Z w0 s e acts a w G) (hd : dstOk' s o.dst) :
    ∃ nx v w', (execOp a.eval o).run P w = .ok nx w' ∧ (nx = .value v ∨ (nx = .skip ∧ v = undef)) ∧ After Z w0 acts K r G w (a.put o.dst v) w' := by
  have ev := ev_rel hr.tm
  obtain ⟨dst, op, type, pos, after, guard⟩ := o
  unfold mutate at h
  simp only at h hd ⊢
  split at h
  · -- make
    rename_i t n c
    split at h
    · rename_i el n' c' ht hn hc
      simp only [Option.bind_eq_some_iff] at h
      obtain ⟨u, hu, z, hz, d, hdt, h⟩ := h
      split at h
      · rename_i hck
        simp only [Bool.and_eq_true, decide_eq_true_eq] at hck
        obtain ⟨⟨hzs, hus⟩, hpos⟩ := hck
        obtain ⟨kn, hkn⟩ := int_rel hn (ev n)
        obtain ⟨kc, hkc⟩ := int_rel hc (ev c)
        obtain ⟨v, w', hrun, haft⟩ := makeSlice_sound (kn := kn) (kc := kc) ht hz hzs hus hpos hdt h hF hr hd
        refine ⟨_, v, w', ?_, .inl rfl, haft⟩
        simp only [execOp, hkn, hkc, Sem.run_bind, hrun, Result.andThen_ok, Sem.run_pure]
      · cases h
    · cases h
  · -- nothing, laid
    rename_i t n ps
    split at h
    · rename_i el ht
      split at h
      · rename_i hnp
        simp only [Bool.and_eq_true, decide_eq_true_eq, Array.isEmpty_iff] at hnp
        obtain ⟨rfl, rfl⟩ := hnp
        simp only [Option.bind_eq_some_iff] at h
        obtain ⟨u, hu, z, hz, h⟩ := h
        split at h
        · rename_i hck
          simp only [Bool.and_eq_true, decide_eq_true_eq] at hck
          obtain ⟨⟨hzs, hus⟩, hpos⟩ := hck
          obtain ⟨v, w', hrun, haft⟩ := build0_sound ht hz hzs hus hpos h hF hr hd
          refine ⟨_, v, w', ?_, .inl rfl, haft⟩
          simp only [execOp, List.map_toArray, List.map_nil, Array.map_empty, Sem.run_bind, hrun, Result.andThen_ok, Sem.run_pure]
        · cases h
      · cases h
    · cases h
  · -- the address of an element
    rename_i t x i
    split at h
    · rename_i z k el ty xs j hx hj
      split at h
      · cases h
      · rename_i hs
        obtain ⟨F1, hK, hb, hF1⟩ := guardIf_spec h hF
        have hb0 := hb _ rfl
        rw [inB_iff] at hb0
        unfold lenL at hb0
        obtain ⟨el', hu, hsz⟩ := isSlT_spec (P := P) (t := t) (by simpa using hs)
        have hxr := ev x
        rw [hx] at hxr
        obtain ⟨hk, _, bo, hbo, hm⟩ := hxr
        obtain ⟨kk, hkk⟩ := int_rel hj (ev i)
        have hne : bo ≠ none := by
          rintro rfl
          obtain ⟨hv, us, hrow, _⟩ := hm
          have := own_none hrow hv
          omega
        obtain ⟨g, rfl⟩ : ∃ g, bo = some g := by cases bo with | none => exact absurd rfl hne | some g => exact ⟨g, rfl⟩
        obtain ⟨cur, cap, n, hg, hs1, hn, hnc, hv⟩ := mow_block hm
        subst hn
        refine ⟨_, .pointer (some ⟨g, (j e).toNat * ty.size + 0, none⟩), w, ?_, .inl rfl, E, _, e, F1, G, hK, hF1, hr.put hd (av := .ep k el ty xs j 0) ⟨hk, g, _, hbo, hm, hb0.1, hb0.2, rfl⟩, .refl _ _⟩
        simp [execOp, hv, hkk, Instr.indexAt, asIntOf, run_underlying hu, hb0.1, hb0.2, hsz, add_cell]
    · cases h
  · -- the address of a field
    rename_i t x f
    split at h
    · rename_i fld k el ty xs j o' hf hx
      split at h
      · cases h
      · rename_i h0
        have hxr := ev x
        rw [hx] at hxr
        obtain ⟨hk, g, vs, hbo, hm, hj0, hj1, hv⟩ := hxr
        obtain ⟨fs, hu, hkf⟩ := fieldOf_spec hf
        simp only [Bool.or_eq_true, decide_eq_true_eq, not_or] at h0
        have hi : (P.info? fld.type).isSome := by cases hh : P.info? fld.type with
          | none => rw [hh] at h0; simp at h0
          | some _ => rfl
        have hz := size_run (P := P) (t := fld.type) rfl hi w
        refine ⟨_, .pointer (some ⟨g, (j e).toNat * ty.size + (o' + fld.offset), none⟩), w, ?_, .inl rfl, E, _, e, F, G, h, hF, hr.put hd (av := .ep k el ty xs j (o' + fld.offset)) ⟨hk, g, vs, hbo, hm, hj0, hj1, rfl⟩, .refl _ _⟩
        simp [execOp, hv, Instr.fieldAt, run_underlying hu, hkf, Instr.sureAddr, fieldPlace, hz, h0.1, add_cell, Nat.add_assoc]
    · cases h
  · -- read
    rename_i t x
    split at h
    · rename_i k el ty xs j o' hx
      rw [Option.bind_eq_some_iff] at h
      obtain ⟨av, hp, h⟩ := h
      have hxr := ev x
      rw [hx] at hxr
      obtain ⟨hk, g, vs, hbo, hm, hj0, hj1, hv⟩ := hxr
      obtain ⟨us, hul, hcr, hcell⟩ := mow_el hm hj0 hj1
      obtain ⟨v, hvr, hrun⟩ := loadVar_run (g := g) (o := (j e).toNat * ty.size) hp (fromTy_rel (u := ty) (x := fun e' => elT ty (xs e') (j e')) hcr)
      refine ⟨_, v, w, ?_, .inl rfl, E, _, e, F, G, h, hF, hr.put hd hvr, .refl _ _⟩
      have := hrun w hcell
      simp [execOp, hv, Instr.loadAt, Instr.sureAddr, this]
    · cases h
  · -- stored
    rename_i t ad x
    split at h
    · rename_i k el ty xs j o' hx
      rw [Option.bind_eq_some_iff] at h
      obtain ⟨vs, hvs, h⟩ := h
      split at h
      · rename_i hck
        simp only [Bool.and_eq_true, decide_eq_true_eq] at hck
        obtain ⟨⟨hlen, hle⟩, hi⟩ := hck
        rw [Option.bind_eq_some_iff] at h
        obtain ⟨y, hy, h⟩ := h
        obtain ⟨hc1, hc2⟩ := AV.cells_rel hvs (ev x)
        have hxr := ev ad
        rw [hx] at hxr
        obtain ⟨hk, g, vrow, hbo, hm, hj0, hj1, hv⟩ := hxr
        obtain ⟨us, hul, hcr, hcell⟩ := mow_el hm hj0 hj1
        obtain ⟨cur, cap, n, hg, hs1, hn, hnc, _⟩ := mow_block hm
        have l1 := hc1.length
        rw [Array.length_toList] at l1
        have hjn : (j e).toNat < cap := by omega
        have hjs : ((j e).toNat + 1) * ty.size ≤ cur.size := by rw [hs1]; exact Nat.mul_le_mul_right _ hjn
        rw [Nat.succ_mul] at hjs
        have hel : CRel G.Φ w ty (y e) (us.take o' ++ (a.eval x).cells.toList ++ us.drop (o' + (a.eval x).cells.toList.length)) :=
          toTy_rel hy (putCells_list vs _ us _ o' (fromTy_rel (u := ty) (x := fun e' => elT ty (xs e') (j e')) hcr) hc1 (by rw [Array.length_toList, hul]; omega))
        have hue : us = (cur.toList.drop ((j e).toNat * ty.size)).take ty.size := by
          apply List.ext_getElem?
          intro m
          rw [part_get]
          split
          · rename_i hm1
            have hmu : m < us.length := by omega
            have h1 := hcell m _ (List.getElem?_eq_getElem hmu)
            rw [List.getElem?_eq_getElem hmu, ← h1]
            simp [World.cell?, hg]
          · rw [List.getElem?_eq_none (by omega)]
        have hfit : (j e).toNat * ty.size + o' + (a.eval x).cells.toList.length ≤ cur.size := by rw [Array.length_toList]; omega
        obtain ⟨q1, q2⟩ := hr.write (k := k) (g := g) (el := el) (t := ty) (F := fun e' l => setL l (j e') (y e')) hk hbo hg (fun i => hm.2.elim fun _ hh => hh.2.2 g rfl i) (o := (j e).toNat * ty.size + o') (ns := (a.eval x).cells.toList) hfit
          (fun l => by unfold setL; exact List.length_set) (fun l hl i v hiv => by
            unfold setL at hiv
            rw [List.getElem?_set] at hiv
            have hA : cur.toList.length = cur.size := Array.length_toList
            by_cases hij : (j e).toNat = i
            · subst hij
              rw [if_pos rfl] at hiv
              split at hiv
              · obtain rfl := Option.some.inj hiv
                have : (((cur.toList.take ((j e).toNat * ty.size + o') ++ (a.eval x).cells.toList ++ cur.toList.drop ((j e).toNat * ty.size + o' + (a.eval x).cells.toList.length)).drop ((j e).toNat * ty.size)).take ty.size) = us.take o' ++ (a.eval x).cells.toList ++ us.drop (o' + (a.eval x).cells.toList.length) := by
                  apply List.ext_getElem?
                  intro m
                  rw [part_get, splice_get (by rw [hA]; exact hfit), splice_get (by rw [Array.length_toList, hul]; omega), hue, part_get]
                  rw [Array.length_toList] at *
                  by_cases hm1 : m < ty.size
                  · rw [if_pos hm1, if_pos hm1]
                    by_cases h2 : m < o'
                    · rw [if_pos h2, if_pos (by omega)]
                    · rw [if_neg h2, if_neg (by omega)]
                      by_cases h3 : m < o' + (a.eval x).cells.size
                      · rw [if_pos h3, if_pos (by omega)]
                        congr 1; omega
                      · rw [if_neg h3, if_neg (by omega)]
                  · rw [if_neg hm1, if_neg hm1, if_neg (by omega), if_neg (by omega)]
                rw [this]; exact hel
              · cases hiv
            · rw [if_neg hij] at hiv
              obtain ⟨h1, h2⟩ := hl i v hiv
              have : (((cur.toList.take ((j e).toNat * ty.size + o') ++ (a.eval x).cells.toList ++ cur.toList.drop ((j e).toNat * ty.size + o' + (a.eval x).cells.toList.length)).drop (i * ty.size)).take ty.size) = (cur.toList.drop (i * ty.size)).take ty.size := by
                apply List.ext_getElem?
                intro m
                rw [part_get, part_get, splice_get (by rw [hA]; exact hfit)]
                rw [Array.length_toList] at *
                split
                · rename_i hm1
                  rcases Nat.lt_or_gt_of_ne hij with h3 | h3
                  · have h4 : ((j e).toNat + 1) * ty.size ≤ i * ty.size := Nat.mul_le_mul_right _ h3
                    rw [Nat.succ_mul] at h4
                    rw [if_neg (by omega), if_neg (by omega)]
                  · have h4 : (i + 1) * ty.size ≤ (j e).toNat * ty.size := Nat.mul_le_mul_right _ h3
                    rw [Nat.succ_mul] at h4
                    rw [if_pos (by omega)]
                · rfl
              rw [this]; exact h2)
        refine ⟨.skip, undef, _, ?_, .inr ⟨rfl, rfl⟩, E, _, e, F, _, h, hF, q1.put (s := s.upd k el ty fun e' l => setL l (j e') (y e')) hd (av := .tup []) (v := undef) ⟨#[], rfl, rfl⟩, q2⟩
        have hsz : (sizeOf t).run P w = .ok (sizeT P t) w := size_run rfl hi w
        have hne : ¬ ((a.eval x).cells.size ≠ sizeT P t) := by omega
        have hst := run_storeCells_at (P := P) g ((j e).toNat * ty.size + o') el (a.eval x).cells.toList 0 cur w hg (by rw [Nat.add_zero]; exact hfit) hc2
        rw [Nat.add_zero] at hst
        simp only [execOp, Instr.storeAt, hv, Instr.sureAddr, Sem.run_bind, Sem.run_pure, Result.andThen_ok, storeVar, hsz, if_neg hne, hst]
      · cases h
    · cases h
  · -- cut
    rename_i t x lo hi mx
    split at h
    · rename_i z k el ty xs hx
      split at h
      · cases h
      rename_i hs
      obtain ⟨el', hu, hsz⟩ := isSlT_spec (P := P) (t := t) (by simpa using hs)
      have hxr := ev x
      rw [hx] at hxr
      obtain ⟨A, c, hv, hnc, hcm, hA0⟩ : ∃ A c, a.eval x = .slice A (xs e).length c ∧ (xs e).length ≤ c ∧ c ≤ 9223372036854775807 ∧ (A = none ∨ ∃ g, A = some ⟨g, 0, none⟩) := by
        obtain ⟨_, _, bo, _, _, us, hrow, _⟩ := hxr
        obtain ⟨A, c, h1, h2, h3, _⟩ := own_max hrow
        refine ⟨A, c, h1, h2, h3, ?_⟩
        rcases hrow.2 with ⟨h4, _⟩ | ⟨g, cap, cur, h4, _⟩
        · rw [h1] at h4; simp only [Value.slice.injEq] at h4; exact .inl h4.1
        · rw [h1] at h4; simp only [Value.slice.injEq] at h4; exact .inr ⟨g, h4.1⟩
      have hAdd : A.map (·.add (0 * ty.size)) = A := by
        rcases hA0 with rfl | ⟨g, rfl⟩
        · rfl
        · rw [Nat.zero_mul, Option.map_some, add_cell]
      have hAif : (if c = 0 then A else A.map (·.add (0 * ty.size))) = A := by rw [hAdd, ite_self]
      split at h
      · -- [:h]
        rename_i hv0 hlo hhi hmx
        rw [Option.bind_eq_some_iff] at h
        obtain ⟨h', hh', h⟩ := h
        have hlo' : lo = none := by cases lo with | none => rfl | some _ => cases hlo
        have hmx' : mx = none := by cases mx with | none => rfl | some _ => cases hmx
        obtain ⟨hi', rfl, rfl⟩ : ∃ y, hi = some y ∧ s.ev y = hv0 := by cases hi with | none => cases hhi | some y => exact ⟨y, rfl, Option.some.inj hhi⟩
        subst hlo' hmx'
        obtain ⟨kk, hkk⟩ := int_rel hh' (ev hi')
        obtain ⟨hb0, haft⟩ := trunc_sound h hF hr hd hxr
        refine ⟨_, _, w, ?_, .inl rfl, haft A _ c hv⟩
        have hbr := bounds_run (P := P) (sl := true) (len := (xs e).length) (cap := c) (lv := none) (hv := some (.int kk (h' e))) (l := 0) (h := h' e) (.inl ⟨rfl, rfl⟩) (.inr ⟨kk, rfl⟩) hb0 (by rw [boundB_iff] at hb0 ⊢; omega) hnc w
        rw [Int.toNat_zero] at hbr
        simp [execOp, hv, hkk, Instr.sliceAt, Instr.slice, run_underlying hu, hbr, hsz]
        rcases hA0 with rfl | ⟨g, rfl⟩ <;> simp [add_cell]
      · -- [:h:cap]
        rename_i hv0 k' n hlo hhi hmx
        split at h
        · rename_i hkn
          simp only [Bool.and_eq_true, decide_eq_true_eq] at hkn
          obtain ⟨rfl, rfl⟩ := hkn
          rw [Option.bind_eq_some_iff] at h
          obtain ⟨h', hh', h⟩ := h
          have hlo' : lo = none := by cases lo with | none => rfl | some _ => cases hlo
          obtain ⟨hi', rfl, rfl⟩ : ∃ y, hi = some y ∧ s.ev y = hv0 := by cases hi with | none => cases hhi | some y => exact ⟨y, rfl, Option.some.inj hhi⟩
          obtain ⟨mx', rfl, hmxe⟩ : ∃ y, mx = some y ∧ s.ev y = .capk k' ty.size := by cases mx with | none => cases hmx | some y => exact ⟨y, rfl, Option.some.inj hmx⟩
          subst hlo'
          obtain ⟨kk, hkk⟩ := int_rel hh' (ev hi')
          obtain ⟨hb0, haft⟩ := trunc_sound h hF hr hd hxr
          have hcr := ev mx'
          rw [hmxe] at hcr
          have hcap : a.eval mx' = .int .i64 (c : Int) := by
            obtain ⟨_, bo, c2, h2, h3, h4, h5, h6⟩ := hcr
            obtain ⟨_, _, bo2, h7, hob, us, hrow, _⟩ := hxr
            have hbb : bo = bo2 := by rw [h2] at h7; exact Option.some.inj h7
            subst hbb
            rw [h6]
            rcases hrow.2 with ⟨h8, _⟩ | ⟨g, cap, cur, h8, _, hg, _, _, hs, _⟩
            · rw [hv] at h8
              simp only [Value.slice.injEq] at h8
              obtain ⟨rfl, _, rfl⟩ := h8
              rw [hv] at hob
              rw [h4 hob.symm]
            · rw [hv] at h8
              simp only [Value.slice.injEq] at h8
              obtain ⟨rfl, _, rfl⟩ := h8
              rw [hv] at hob
              obtain ⟨cur', el2, h9, h10⟩ := h5 g hob.symm
              rw [hg] at h9
              simp only [Option.some.injEq, Obj.cells.injEq, and_true] at h9
              obtain ⟨rfl, _⟩ := h9
              rw [hs] at h10
              rw [Nat.eq_of_mul_eq_mul_right h3 h10]
          refine ⟨_, _, w, ?_, .inl rfl, haft A _ c hv⟩
          rw [boundB_iff] at hb0
          have q1 : (Instr.sliceBound (.int .i64 (c : Int)) c .slice3Acap).run P w = .ok c w := by rw [bound_run (by rw [boundB_iff]; omega)]; simp
          have q2 : (Instr.sliceBound (.int kk (h' e)) c .slice3B).run P w = .ok (h' e).toNat w := bound_run (by rw [boundB_iff]; omega) w
          have q3 : (Instr.sliceBounds true (xs e).length c none (some (.int kk (h' e))) (some (.int .i64 (c : Int)))).run P w = .ok (0, (h' e).toNat, c) w := by simp [Instr.sliceBounds, q1, q2]
          simp [execOp, hv, hkk, hcap, Instr.sliceAt, Instr.slice, run_underlying hu, q3, hsz]
          rcases hA0 with rfl | ⟨g, rfl⟩ <;> simp [add_cell]
        · cases h
      · -- [l:]
        rename_i lv0 hlo hhi hmx
        rw [Option.bind_eq_some_iff] at h
        obtain ⟨l', hl', h⟩ := h
        obtain ⟨lo', rfl, rfl⟩ : ∃ y, lo = some y ∧ s.ev y = lv0 := by cases lo with | none => cases hlo | some y => exact ⟨y, rfl, Option.some.inj hlo⟩
        have hhi' : hi = none := by cases hi with | none => rfl | some _ => cases hhi
        have hmx' : mx = none := by cases mx with | none => rfl | some _ => cases hmx
        subst hhi' hmx'
        obtain ⟨kk, hkk⟩ := int_rel hl' (ev lo')
        obtain ⟨F1, hK, hb, hF1⟩ := guardIf_spec h hF
        have hb0 : boundB (l' e) ((xs e).length : Int) = true := hb _ rfl
        obtain ⟨hk, hz, bo, hbo, hm⟩ := hxr
        have hbr := bounds_run (P := P) (sl := true) (len := (xs e).length) (cap := c) (lv := some (.int kk (l' e))) (hv := none) (l := l' e) (h := ((xs e).length : Int)) (.inr ⟨kk, rfl⟩) (.inl ⟨rfl, rfl⟩) (by rw [boundB_iff]; omega) hb0 hnc w
        rw [Int.toNat_natCast] at hbr
        rw [boundB_iff] at hb0
        refine ⟨_, .slice (if c = (l' e).toNat then A else A.map (·.add ((l' e).toNat * ty.size))) ((xs e).length - (l' e).toNat) (c - (l' e).toNat), w, ?_, .inl rfl, E, _, e, F1, G, hK, hF1, hr.put hd (av := .tl k el ty xs l') ⟨hk, bo, _, _, _, hbo, hm, hb0.1, hb0.2, rfl, fun hne => ?_⟩, .refl _ _⟩
        · simp [execOp, hv, hkk, Instr.sliceAt, Instr.slice, run_underlying hu, hbr, hsz]
        · rw [if_neg (by omega)]
          rcases hA0 with rfl | ⟨g, rfl⟩
          · obtain ⟨hob, us, hrow, _⟩ := hm
            have := own_none hrow (by rw [hv]; rfl)
            omega
          · refine ⟨g, ?_, by rw [Option.map_some, add_cell, Nat.zero_add]⟩
            have := hm.1
            rw [hv] at this
            exact this.symm
      · -- [0:0:0]
        rename_i lv0 hv0 mv0 hlo hhi hmx
        simp only [Option.bind_eq_some_iff] at h
        obtain ⟨l', hl', h', hh', m', hm', h⟩ := h
        obtain ⟨lo', rfl, rfl⟩ : ∃ y, lo = some y ∧ s.ev y = lv0 := by cases lo with | none => cases hlo | some y => exact ⟨y, rfl, Option.some.inj hlo⟩
        obtain ⟨hi', rfl, rfl⟩ : ∃ y, hi = some y ∧ s.ev y = hv0 := by cases hi with | none => cases hhi | some y => exact ⟨y, rfl, Option.some.inj hhi⟩
        obtain ⟨mx', rfl, rfl⟩ : ∃ y, mx = some y ∧ s.ev y = mv0 := by cases mx with | none => cases hmx | some y => exact ⟨y, rfl, Option.some.inj hmx⟩
        obtain ⟨F1, hK, hb, hF1⟩ := guardIf_spec h hF
        have hb0 := hb _ rfl
        rw [andB_iff, andB_iff] at hb0
        obtain ⟨b1, b2, b3⟩ := hb0
        have b1 : l' e = 0 := by simpa [eqI] using b1
        have b2 : h' e = 0 := by simpa [eqI] using b2
        have b3 : m' e = 0 := by simpa [eqI] using b3
        obtain ⟨k1, hk1⟩ := int_rel hl' (ev lo')
        obtain ⟨k2, hk2⟩ := int_rel hh' (ev hi')
        obtain ⟨k3, hk3⟩ := int_rel hm' (ev mx')
        rw [b1] at hk1
        rw [b2] at hk2
        rw [b3] at hk3
        have q1 : (Instr.sliceBound (.int k3 0) c .slice3Acap).run P w = .ok 0 w := by rw [bound_run (by rw [boundB_iff]; omega)]; simp
        have q2 : (Instr.sliceBound (.int k2 0) 0 .slice3B).run P w = .ok 0 w := by rw [bound_run (by rw [boundB_iff]; omega)]; simp
        have q4 : (Instr.sliceBound (.int k1 0) 0 .slice3C).run P w = .ok 0 w := by rw [bound_run (by rw [boundB_iff]; omega)]; simp
        have q3 : (Instr.sliceBounds true (xs e).length c (some (.int k1 0)) (some (.int k2 0)) (some (.int k3 0))).run P w = .ok (0, 0, 0) w := by simp [Instr.sliceBounds, q1, q2, q4]
        refine ⟨_, .slice A 0 0, w, ?_, .inl rfl, E, _, e, F1, G, hK, hF1, hr.put hd (av := .full el ty fun _ => []) ⟨⟨A, 0, rfl, Nat.le_refl _, by omega, 0, 0, .inl rfl, fun j y hj => by simp at hj⟩, A, 0, rfl⟩, .refl _ _⟩
        simp [execOp, hv, hk1, hk2, hk3, Instr.sliceAt, Instr.slice, run_underlying hu, q3, hsz]
      · cases h
    · cases h
  · -- what is built in
    rename_i c
    obtain ⟨callee, args, ats⟩ := c
    simp only at h
    split at h
    · split at h
      · rename_i x y t u h1 h2
        obtain ⟨v, w', hrun, haft⟩ := appendOpen_sound (ty := type) h hF hr hd (ev x) (ev y)
        have ha : args = #[x, y] := by apply Array.ext'; exact h1
        have hb : ats = #[t, u] := by apply Array.ext'; exact h2
        subst ha hb
        refine ⟨_, v, w', ?_, .inl rfl, haft⟩
        simp only [execOp, resolve, invoke, builtin, Sem.run_bind, Sem.run_pure, Result.andThen_ok, List.map_toArray, List.map_cons, List.map_nil, hrun]
      · rename_i x t h1 h2
        have ha : args = #[x] := by apply Array.ext'; exact h1
        have hb : ats = #[t] := by apply Array.ext'; exact h2
        subst ha hb
        split at h
        · rename_i z k el ty xs hx
          split at h
          · rename_i hs
            rw [Bool.and_eq_true, decide_eq_true_eq] at hs
            obtain ⟨el', hu, hsz⟩ := isSlT_spec (P := P) (t := t) hs.1
            have hxr := ev x
            rw [hx] at hxr
            obtain ⟨hk, _, bo, hbo, hob, us, hrow, _⟩ := hxr
            obtain ⟨A, c, hv, _⟩ := own_max hrow
            refine ⟨_, .int .i64 (c : Int), w, ?_, .inl rfl, E, _, e, F, G, h, hF, hr.put hd (av := .capk k ty.size) ⟨hk, bo, c, hbo, hs.2, fun hb => ?_, fun g hg => ?_, rfl⟩, .refl _ _⟩
            · simp [execOp, resolve, invoke, builtin, Builtin.cap_, hv, run_underlying hu, goInt]
            · rcases hrow.2 with ⟨h4, _⟩ | ⟨g, cap, cur, h4, _⟩
              · rw [hv] at h4; simp only [Value.slice.injEq] at h4; exact h4.2.2
              · rw [h4] at hob; rw [← hob] at hb; cases hb
            · rcases hrow.2 with ⟨h4, _⟩ | ⟨g', cap, cur, h4, _, hg2, _, _, hs2, _⟩
              · rw [h4] at hob; rw [← hob] at hg; cases hg
              · rw [h4] at hob
                rw [← hob] at hg
                obtain rfl : g' = g := Option.some.inj hg
                rw [hv] at h4
                simp only [Value.slice.injEq] at h4
                obtain ⟨_, _, rfl⟩ := h4
                exact ⟨cur, el, hg2, hs2⟩
          · cases h
        · cases h
      · rename_i x t h1 h2
        have ha : args = #[x] := by apply Array.ext'; exact h1
        have hb : ats = #[t] := by apply Array.ext'; exact h2
        subst ha hb
        split at h
        · rename_i el k el2 ty xs l hu hx
          simp only [Option.bind_eq_some_iff] at h
          obtain ⟨z, hz, d, hdt, h⟩ := h
          split at h
          · rename_i hck
            simp only [Bool.and_eq_true, decide_eq_true_eq] at hck
            obtain ⟨⟨hzs, rfl⟩, hpos⟩ := hck
            obtain ⟨F1, hK, hb, hF1⟩ := guardIf_spec h hF
            have hlt0 : l e < ((xs e).length : Int) := of_decide_eq_true (hb _ rfl)
            have hxr := ev x
            rw [hx] at hxr
            obtain ⟨hk, bo, vs, A, c, hbo, hm, hl0, hl1, hv, hA⟩ := hxr
            have hm0 : (xs e).length - (l e).toNat ≠ 0 := by omega
            obtain ⟨g, rfl, rfl⟩ := hA hm0
            obtain ⟨cur, cap, n, hg, hs1, hn, hnc, _⟩ := mow_block hm
            obtain ⟨zv, hzc, hzr⟩ := zero_run hz w
            have hzl : z.toList.length = ty.size := by rw [Array.length_toList]; exact hzs
            have hzeros : (Builtin.zeroCells zv.cells ((xs e).length - (l e).toNat)).toList = rep ((xs e).length - (l e).toNat) z.toList := by
              rw [hzc]
              have := made_rep z (by omega) ((xs e).length - (l e).toNat)
              rw [← this]
              rfl
            have hcr : CRel G.Φ w ty (d e) z.toList := toTy_rel hdt (consts_rel z.toList)
            have hrl : (rep ((xs e).length - (l e).toNat) z.toList).length = ((xs e).length - (l e).toNat) * ty.size := by rw [rep_length, hzl]
            have hsum : (l e).toNat * ty.size + ((xs e).length - (l e).toNat) * ty.size = (xs e).length * ty.size := by rw [← Nat.add_mul]; congr 1; omega
            have hle : (xs e).length * ty.size ≤ cur.size := by rw [hs1]; exact Nat.mul_le_mul_right _ (by omega)
            have hfit : (l e).toNat * ty.size + (rep ((xs e).length - (l e).toNat) z.toList).length ≤ cur.size := by rw [hrl]; omega
            have hnn : (lenL (xs e)).toNat = (xs e).length := by unfold lenL; rfl
            obtain ⟨q1, q2⟩ := hr.write (k := k) (g := g) (el := el2) (t := ty) (F := fun e' x => wipeL x (l e') (lenL (xs e')) (d e')) hk hbo hg (fun i => hm.2.elim fun _ hh => hh.2.2 g rfl i) (o := (l e).toNat * ty.size) (ns := rep ((xs e).length - (l e).toNat) z.toList) hfit
              (fun y => by
                unfold wipeL
                rw [hnn]
                simp only [List.length_append, List.length_take, List.length_replicate, List.length_drop]
                omega) (fun y hy i v hiv => by
                have hA : cur.toList.length = cur.size := Array.length_toList
                unfold wipeL at hiv
                rw [hnn, Nat.max_eq_right (by omega), List.getElem?_append] at hiv
                have cut : ∀ (hh : i < (l e).toNat ∨ (xs e).length ≤ i), (((cur.toList.take ((l e).toNat * ty.size) ++ rep ((xs e).length - (l e).toNat) z.toList ++ cur.toList.drop ((l e).toNat * ty.size + (rep ((xs e).length - (l e).toNat) z.toList).length)).drop (i * ty.size)).take ty.size) = (cur.toList.drop (i * ty.size)).take ty.size := by
                  intro hh
                  apply List.ext_getElem?
                  intro m
                  rw [part_get, part_get, splice_get (by rw [hA]; exact hfit), hrl]
                  split
                  · rename_i hm1
                    rcases hh with h3 | h3
                    · have h4 : (i + 1) * ty.size ≤ (l e).toNat * ty.size := Nat.mul_le_mul_right _ h3
                      rw [Nat.succ_mul] at h4
                      rw [if_pos (by omega)]
                    · have h4 : (xs e).length * ty.size ≤ i * ty.size := Nat.mul_le_mul_right _ h3
                      rw [if_neg (by omega), if_neg (by omega)]
                  · rfl
                have mid : (l e).toNat ≤ i → i < (xs e).length → (((cur.toList.take ((l e).toNat * ty.size) ++ rep ((xs e).length - (l e).toNat) z.toList ++ cur.toList.drop ((l e).toNat * ty.size + (rep ((xs e).length - (l e).toNat) z.toList).length)).drop (i * ty.size)).take ty.size) = z.toList := by
                  intro h3 h4
                  have h5 := rep_part (l := z.toList) (n := (xs e).length - (l e).toNat) (i := i - (l e).toNat) (by omega)
                  rw [hzl] at h5
                  refine Eq.trans ?_ h5
                  apply List.ext_getElem?
                  intro m
                  have h6 : (l e).toNat * ty.size + (i - (l e).toNat) * ty.size = i * ty.size := by rw [← Nat.add_mul]; congr 1; omega
                  have h7 : (i + 1) * ty.size ≤ (xs e).length * ty.size := Nat.mul_le_mul_right _ h4
                  rw [Nat.succ_mul] at h7
                  rw [part_get, part_get, splice_get (by rw [hA]; exact hfit), hrl]
                  split
                  · rename_i hm1
                    rw [if_neg (by omega), if_pos (by omega)]
                    congr 1; omega
                  · rfl
                rw [List.length_take] at hiv
                split at hiv
                · rename_i h3
                  rw [List.getElem?_take_of_lt (by omega)] at hiv
                  rw [cut (.inl (by omega))]
                  exact (hy i v hiv).2
                · rename_i h3
                  rw [List.getElem?_append, List.length_replicate] at hiv
                  split at hiv
                  · rename_i h4
                    have hvd := List.eq_of_mem_replicate (List.mem_of_getElem? hiv)
                    rw [mid (by omega) (by omega), hvd]
                    exact hcr
                  · rename_i h4
                    rw [List.getElem?_drop] at hiv
                    by_cases hly : (xs e).length ≤ y.length
                    · have hi : (xs e).length + (i - min (l e).toNat y.length - (min (xs e).length y.length - (l e).toNat)) = i := by omega
                      rw [hi] at hiv
                      rw [cut (.inr (by omega))]
                      exact (hy i v hiv).2
                    · rw [List.getElem?_eq_none (by omega)] at hiv
                      cases hiv)
            refine ⟨_, .tuple #[], _, ?_, .inl rfl, E, _, e, F1, _, hK, hF1, q1.put (s := s.upd k el2 ty fun e' x => wipeL x (l e') (lenL (xs e')) (d e')) hd (av := .tup []) (v := .tuple #[]) ⟨#[], rfl, rfl⟩, q2⟩
            have hone : ∀ u ∈ rep ((xs e).length - (l e).toNat) z.toList, u.oneCell' = true := by
              have hz1 := hcr.one
              have : ∀ n, ∀ u ∈ rep n z.toList, u.oneCell' = true := by
                intro n
                induction n with
                | zero => intro u hu; simp [rep] at hu
                | succ n ih =>
                  intro u hu
                  unfold rep at hu
                  rcases List.mem_append.1 hu with hu | hu
                  · exact hz1 u hu
                  · exact ih u hu
              exact this _
            have hst := run_storeCells_at (P := P) g ((l e).toNat * ty.size) el2 (rep ((xs e).length - (l e).toNat) z.toList) 0 cur w hg (by rw [Nat.add_zero]; exact hfit) hone
            rw [Nat.add_zero] at hst
            obtain ⟨m, hmm⟩ : ∃ m, (xs e).length - (l e).toNat = m + 1 := ⟨(xs e).length - (l e).toNat - 1, by omega⟩
            rw [hmm] at hv hzeros hst
            simp only [execOp, resolve, invoke, builtin, Sem.run_bind, Sem.run_pure, Result.andThen_ok, List.map_toArray, List.map_cons, List.map_nil, Builtin.clear_, hv, List.getElem?_toArray, List.getElem?_cons_zero, run_underlying hu, hzr, hzeros, hst]
            rw [hmm]
          · cases h
        · cases h
      · cases h
    · cases h
  · cases h
end
end Go.Proofs.YtmmbedlegmbppaaDoor.R
