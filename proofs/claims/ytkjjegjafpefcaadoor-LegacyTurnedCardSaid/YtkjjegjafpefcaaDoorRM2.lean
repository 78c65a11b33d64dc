/- Maps, and walks along texts, that the call makes: what is done with them. -/
import Derived.Test.YtkjjegjafpefcaaDoorR15
namespace Go.Proofs.YtkjjegjafpefcaaDoor.R
open Go Go.RowKit
set_option linter.unusedVariables false
set_option linter.unusedSimpArgs false
section
variable {E : Type} {G : Gh} {w w0 : World} {Z : Fz} {e : E} {P : Program} {s : St E} {a : Act} {acts : List (Array Value)} {R : Type} {K : Kont R} {r : R}
theorem CK.to_inj {kd : Ty} {c c' : CK} {y : kd.den} (h : c.to kd = some y) (h' : c'.to kd = some y) : c = c' := by
  cases c <;> simp only [CK.to] at h <;> (split at h <;> first | cases h | skip) <;> (rename_i q1; subst q1)
  all_goals (cases c' <;> simp [CK.to] at h')
  · obtain ⟨rfl, h'⟩ := h'; cases h'; rfl
  · cases h'; rfl
  · cases h'; rfl
theorem find_none {kd : Ty} {d : TypeDesc} {vk : Value} {c : CK} {y : kd.den} (hc : c.to kd = some y) {Φ : Fz} (hn : ∀ (y z : kd.den) (u v : Value), VRel Φ w kd y u → VRel Φ w kd z v → Instr.sameNow d u v = some (eqD kd y z) ∧ (eqD kd y z = true → y = z ∧ Instr.sameBits 10000 v u = true)) (hv : vk = c.val) :
    ∀ (ks : List CK) (ens : List MapEntry) (i : Nat), ens.map (·.key) = ks.map CK.val → (ks.all fun c' => (c'.to kd).isSome && c' != c) = true → Instr.findNow d vk ens i = some none
  | [], ens, i, h, _ => by rw [List.map_eq_nil_iff.1 h]; rfl
  | k :: ks, ens, i, h, ha => by
    cases ens with
    | nil => simp at h
    | cons en ens =>
      simp only [List.map_cons, List.cons.injEq] at h
      simp only [List.all_cons, Bool.and_eq_true, bne_iff_ne] at ha
      obtain ⟨⟨h1, h2⟩, h3⟩ := ha
      obtain ⟨z, hz⟩ := Option.isSome_iff_exists.1 h1
      obtain ⟨s1, s2⟩ := hn y z vk en.key (by rw [hv]; exact CK.to_val hc) (by rw [h.1]; exact CK.to_val hz)
      have hf : eqD kd y z = false := by
        cases he : eqD kd y z with
        | false => rfl
        | true => obtain ⟨rfl, _⟩ := s2 he; exact absurd (CK.to_inj hz hc) h2
      rw [hf] at s1
      unfold Instr.findNow
      rw [s1]
      exact find_none hc hn hv ks ens (i + 1) h.2 (by simpa only [List.all_eq_true, Bool.and_eq_true, bne_iff_ne] using h3)
theorem setObj_run {ob o' : Obj} {g : Nat} (h : w.heap[g]? = some ob) (hb : ∃ ens clk, ob = .map ens clk) : (setObj g o').run P w = .ok () { w with heap := w.heap.setIfInBounds g o' } := by
  obtain ⟨ens, clk, rfl⟩ := hb
  exact MapKept.run_setObj_map _ h
theorem iter_run {t : ByteArray} {p : Nat} {o' : Obj} {g : Nat} (h : w.heap[g]? = some (.stringIter t p)) : (getObj g).run P w = .ok (.stringIter t p) w ∧ (setObj g o').run P w = .ok () { w with heap := w.heap.setIfInBounds g o' } := by
  constructor
  · simp [getObj, Sem.run, h]
  · simp [setObj, Sem.run, h]
/-- A block of our own is laid anew. -/
theorem RelG.lay (hr : RelG Z w0 s e acts a w G) {b : Nat} {K K' : BK} {cs vs : List (AV E)} {us' : List Value} {ob : Obj} (hb : s.blocks[b]? = some (.cells K cs)) (hk : KIs (some ob) us' K') (hv : AV.Rels G w e vs us') :
    RelG Z w0 { s with blocks := s.blocks.set b (.cells K' vs) } e acts a { w with heap := w.heap.setIfInBounds (G.ρ b) ob } G ∧ FExt G.Φ w G.Φ { w with heap := w.heap.setIfInBounds (G.ρ b) ob } := by
  have hlt := (hr.live_lt ⟨K, cs, hb⟩).2
  refine hr.turn hb rfl rfl rfl (by simp) (fun g hg => ?_) ?_ hv
  · exact Array.getElem?_setIfInBounds_ne (Ne.symm hg)
  · show KIs ((w.heap.setIfInBounds (G.ρ b) ob)[G.ρ b]?) us' K'
    rw [Array.getElem?_setIfInBounds_self_of_lt hlt]; exact hk
theorem updTo_sound {dst : Option Tmp} {t : TypeId} {m k v : AV E} {ck : Option CK} {vm vk vv : Value} {F : E → Option R} (h : updTo P s dst t m ck k v K = some F) (hF : F e = some r) (hr : RelG Z w0 s e acts a w G) (hd : dstOk' s dst)
    (hm : m.Rel G w e vm) (hk : k.Rel G w e vk) (hv : v.Rel G w e vv) (hck : ∀ c, ck = some c → vk = c.val) :
    ∃ w', (Instr.mapUpdate t vm vk vv).run P w = .ok () w' ∧ After Z w0 acts K r G w (a.put dst undef) w' := by
  unfold updTo at h
  split at h
  · rename_i kt et b hu
    obtain ⟨_, rfl⟩ := hm
    split at h
    · -- a key that is known
      rename_i c mt ks vs hbk
      simp only [Option.bind_eq_some_iff] at h
      obtain ⟨kd, hkd, y, hy, h⟩ := h
      split at h
      · rename_i hall
        have hvk := hck c rfl
        obtain ⟨us, ⟨ens, clk, hm, hks, rfl⟩, hus, _⟩ := hr.blk b _ hbk
        obtain ⟨dd, hdd, hnow, hchk⟩ := key_now (P := P) (w := w) (Φ := G.Φ) hkd
        have hfn := find_none hy hnow hvk ks ens.toList 0 hks hall
        have hyr : VRel G.Φ w kd y vk := by rw [hvk]; exact CK.to_val hy
        obtain ⟨q1, q2⟩ := hr.lay (K' := .smap mt (ks ++ [c])) (vs := vs ++ [v]) (us' := ens.toList.map (·.val) ++ [vv]) (ob := .map (ens.push { key := vk, val := vv, born := clk }) (clk + 1)) hbk ⟨_, _, rfl, by simp [hks, hvk], by simp⟩ (hus.append (.cons hv .nil))
        refine ⟨_, ?_, E, _, e, F, G, h, hF, q1.put (s := { s with blocks := s.blocks.set b (.cells (.smap mt (ks ++ [c])) (vs ++ [v])) }) hd (av := .tup []) (v := undef) ⟨#[], rfl, rfl⟩, q2⟩
        simp [Instr.mapUpdate, run_underlying hu, MapKept.run_getObj_map hm, hchk _ _ _ hyr w, MapKept.run_findKey hdd hfn, MapKept.run_setObj_map _ hm]
      · cases h
    · simp only [Option.bind_eq_some_iff] at h
      obtain ⟨kd, hkd, x, hx, y, hy, u, hu2, h⟩ := h
      obtain ⟨ens, clk, hm, hmi, el, cs, hbk⟩ := ents_rel hx hr.blk
      obtain ⟨dd, hdd, hnow, hchk⟩ := key_now (P := P) (w := w) (Φ := G.Φ) hkd
      have hyr := to_vrel hy hk
      have hur := to_vrel hu2 hv
      have fin : ∀ (ens' : Array MapEntry) (clk' : Nat), MapIs G.Φ w kd x.vd (putM kd x.vd (x.x e) (y e) (u e)) ens'.toList → (Instr.mapUpdate t (.map (some (G.ρ b))) vk vv).run P w = .ok () { w with heap := w.heap.setIfInBounds (G.ρ b) (.map ens' clk') } →
          ∃ w', (Instr.mapUpdate t (.map (some (G.ρ b))) vk vv).run P w = .ok () w' ∧ After Z w0 acts K r G w (a.put dst undef) w' := by
        intro ens' clk' hi hrun
        obtain ⟨q1, q2⟩ := hr.lay (K' := .dmap) (vs := [.ents kd x.vd fun e => putM kd x.vd (x.x e) (y e) (u e)]) (us' := [.agg (ens'.map fun en => .agg #[en.key, en.val])]) (ob := .map ens' clk') hbk ⟨_, _, rfl, rfl⟩ (.cons ⟨_, rfl, by rw [Array.toList_map]; exact hi.ents⟩ .nil)
        exact ⟨_, hrun, E, _, e, F, G, h, hF, q1.put (s := { s with blocks := s.blocks.set b (.cells .dmap [.ents kd x.vd fun e => putM kd x.vd (x.x e) (y e) (u e)]) }) hd (av := .tup []) (v := undef) ⟨#[], rfl, rfl⟩, q2⟩
      rcases find_run hnow hyr (u e) (x.x e) ens.toList 0 hmi with ⟨a1, _, _, a4⟩ | ⟨j, en, a1, a2, _, _, a5, a6⟩
      · refine fin (ens.push { key := vk, val := vv, born := clk }) (clk + 1) ?_ ?_
        · rw [a4, Array.toList_push]; exact hmi.push hyr hur
        · simp [Instr.mapUpdate, run_underlying hu, MapKept.run_getObj_map hm, hchk _ _ _ hyr w, MapKept.run_findKey hdd a1, MapKept.run_setObj_map _ hm]
      · rw [Nat.zero_add] at a1
        have a2' : ens[j]? = some en := by rw [← Array.getElem?_toList]; exact a2
        refine fin (ens.modify j fun e => { e with key := vk, val := vv }) clk ?_ ?_
        · rw [Array.toList_modify]; exact a6 (u e) vv hur
        · simp [Instr.mapUpdate, run_underlying hu, MapKept.run_getObj_map hm, hchk _ _ _ hyr w, MapKept.run_findKey hdd a1, MapKept.run_setObj_map _ hm, a2', Instr.keyThatStays, a5]
  · cases h
theorem lookK_spec {dst : Option Tmp} {kd : Ty} {d : TypeDesc} {y : E → kd.den} {vk : Value} (hn : ∀ (y z : kd.den) (u v : Value), VRel G.Φ w kd y u → VRel G.Φ w kd z v → Instr.sameNow d u v = some (eqD kd y z) ∧ (eqD kd y z = true → y = z ∧ Instr.sameBits 10000 v u = true)) (hy : VRel G.Φ w kd (y e) vk) {z : AV E} :
    ∀ (ks : List CK) (vs : List (AV E)) (ens : List MapEntry) (i : Nat) (F : E → Option R), lookK s dst K kd y z ks vs = some F → F e = some r → ens.map (·.key) = ks.map CK.val → AV.Rels G w e vs (ens.map (·.val)) →
      (∃ f, Instr.findNow d vk ens i = some none ∧ K E (s.put dst (.tup [z, .cb false])) = some f ∧ f e = some r) ∨
      (∃ j v en f, Instr.findNow d vk ens i = some (some (j, en)) ∧ v.Rel G w e en ∧ K E (s.put dst (.tup [v, .cb true])) = some f ∧ f e = some r)
  | [], vs, ens, i, F, h, hF, hk, hv => by
    cases vs with
    | nil =>
      rw [List.map_eq_nil_iff.1 hk]
      exact .inl ⟨F, rfl, h, hF⟩
    | cons v vs => simp [lookK] at h
  | k :: ks, vs, ens, i, F, h, hF, hk, hv => by
    cases vs with
    | nil => simp [lookK] at h
    | cons v vs =>
      cases ens with
      | nil => simp at hk
      | cons en ens =>
        simp only [List.map_cons, List.cons.injEq] at hk
        obtain ⟨u', r', he, h1, h2⟩ := hv
        simp only [List.map_cons, List.cons.injEq] at he
        obtain ⟨rfl, rfl⟩ := he
        simp only [lookK, Option.bind_eq_some_iff] at h
        obtain ⟨u, hu, h⟩ := h
        obtain ⟨f1, f2, hk1, hk2, rfl⟩ := splitB_spec h
        obtain ⟨s1, s2⟩ := hn (y e) u vk en.key hy (by rw [hk.1]; exact CK.to_val hu)
        cases hq : eqD kd (y e) u with
        | true =>
          right
          rw [hq] at s1
          refine ⟨i, v, en.val, f1, by simp only [Instr.findNow, s1], h1, hk1, ?_⟩
          rw [← hF]; simp only [hq, ifO]; rfl
        | false =>
          rw [hq] at s1
          have hF2 : f2 e = some r := by rw [← hF]; simp only [hq, ifO]; rfl
          rcases lookK_spec hn hy ks vs ens (i + 1) f2 hk2 hF2 hk.2 h2 with ⟨f, a1, a2, a3⟩ | ⟨j, v', en', f, a1, a2, a3, a4⟩
          · exact .inl ⟨f, by simp only [Instr.findNow, s1]; exact a1, a2, a3⟩
          · exact .inr ⟨j, v', en', f, by simp only [Instr.findNow, s1]; exact a1, a2, a3, a4⟩
theorem lookCase_sound {o : Oper} {kd : Ty} {y : E → kd.den} {ks : List CK} {vs : List (AV E)} {z : AV E} {F : E → Option R} (hc : lookCase P s o.op = some ⟨kd, y, ks, vs, z⟩) (h : lookK s o.dst K kd y z ks vs = some F) (hF : F e = some r) (ht : EnvRel G w e s.tmps a.tmps) (hb : BlksRel G w e s.blocks) :
    ∃ v av f, (execOp a.eval o).run P w = .ok (.value v) w ∧ av.Rel G w e v ∧ K E (s.put o.dst av) = some f ∧ f e = some r := by
  have ev := ev_rel ht
  obtain ⟨dst, op, type, pos, after, guard⟩ := o
  simp only at hc h ⊢
  unfold lookCase at hc
  split at hc
  · rename_i t m k
    split at hc
    · rename_i kt et b hu hm
      have hmr := ev m
      rw [hm] at hmr
      obtain ⟨_, hmv⟩ := hmr
      split at hc
      · rename_i mt ks' vs' hbk
        simp only [Option.bind_eq_some_iff, Option.map_eq_some_iff] at hc
        obtain ⟨kd', hkd, y', hy, z', hz, hc⟩ := hc
        simp only [Sigma.mk.injEq] at hc
        obtain ⟨rfl, hc⟩ := hc
        simp only [heq_eq_eq, Prod.mk.injEq] at hc
        obtain ⟨rfl, rfl, rfl, rfl⟩ := hc
        obtain ⟨us, ⟨ens, clk, hmm, hks, rfl⟩, hus, _⟩ := hb b _ hbk
        obtain ⟨zv, hzr, hzrun⟩ := zeroAV_run (G := G) (w := w) (e := e) hz
        obtain ⟨dd, hdd, hnow, hck⟩ := key_now (P := P) (w := w) (Φ := G.Φ) hkd
        have hyr := to_vrel hy (ev k)
        rcases lookK_spec hnow hyr ks' vs' ens.toList 0 F h hF hks hus with ⟨f, a1, a2, a3⟩ | ⟨j, v, en, f, a1, a2, a3, a4⟩
        · refine ⟨.tuple #[zv, .bool false], .tup [z', .cb false], f, ?_, ⟨_, rfl, zv, _, rfl, hzr, _, _, rfl, rfl, rfl⟩, a2, a3⟩
          simp [execOp, hmv, Instr.lookup, run_underlying hu, MapKept.run_getObj_map hmm, hck _ _ _ hyr w, MapKept.run_findKey hdd a1, hzrun w]
        · refine ⟨.tuple #[en, .bool true], .tup [v, .cb true], f, ?_, ⟨_, rfl, en, _, rfl, a2, _, _, rfl, rfl, rfl⟩, a3, a4⟩
          simp [execOp, hmv, Instr.lookup, run_underlying hu, MapKept.run_getObj_map hmm, hck _ _ _ hyr w, MapKept.run_findKey hdd a1]
      · cases hc
    · cases hc
  · cases hc
theorem ckOf_val {o : Operand} {c : CK} (h : ckOf o = some c) (a : Act) : a.eval o = c.val := by
  unfold ckOf at h
  split at h <;> first | (cases h; rfl) | cases h
end
end Go.Proofs.YtkjjegjafpefcaaDoor.R
