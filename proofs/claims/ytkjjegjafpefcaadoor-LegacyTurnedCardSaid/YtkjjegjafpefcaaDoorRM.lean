/- Maps: what is found in them, and put into them. -/
import Derived.Test.YtkjjegjafpefcaaDoorR8
import Derived.MapKept
import Derived.Laws.Strings
namespace Go.Proofs.YtkjjegjafpefcaaDoor.R
open Go Go.RowKit
set_option linter.unusedVariables false
set_option linter.unusedSimpArgs false
variable {E : Type} {G : Gh} {w : World} {e : E} {P : Program} {n : Nat → Prop}
/-- What a map's block holds. -/
def MapIs (Φ : Fz) (w : World) (kd vd : Ty) : List (kd.den × vd.den) → List MapEntry → Prop
  | [], ens => ens = []
  | p :: r, ens => ∃ en rest, ens = en :: rest ∧ VRel Φ w kd p.1 en.key ∧ VRel Φ w vd p.2 en.val ∧ MapIs Φ w kd vd r rest
theorem MapIs.of_ents {Φ : Fz} {kd vd : Ty} : ∀ {l : List (kd.den × vd.den)} {ens : List MapEntry}, EntsRel Φ w kd vd l (ens.map fun en => .agg #[en.key, en.val]) → MapIs Φ w kd vd l ens
  | [], ens, h => by
    have h' : ens.map (fun en => Value.agg #[en.key, en.val]) = [] := h
    exact List.map_eq_nil_iff.1 h'
  | p :: r, ens, h => by
    obtain ⟨k, v, rest, h0, h1, h2, h3⟩ := h
    cases ens with
    | nil => simp at h0
    | cons en ens =>
      simp only [List.map_cons, List.cons.injEq, Value.agg.injEq] at h0
      obtain ⟨h4, rfl⟩ := h0
      have h5 := congrArg Array.toList h4
      simp only [List.cons.injEq, and_true] at h5
      obtain ⟨rfl, rfl⟩ := h5
      exact ⟨en, ens, rfl, h1, h2, MapIs.of_ents h3⟩
theorem MapIs.ents {Φ : Fz} {kd vd : Ty} : ∀ {l : List (kd.den × vd.den)} {ens : List MapEntry}, MapIs Φ w kd vd l ens → EntsRel Φ w kd vd l (ens.map fun en => .agg #[en.key, en.val])
  | [], ens, h => by rw [show ens = [] from h]; exact rfl
  | p :: r, ens, h => by
    obtain ⟨en, rest, rfl, h1, h2, h3⟩ := h
    exact ⟨_, _, _, rfl, h1, h2, h3.ents⟩
theorem CK.to_val {kd : Ty} {c : CK} {y : kd.den} (h : c.to kd = some y) {Φ : Fz} : VRel Φ w kd y c.val := by
  cases c <;> (simp only [CK.to] at h; split at h <;> first | cases h | skip) <;> (rename_i hk; subst hk; exact rfl)
theorem MapIs.of_keys {kd vd : Ty} : ∀ {ks : List CK} {vs : List (AV E)} {x : E → List (kd.den × vd.den)} {ens : List MapEntry}, entsOf kd vd ks vs = some x → ens.map (·.key) = ks.map CK.val → AV.Rels G w e vs (ens.map (·.val)) → MapIs G.Φ w kd vd (x e) ens
  | [], vs, x, ens, h, hk, hv => by
    cases vs with
    | nil =>
      simp only [entsOf, Option.some.injEq] at h
      subst h
      exact List.map_eq_nil_iff.1 hk
    | cons v vs => simp [entsOf] at h
  | k :: ks, vs, x, ens, h, hk, hv => by
    cases vs with
    | nil => simp [entsOf] at h
    | cons v vs =>
      simp only [entsOf, Option.bind_eq_some_iff] at h
      obtain ⟨y, hy, u, hu, r, hr, h⟩ := h
      obtain rfl := Option.some.inj h
      cases ens with
      | nil => simp at hk
      | cons en ens =>
        simp only [List.map_cons, List.cons.injEq] at hk
        obtain ⟨u', r', he, h1, h2⟩ := hv
        simp only [List.map_cons, List.cons.injEq] at he
        obtain ⟨rfl, rfl⟩ := he
        exact ⟨en, ens, rfl, by rw [hk.1]; exact CK.to_val hy, AV.to_rel (x := u) hu h1, MapIs.of_keys hr hk.2 h2⟩
/-- Simple kinds of keys. -/
theorem beq_bytes (a b : ByteArray) : (a == b) = (a.toList == b.toList) := by
  have h : (a == b) = (a.data == b.data) := by cases a; cases b; rfl
  rw [h, ByteArray.toList_eq, ByteArray.toList_eq]
  rw [Bool.eq_iff_iff, beq_iff_eq, beq_iff_eq]
  exact ⟨fun h => by rw [h], fun h => Array.ext' h⟩
theorem sb_int (n : Nat) (k : IntKind) (a : Int) : Instr.sameBits n (.int k a) (.int k a) = true := by cases n <;> simp [Instr.sameBits]
theorem sb_bool (n : Nat) (a : Bool) : Instr.sameBits n (.bool a) (.bool a) = true := by cases n <;> simp [Instr.sameBits]
theorem bytes_ext (a b : ByteArray) (h : (a == b) = true) : a = b := by
  rw [beq_bytes, beq_iff_eq, ByteArray.toList_eq, ByteArray.toList_eq] at h
  cases a; cases b
  congr 1
  exact Array.ext' h
theorem sb_str (n : Nat) (a : ByteArray) : Instr.sameBits n (.string a) (.string a) = true := by
  have : (a == a) = true := by rw [beq_bytes]; simp
  cases n <;> simp [Instr.sameBits, this]
theorem key_now {Φ : Fz} {kt : TypeId} {kd : Ty} (h : keyTy P kt = some kd) : ∃ d, P.underlying kt = some d ∧ (∀ (y z : kd.den) (u v : Value), VRel Φ w kd y u → VRel Φ w kd z v → Instr.sameNow d u v = some (eqD kd y z) ∧ (eqD kd y z = true → y = z ∧ Instr.sameBits 10000 v u = true)) ∧
    (∀ (y : kd.den) (u : Value) (b : Bool), VRel Φ w kd y u → ∀ w', (Instr.checkKey b 10000 kt u).run P w' = .ok () w') := by
  unfold keyTy at h
  split at h <;> first | cases h | skip
  · rename_i k hk
    refine ⟨_, hk, ?_, ?_⟩
    · intro y z u v hu hv
      obtain rfl : u = _ := (List.cons.inj (show [u] = [Value.int k y] from hu)).1
      obtain rfl : v = _ := (List.cons.inj (show [v] = [Value.int k z] from hv)).1
      refine ⟨by simp [Instr.sameNow, eqD, eqI], fun he => ?_⟩
      have hyz : y = z := by simpa [eqD, eqI] using he
      subst hyz
      exact ⟨rfl, sb_int _ _ _⟩
    · intro y u b hu w'
      obtain rfl : u = _ := (List.cons.inj (show [u] = [Value.int k y] from hu)).1
      exact MapKept.run_checkKey hk (by simp [MapKept.IsKey]) b 9999
  · rename_i hk
    refine ⟨_, hk, ?_, ?_⟩
    · intro y z u v hu hv
      obtain rfl : u = _ := (List.cons.inj (show [u] = [Value.bool y] from hu)).1
      obtain rfl : v = _ := (List.cons.inj (show [v] = [Value.bool z] from hv)).1
      refine ⟨by simp [Instr.sameNow, eqD, eqB], fun he => ?_⟩
      have hyz : y = z := by simpa [eqD, eqB] using he
      subst hyz
      exact ⟨rfl, sb_bool _ _⟩
    · intro y u b hu w'
      obtain rfl : u = _ := (List.cons.inj (show [u] = [Value.bool y] from hu)).1
      exact MapKept.run_checkKey hk (by simp [MapKept.IsKey]) b 9999
  · rename_i hk
    refine ⟨_, hk, ?_, ?_⟩
    · intro y z u v hu hv
      obtain rfl : u = _ := (List.cons.inj (show [u] = [Value.string y] from hu)).1
      obtain rfl : v = _ := (List.cons.inj (show [v] = [Value.string z] from hv)).1
      refine ⟨by simp [Instr.sameNow, eqD, eqS, beq_bytes], fun he => ?_⟩
      have hyz : y = z := bytes_ext y z (by rw [beq_bytes]; simpa [eqD, eqS] using he)
      subst hyz
      exact ⟨rfl, sb_str _ _⟩
    · intro y u b hu w'
      obtain rfl : u = _ := (List.cons.inj (show [u] = [Value.string y] from hu)).1
      exact MapKept.run_checkKey hk (by simp [MapKept.IsKey]) b 9999
/-- The entry of a key. -/
theorem find_run {Φ : Fz} {kd vd : Ty} {d : TypeDesc} (hn : ∀ (y z : kd.den) (u v : Value), VRel Φ w kd y u → VRel Φ w kd z v → Instr.sameNow d u v = some (eqD kd y z) ∧ (eqD kd y z = true → y = z ∧ Instr.sameBits 10000 v u = true)) {y : kd.den} {vk : Value} (hy : VRel Φ w kd y vk) (z : vd.den) :
    ∀ (l : List (kd.den × vd.den)) (ens : List MapEntry) (i : Nat), MapIs Φ w kd vd l ens →
      (Instr.findNow d vk ens i = some none ∧ hasM kd vd l y = false ∧ getM kd vd z l y = z ∧ ∀ u, putM kd vd l y u = l ++ [(y, u)]) ∨
      (∃ j en, Instr.findNow d vk ens i = some (some (i + j, en.val)) ∧ ens[j]? = some en ∧ hasM kd vd l y = true ∧ VRel Φ w vd (getM kd vd z l y) en.val ∧ Instr.sameBits 10000 en.key vk = true ∧
        ∀ (u : vd.den) (vu : Value), VRel Φ w vd u vu → MapIs Φ w kd vd (putM kd vd l y u) (ens.modify j fun e => { e with key := vk, val := vu }))
  | [], ens, i, h => by
    rw [show ens = [] from h]
    exact .inl ⟨rfl, rfl, rfl, fun u => rfl⟩
  | p :: r, ens, i, h => by
    obtain ⟨en, rest, rfl, h1, h2, h3⟩ := h
    obtain ⟨s1, s2⟩ := hn y p.1 vk en.key hy h1
    cases he : eqD kd y p.1 with
    | true =>
      right
      rw [he] at s1
      obtain ⟨hyp, hb⟩ := s2 he
      refine ⟨0, en, by simp only [Instr.findNow, s1]; rfl, rfl, by simp [hasM, he], by simp only [getM, he, if_true]; exact h2, hb, fun u vu hu => ?_⟩
      simp only [putM, he, if_true]
      exact ⟨_, _, rfl, hy, hu, h3⟩
    | false =>
      rw [he] at s1
      rcases find_run hn hy z r rest (i + 1) h3 with ⟨a1, a2, a3, a4⟩ | ⟨j, en', a1, a2, a3, a4, a5, a6⟩
      · left
        refine ⟨by simp only [Instr.findNow, s1]; exact a1, by simp only [hasM, List.any_cons, he, Bool.false_or]; exact a2, by simp only [getM, he]; exact a3, fun u => ?_⟩
        simp only [putM, he, List.cons_append, Bool.false_eq_true, if_false]
        rw [a4 u]
      · right
        refine ⟨j + 1, en', ?_, by simpa using a2, by simp only [hasM, List.any_cons, he, Bool.false_or]; exact a3, by simp only [getM, he]; exact a4, a5, fun u vu hu => ?_⟩
        · simp only [Instr.findNow, s1]
          rw [a1, show i + 1 + j = i + (j + 1) by omega]
        · simp only [putM, he, Bool.false_eq_true, if_false]
          exact ⟨en, _, by rw [List.modify_succ_cons], h1, h2, a6 u vu hu⟩
theorem MapIs.push {Φ : Fz} {kd vd : Ty} {y : kd.den} {u : vd.den} {en : MapEntry} (hy : VRel Φ w kd y en.key) (hu : VRel Φ w vd u en.val) : ∀ {l : List (kd.den × vd.den)} {ens : List MapEntry}, MapIs Φ w kd vd l ens → MapIs Φ w kd vd (l ++ [(y, u)]) (ens ++ [en])
  | [], ens, h => by rw [show ens = [] from h]; exact ⟨en, [], rfl, hy, hu, rfl⟩
  | p :: r, ens, h => by
    obtain ⟨en', rest, rfl, h1, h2, h3⟩ := h
    exact ⟨en', _, rfl, h1, h2, h3.push hy hu⟩
theorem zeroAV_run {t : TypeId} {a : AV E} (h : zeroAV P t = some a) : ∃ v, a.Rel G w e v ∧ ∀ w', (zeroValue t).run P w' = .ok v w' := by
  unfold zeroAV at h
  rw [Option.map_eq_some_iff] at h
  obtain ⟨v, hv, rfl⟩ := h
  rw [Option.bind_eq_some_iff] at hv
  obtain ⟨i, hi, hiz⟩ := hv
  exact ⟨v, const_rel v, fun w' => by simp [zeroValue, typeInfo, hi, hiz]⟩
theorem ents_rel {s : St E} {b : Nat} {kd : Ty} {et : TypeId} {v : EV E kd} (h : entsAt P s b kd et = some v) (hb : BlksRel G w e s.blocks) : ∃ ens clk, w.heap[G.ρ b]? = some (.map ens clk) ∧ MapIs G.Φ w kd v.vd (v.x e) ens.toList ∧ Live s.blocks b := by
  unfold entsAt at h
  split at h
  · rename_i kd' vd x hbk
    split at h
    · rename_i hk
      subst hk
      obtain rfl := Option.some.inj h
      obtain ⟨us, ⟨ens, clk, hm, rfl⟩, hus, _⟩ := hb b _ hbk
      obtain ⟨u, r, hu, ⟨us', hv, h1⟩, _⟩ := hus
      obtain ⟨rfl, _⟩ := List.cons.inj hu
      simp only [Value.agg.injEq] at hv
      rw [← hv, Array.toList_map] at h1
      exact ⟨ens, clk, hm, MapIs.of_ents h1, _, _, hbk⟩
    · cases h
  · rename_i mt ks vs hbk
    simp only [Option.bind_eq_some_iff, Option.map_eq_some_iff] at h
    obtain ⟨vd, hvd, x, hx, rfl⟩ := h
    obtain ⟨us, ⟨ens, clk, hm, hks, rfl⟩, hus, _⟩ := hb b _ hbk
    exact ⟨ens, clk, hm, MapIs.of_keys hx hks hus, _, _, hbk⟩
  · cases h
theorem to_vrel {u : Ty} {a : AV E} {x : E → u.den} {v : Value} (h : a.to u = some x) (hr : a.Rel G w e v) : VRel G.Φ w u (x e) v := AV.to_rel h hr
theorem look_run {s : St E} {t : TypeId} {a k : AV E} {two : Bool} {c : Option (E → Bool)} {av : AV E} {va vk : Value} (h : lookOut P s t a k two = some (c, av)) (ha : a.Rel G w e va) (hk : k.Rel G w e vk) (hb : BlksRel G w e s.blocks) (hX : ∀ b, Live s.blocks b → n b) :
    ∃ r, av.Rel G w e r ∧ ∀ w', Same G n w w' → (Instr.lookup t va vk two).run P w' = .ok r w' := by
  unfold lookOut at h
  split at h
  · rename_i kt et b hu
    simp only [Option.bind_eq_some_iff] at h
    obtain ⟨kd, hkd, v, hv, y, hy, z, hz, d, hd, h⟩ := h
    simp only [ok, Option.some.injEq, Prod.mk.injEq] at h
    obtain ⟨_, rfl⟩ := h
    obtain ⟨_, rfl⟩ := ha
    obtain ⟨ens, clk, hm, hmi, hl⟩ := ents_rel hv hb
    obtain ⟨zv, hzr, hzrun⟩ := zeroAV_run (G := G) (w := w) (e := e) hz
    obtain ⟨dd, hdd, hnow, hck⟩ := key_now (P := P) (w := w) (Φ := G.Φ) hkd
    have hyr := to_vrel hy hk
    have hzd := to_vrel hd hzr
    have hm' : ∀ w', Same G n w w' → w'.heap[G.ρ b]? = some (.map ens clk) := fun w' hs => (hs.blk b (hX b hl)).trans hm
    rcases find_run hnow hyr (d e) (v.x e) ens.toList 0 hmi with ⟨a1, a2, a3, _⟩ | ⟨j, en, a1, _, a3, a4, _, _⟩
    · have hr : (AV.of v.vd fun e => getM kd v.vd (d e) (v.x e) (y e)).Rel G w e zv := AV.of_rel (x := fun e => getM kd v.vd (d e) (v.x e) (y e)) (by rw [a3]; exact hzd)
      cases two with
      | false => exact ⟨zv, hr, fun w' hs => by simp [Instr.lookup, run_underlying hu, MapKept.run_getObj_map (hm' w' hs), hck _ _ _ hyr w', MapKept.run_findKey hdd a1, hzrun w']⟩
      | true => exact ⟨.tuple #[zv, .bool false], ⟨_, rfl, zv, _, rfl, hr, _, _, rfl, (by show [Value.bool false] = [Value.bool (hasM kd v.vd (v.x e) (y e))]; rw [a2]), rfl⟩, fun w' hs => by simp [Instr.lookup, run_underlying hu, MapKept.run_getObj_map (hm' w' hs), hck _ _ _ hyr w', MapKept.run_findKey hdd a1, hzrun w']⟩
    · have hr : (AV.of v.vd fun e => getM kd v.vd (d e) (v.x e) (y e)).Rel G w e en.val := AV.of_rel (x := fun e => getM kd v.vd (d e) (v.x e) (y e)) a4
      cases two with
      | false => exact ⟨en.val, hr, fun w' hs => by simp [Instr.lookup, run_underlying hu, MapKept.run_getObj_map (hm' w' hs), hck _ _ _ hyr w', MapKept.run_findKey hdd a1]⟩
      | true => exact ⟨.tuple #[en.val, .bool true], ⟨_, rfl, en.val, _, rfl, hr, _, _, rfl, (by show [Value.bool true] = [Value.bool (hasM kd v.vd (v.x e) (y e))]; rw [a3]), rfl⟩, fun w' hs => by simp [Instr.lookup, run_underlying hu, MapKept.run_getObj_map (hm' w' hs), hck _ _ _ hyr w', MapKept.run_findKey hdd a1]⟩
  · cases h
end Go.Proofs.YtkjjegjafpefcaaDoor.R
