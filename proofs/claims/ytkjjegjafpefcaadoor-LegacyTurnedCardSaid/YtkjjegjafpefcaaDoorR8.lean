/- The operations that leave the world alone, all of them together. -/
import Derived.Test.YtkjjegjafpefcaaDoorR7
import Derived.Laws.Tables
namespace Go.Proofs.YtkjjegjafpefcaaDoor.R
open Go Go.RowKit
set_option linter.unusedVariables false
set_option linter.unusedSimpArgs false
variable {E : Type} {G : Gh} {w : World} {e : E} {P : Program} {n : Nat → Prop}
theorem run_equalIn_nilsl (d : Nat) {t el : TypeId} (h : P.underlying t = some (.slice el)) (A : Option Addr) (n c : Nat) (w' : World) : (Op.equalIn (d + 1) t (.slice A n c) (.slice none 0 0)).run P w' = .ok A.isNone w' := by
  cases A <;> simp [Op.equalIn, run_underlying h]
theorem bin_run {op : BinOp} {t : TypeId} {x y : Operand} {a b : AV E} {c : Option (E → Bool)} {av : AV E} {u v : Value} (h : binOut P op t a b = some (c, av)) (hc : ∀ f, c = some f → f e = true) (ha : a.Rel G w e u) (hb : b.Rel G w e v) :
    ∃ r, av.Rel G w e r ∧ ∀ w', (binRun op t x y u v).run P w' = .ok (.value r) w' := by
  unfold binOut at h
  split at h
  · -- whole numbers
    rename_i k p k' q
    obtain rfl : u = _ := (List.cons.inj ha).1
    obtain rfl : v = _ := (List.cons.inj hb).1
    split at h
    · obtain ⟨r, hr, hw⟩ := shift_run (G := G) (w := w) (k' := k') (t := t) h hc
      exact ⟨r, hr, fun w' => binRun_of eqGuard_int (hw w')⟩
    · obtain ⟨r, hr, hw⟩ := shift_run (G := G) (w := w) (k' := k') (t := t) h hc
      exact ⟨r, hr, fun w' => binRun_of eqGuard_int (hw w')⟩
    · rename_i h1 h2
      split at h
      · rename_i hk
        subst hk
        obtain ⟨r, hr, hw⟩ := binInt_run (G := G) (w := w) (t := t) h hc ⟨fun he => h1 he, fun he => h2 he⟩
        exact ⟨r, hr, fun w' => binRun_of eqGuard_int (hw w')⟩
      · cases h
  · rename_i p q
    obtain rfl : u = _ := (List.cons.inj ha).1
    obtain rfl : v = _ := (List.cons.inj hb).1
    obtain ⟨r, hr, hw⟩ := binStr_run (G := G) (w := w) (t := t) h hc
    exact ⟨r, hr, fun w' => binRun_of eqGuard_str (hw w')⟩
  · rename_i xs ys
    split at h
    · cases h
    · rename_i hg
      simp only [Option.bind_eq_some_iff] at h
      obtain ⟨ty, ht, p, hp, q, hq, h⟩ := h
      obtain ⟨us, rfl, h1⟩ := id ha
      obtain ⟨vs, rfl, h2⟩ := id hb
      have hx := AV.to_rel hp ha
      have hy := AV.to_rel hq hb
      have he := plainT_eq 8 t ty ht 10000 (by omega) G.Φ _ _ _ _ hx hy
      have hge : ∀ w', (eqGuard op t x y (.agg us) (.agg vs)).run P w' = .ok () w' := fun w' => run_eqGuard_agg w' op t x y us vs (by simpa using hg)
      split at h
      · simp only [ok, Option.some.injEq, Prod.mk.injEq] at h
        obtain ⟨_, rfl⟩ := h
        exact ⟨_, rfl, fun w' => binRun_of (hge w') (by rw [run_eql_struct, he]; rfl)⟩
      · simp only [ok, Option.some.injEq, Prod.mk.injEq] at h
        obtain ⟨_, rfl⟩ := h
        exact ⟨_, rfl, fun w' => binRun_of (hge w') (by rw [run_neq_struct, he]; rfl)⟩
      · cases h
  · split at h
    · rename_i hbt
      simp only [Option.bind_eq_some_iff] at h
      obtain ⟨p, hp, q, hq, h⟩ := h
      obtain rfl : u = _ := (List.cons.inj (AV.to1_rel hp ha)).1
      obtain rfl : v = _ := (List.cons.inj (AV.to1_rel hq hb)).1
      have he : ∀ w', (Op.equal t (.bool (p e)) (.bool (q e))).run P w' = .ok (p e == q e) w' := fun w' => run_equalIn_bool w' 9999 t (p e) (q e) hbt
      split at h
      · simp only [ok, Option.some.injEq, Prod.mk.injEq] at h
        obtain ⟨_, rfl⟩ := h
        exact ⟨_, rfl, fun w' => binRun_of eqGuard_bool (by simp only [Go.binOp, Sem.run_bind, he, Result.andThen_ok, Sem.run_pure]; rfl)⟩
      · simp only [ok, Option.some.injEq, Prod.mk.injEq] at h
        obtain ⟨_, rfl⟩ := h
        exact ⟨_, rfl, fun w' => binRun_of eqGuard_bool (by simp only [Go.binOp, Sem.run_bind, he, Result.andThen_ok, Sem.run_pure]; rfl)⟩
      · cases h
    · rename_i el hsl
      have hq : ∀ (A : Option Addr) (n d : Nat) w', (Op.equal t (.slice A n d) (.slice none 0 0)).run P w' = .ok A.isNone w' := fun A n d w' => run_equalIn_nilsl 9999 hsl A n d w'
      split at h
      · rename_i xs _ _ _
        obtain ⟨_, hz, bo, _, ho⟩ := ha
        obtain rfl : v = _ := hb
        obtain ⟨hbo, us, hrow, _, _⟩ := ho
        obtain ⟨A, d, rfl, _, _, _⟩ := own_max hrow
        have hA : A.isNone = eqI (lenL (xs e)) 0 := by
          by_cases h0 : (xs e).length = 0
          · have h1 := hz rfl (List.eq_nil_of_length_eq_zero h0)
            simp only [Value.slice.injEq] at h1
            rw [h1.1]
            simp [eqI, lenL, h0]
          · cases A with
            | none => exact absurd (own_none hrow rfl) h0
            | some ad => simp [eqI, lenL, h0]
        split at h
        · simp only [ok, Option.some.injEq, Prod.mk.injEq] at h
          obtain ⟨_, rfl⟩ := h
          exact ⟨.bool (eqI (lenL (xs e)) 0), rfl, fun w' => binRun_of eqGuard_slice (by simp only [Go.binOp, Sem.run_bind, hq, Result.andThen_ok, Sem.run_pure, hA])⟩
        · simp only [ok, Option.some.injEq, Prod.mk.injEq] at h
          obtain ⟨_, rfl⟩ := h
          exact ⟨.bool (neI (lenL (xs e)) 0), rfl, fun w' => binRun_of eqGuard_slice (by simp only [Go.binOp, Sem.run_bind, hq, Result.andThen_ok, Sem.run_pure, hA]; rfl)⟩
        · cases h
      · obtain rfl : u = _ := ha
        obtain rfl : v = _ := hb
        split at h
        · simp only [ok, Option.some.injEq, Prod.mk.injEq] at h
          obtain ⟨_, rfl⟩ := h
          exact ⟨.bool true, rfl, fun w' => binRun_of eqGuard_slice (by simp only [Go.binOp, Sem.run_bind, hq, Result.andThen_ok, Sem.run_pure]; rfl)⟩
        · simp only [ok, Option.some.injEq, Prod.mk.injEq] at h
          obtain ⟨_, rfl⟩ := h
          exact ⟨.bool false, rfl, fun w' => binRun_of eqGuard_slice (by simp only [Go.binOp, Sem.run_bind, hq, Result.andThen_ok, Sem.run_pure]; rfl)⟩
        · cases h
      · cases h
    · cases h
theorem pick_run {c a b : AV E} {cc : Option (E → Bool)} {av : AV E} {vc va vb : Value} (h : pickOut c a b = some (cc, av)) (hc : c.Rel G w e vc) (ha : a.Rel G w e va) (hb : b.Rel G w e vb) :
    ∃ bl r, vc = .bool bl ∧ (if bl then va else vb) = r ∧ av.Rel G w e r := by
  unfold pickOut at h
  split at h
  · simp only [ok, Option.some.injEq, Prod.mk.injEq] at h
    obtain ⟨_, rfl⟩ := h
    exact ⟨true, _, hc, rfl, ha⟩
  · simp only [ok, Option.some.injEq, Prod.mk.injEq] at h
    obtain ⟨_, rfl⟩ := h
    exact ⟨false, _, hc, rfl, hb⟩
  · rename_i x
    obtain rfl : vc = _ := (List.cons.inj hc).1
    split at h
    · rename_i t y
      rw [Option.map_eq_some_iff] at h
      obtain ⟨z, hz, h⟩ := h
      simp only [Prod.mk.injEq] at h
      obtain ⟨_, rfl⟩ := h
      refine ⟨x e, _, rfl, rfl, ?_⟩
      have h2 := AV.to1_rel hz hb
      show CRel G.Φ w t (iteV t (x e) (y e) (z e)) _
      unfold iteV
      cases x e
      · exact h2
      · exact ha
    · rename_i y
      rw [Option.map_eq_some_iff] at h
      obtain ⟨z, hz, h⟩ := h
      simp only [Prod.mk.injEq] at h
      obtain ⟨_, rfl⟩ := h
      refine ⟨x e, _, rfl, rfl, ?_⟩
      have h2 := AV.to1_rel hz hb
      show CRel G.Φ w .bool (iteV .bool (x e) y (z e)) _
      unfold iteV
      cases x e
      · exact h2
      · rw [show va = _ from ha]; rfl
    · cases h
  · cases h
theorem pickAt_rel {t : Ty} : ∀ {cs : List (AV E)} {xs : E → List t.den} {us : List Value}, pickAt t cs = some xs → AV.Rels G w e cs us → (xs e).length = us.length ∧ ∀ (j : Nat) (x : t.den), (xs e)[j]? = some x → ∃ u, us[j]? = some u ∧ CRel G.Φ w t x [u]
  | [], xs, us, h, hr => by
    simp only [pickAt, Option.some.injEq] at h
    subst h
    rw [show us = [] from hr]
    exact ⟨rfl, fun j x hj => by simp at hj⟩
  | c :: cs, xs, us, h, hr => by
    simp only [pickAt, Option.bind_eq_some_iff] at h
    obtain ⟨y, hy, z, hz, h⟩ := h
    obtain rfl := Option.some.inj h
    obtain ⟨u, r, rfl, h1, h2⟩ := hr
    obtain ⟨hl, hcells⟩ := pickAt_rel hz h2
    refine ⟨by simp [hl], fun j x hj => ?_⟩
    cases j with
    | zero =>
      simp only [List.getElem?_cons_zero, Option.some.injEq] at hj
      subst hj
      exact ⟨u, rfl, AV.to1_rel hy h1⟩
    | succ j => exact hcells j x (by simpa using hj)
theorem index_run {t : TypeId} {a i : AV E} {c : Option (E → Bool)} {av : AV E} {v u : Value} (h : indexOut P t a i = some (c, av)) (hc : ∀ f, c = some f → f e = true) (hr : a.Rel G w e v) (hi : i.Rel G w e u) :
    ∃ r, av.Rel G w e r ∧ ∀ w', (Instr.index t v u).run P w' = .ok r w' := by
  unfold indexOut at h
  split at h
  · rename_i x j hj
    split at h
    · rename_i hs
      simp only [okIf, Option.some.injEq, Prod.mk.injEq] at h
      obtain ⟨rfl, rfl⟩ := h
      obtain rfl : v = _ := (List.cons.inj hr).1
      obtain ⟨k, rfl⟩ := int_rel hj hi
      exact ⟨_, rfl, fun w' => index_str (isStrT_spec hs) (hc _ rfl) w'⟩
    · cases h
  · rename_i cs j hj
    split at h
    · rename_i m el hu
      split at h
      · rename_i hck
        simp only [Bool.and_eq_true, decide_eq_true_eq, Bool.not_eq_true'] at hck
        obtain ⟨⟨⟨hm, hsz⟩, hag⟩, hus⟩ := hck
        simp only [Option.bind_eq_some_iff] at h
        obtain ⟨ty, hty, xs, hxs, h⟩ := h
        simp only [okIf, Option.some.injEq, Prod.mk.injEq] at h
        obtain ⟨rfl, rfl⟩ := h
        have hb := hc _ rfl
        rw [inB_iff] at hb
        obtain ⟨us, rfl, hrs⟩ := hr
        obtain ⟨k, rfl⟩ := int_rel hj hi
        obtain ⟨hl, hcell⟩ := pickAt_rel hxs hrs
        have hlen := hrs.length
        have hlt : (j e).toNat < (xs e).length := by omega
        obtain ⟨u, hu1, hu2⟩ := hcell _ _ (List.getElem?_eq_getElem hlt)
        have hul : (P.underlying el).isNone = false := by cases hh : P.underlying el with
          | none => rw [hh] at hus; cases hus
          | some _ => rfl
        refine ⟨u, ?_, fun w' => ?_⟩
        · show CRel G.Φ w ty (elT ty (xs e) (j e)) [u]
          have : elT ty (xs e) (j e) = (xs e)[(j e).toNat] := by unfold elT; rw [List.getD_eq_getElem?_getD, List.getElem?_eq_getElem hlt]; rfl
          rw [this]; exact hu2
        · have hu3 : us[(j e).toNat]? = some u := by rw [← Array.getElem?_toList]; exact hu1
          have hsr := sizeT_run hul w'
          rw [hsz] at hsr
          simp [Instr.index, asIntOf, run_underlying hu, hb.1, hb.2, hsr, part, isAgg_run hul, hag, hu3]
      · cases h
    · cases h
  · cases h
theorem foldInt_run {f : Int → Int → Int} {g : Value → Value → Sem Value} (hg : ∀ k x k' y (w' : World), (g (.int k x) (.int k' y)).run P w' = .ok (.int k (f x y)) w') {k : IntKind} :
    ∀ {cs : List (AV E)} {x y : E → Int} {us : List Value}, foldInt f k x cs = some y → AV.Rels G w e cs us → ∀ w', (us.foldlM g (.int k (x e))).run P w' = .ok (.int k (y e)) w'
  | [], x, y, us, h, hr, w' => by
    simp only [foldInt, Option.some.injEq] at h
    subst h
    rw [show us = [] from hr]
    simp
  | c :: cs, x, y, us, h, hr, w' => by
    unfold foldInt at h
    split at h
    · rename_i heq; cases heq
    · rename_i k' z r heq
      cases heq
      split at h
      · obtain ⟨u, r, rfl, h1, h2⟩ := hr
        obtain rfl : u = _ := (List.cons.inj h1).1
        rw [List.foldlM_cons, Sem.run_bind, hg, Result.andThen_ok]
        exact foldInt_run hg h h2 w'
      · cases h
    · cases h
theorem minMax_run {f : Int → Int → Int} {g : Value → Value → Sem Value} (hg : ∀ k x k' y (w' : World), (g (.int k x) (.int k' y)).run P w' = .ok (.int k (f x y)) w') {cs : List (AV E)} {c : Option (E → Bool)} {av : AV E} {us : List Value} (h : minMax f cs = some (c, av)) (hr : AV.Rels G w e cs us) :
    ∃ r x rest, us = x :: rest ∧ av.Rel G w e r ∧ ∀ w', (rest.foldlM g x).run P w' = .ok r w' := by
  unfold minMax at h
  split at h
  · rename_i k x r
    rw [Option.map_eq_some_iff] at h
    obtain ⟨y, hy, h⟩ := h
    simp only [Prod.mk.injEq] at h
    obtain ⟨_, rfl⟩ := h
    obtain ⟨u, rr, rfl, h1, h2⟩ := hr
    obtain rfl : u = _ := (List.cons.inj h1).1
    exact ⟨_, _, _, rfl, rfl, fun w' => foldInt_run hg hy h2 w'⟩
  · cases h
theorem min2_run (k : IntKind) (x : Int) (k' : IntKind) (y : Int) (w' : World) : (Builtin.min2 (.int k x) (.int k' y)).run P w' = .ok (.int k (minI x y)) w' := by simp [Builtin.min2, minI]
theorem max2_run (k : IntKind) (x : Int) (k' : IntKind) (y : Int) (w' : World) : (Builtin.max2 (.int k x) (.int k' y)).run P w' = .ok (.int k (maxI x y)) w' := by simp [Builtin.max2, maxI]
/-! ### structs out of parts -/
theorem putCells_rel : ∀ (vs : List Value) (k : Nat) (ds cs : List (AV E)) (us : Array Value) (off : Nat), AV.Rels G w e ds vs → AV.Rels G w e cs us.toList →
    AV.Rels G w e (putCells cs (off + k) ds) ((vs.zipIdx k).foldl (fun (a : Array Value) (p : Value × Nat) => a.setIfInBounds (off + p.2) p.1) us).toList
  | [], k, ds, cs, us, off, h, hc => by
    cases ds with
    | nil => exact hc
    | cons d ds => obtain ⟨u, r, hu, _⟩ := h; cases hu
  | v :: vs, k, ds, cs, us, off, h, hc => by
    cases ds with
    | nil => cases (show v :: vs = [] from h)
    | cons d ds =>
      obtain ⟨u, r, hu, h1, h2⟩ := h
      cases hu
      simp only [List.zipIdx_cons, List.foldl_cons, putCells]
      have := putCells_rel vs (k + 1) ds (cs.set (off + k) d) (us.setIfInBounds (off + k) v) off h2 (by rw [Array.toList_setIfInBounds]; exact hc.set _ h1)
      rw [show off + (k + 1) = off + k + 1 by omega] at this
      exact this
theorem putCells_length : ∀ (ds cs : List (AV E)) (o : Nat), (putCells cs o ds).length = cs.length
  | [], cs, o => rfl
  | d :: ds, cs, o => by unfold putCells; rw [putCells_length ds]; simp
theorem build_fill {place place' : Nat → Option (Nat × Nat)} (hp : place = place') : ∀ {ps : List (Nat × AV E)} {vs : List (Nat × Value)} {cs cs' : List (AV E)} {us : Array Value}, buildGo place cs ps = some cs' → AV.Rels G w e cs us.toList →
    (vs.map (·.1) = ps.map (·.1)) → AV.Rels G w e (ps.map (·.2)) (vs.map (·.2)) → ∃ us', Instr.fill place' us vs = some us' ∧ AV.Rels G w e cs' us'.toList
  | [], vs, cs, cs', us, h, hc, h1, h2 => by
    cases vs with
    | nil =>
      simp only [buildGo, Option.some.injEq] at h
      subst h
      exact ⟨us, rfl, hc⟩
    | cons _ _ => simp at h1
  | (i, d) :: ps, vs, cs, cs', us, h, hc, h1, h2 => by
    cases vs with
    | nil => simp at h1
    | cons iv vs =>
      obtain ⟨i', v⟩ := iv
      simp only [List.map_cons, List.cons.injEq] at h1
      obtain ⟨rfl, h1⟩ := h1
      obtain ⟨u, r, hu, h3, h4⟩ := h2
      cases hu
      unfold buildGo at h
      split at h
      · cases h
      · rename_i off size hpl
        rw [Option.bind_eq_some_iff] at h
        obtain ⟨ds, hds, h⟩ := h
        split at h
        · rename_i hck
          simp only [Bool.and_eq_true, decide_eq_true_eq] at hck
          obtain ⟨hcr, _⟩ := AV.cells_rel hds h3
          have hl1 : v.cells.toList.length = ds.length := hcr.length
          have hl2 := hc.length
          have hput := putCells_rel v.cells.toList 0 ds cs us off hcr hc
          obtain ⟨us', hf, hr'⟩ := build_fill hp (vs := vs) h (us := (v.cells.toList.zipIdx 0).foldl (fun (a : Array Value) (p : Value × Nat) => a.setIfInBounds (off + p.2) p.1) us) (by rw [Nat.add_zero] at hput; exact hput) h1 h4
          refine ⟨us', ?_, hr'⟩
          rw [Array.length_toList] at hl1 hl2
          unfold Instr.fill
          rw [← hp, hpl]
          have hne : ¬ (decide (v.cells.size ≠ size) || decide (off + v.cells.size > us.size)) = true := by
            rw [Bool.or_eq_true, decide_eq_true_eq, decide_eq_true_eq]; omega
          simp only []
          rw [if_neg hne]
          rw [← hf]
          congr 1
          rw [← Array.foldl_toList, Array.toList_zipIdx]
        · cases h
theorem zero_run {t : TypeId} {z : Array Value} (h : zeroCells P t = some z) (w' : World) : ∃ v, v.cells = z ∧ (zeroValue t).run P w' = .ok v w' := by
  unfold zeroCells at h
  rw [Option.map_eq_some_iff] at h
  obtain ⟨v, hv, hz⟩ := h
  rw [Option.bind_eq_some_iff] at hv
  obtain ⟨i, hi, hiz⟩ := hv
  exact ⟨v, hz, by simp [zeroValue, typeInfo, hi, hiz]⟩
theorem places_all : ∀ (l : List Field), (l.all fun f => (P.info? f.type).isSome) = true → (l.mapM fun f => (P.info? f.type).map fun i => (f.offset, i.size)) = some (l.map fun f => (f.offset, sizeT P f.type))
  | [], _ => by simp
  | f :: l, h => by
    rw [List.all_cons, Bool.and_eq_true] at h
    obtain ⟨i, hi⟩ := Option.isSome_iff_exists.1 h.1
    have hs : sizeT P f.type = i.size := by simp [sizeT, Program.cellsOf, hi]
    simp [List.mapM_cons, hi, places_all l h.2, hs]
theorem zero_some {t : TypeId} {z : Array Value} (h : zeroCells P t = some z) : ∃ i v, P.info? t = some i ∧ i.zero = some v ∧ v.cells = z := by
  unfold zeroCells at h
  rw [Option.map_eq_some_iff] at h
  obtain ⟨v, hv, hz⟩ := h
  rw [Option.bind_eq_some_iff] at hv
  obtain ⟨i, hi, hiz⟩ := hv
  exact ⟨i, v, hi, hiz, hz⟩
theorem build_run {t : TypeId} {ps : List (Nat × AV E)} {vs : Array (Nat × Value)} {c : Option (E → Bool)} {av : AV E} (h : buildOut P t ps = some (c, av)) (h1 : vs.toList.map (·.1) = ps.map (·.1)) (h2 : AV.Rels G w e (ps.map (·.2)) (vs.toList.map (·.2))) :
    ∃ r, av.Rel G w e r ∧ ∀ w', (Instr.build t vs).run P w' = .ok r w' := by
  unfold buildOut at h
  rw [Option.bind_eq_some_iff] at h
  obtain ⟨z, hz, h⟩ := h
  have hzr : AV.Rels G w e (z.toList.map constAV) z.toList := consts_rel _
  obtain ⟨it, zv, hit, hiz, hzc⟩ := zero_some hz
  split at h
  · rename_i fs hu
    split at h
    · rename_i hall
      rw [Option.map_eq_some_iff] at h
      obtain ⟨cs, hcs, h⟩ := h
      simp only [Prod.mk.injEq] at h
      obtain ⟨_, rfl⟩ := h
      obtain ⟨us, hf, hr⟩ := build_fill (place' := fun i => (fs.toList.map fun f => (f.offset, sizeT P f.type)).toArray[i]?) (by funext i; simp) hcs hzr h1 h2
      refine ⟨.agg us, ⟨us, rfl, hr⟩, fun w' => run_build w' t vs us ?_⟩
      simp only [Program.built, hit, hu, hiz, places_all fs.toList hall, hzc]
      exact hf
    · cases h
  · rename_i m el hu
    split at h
    · rename_i hi
      rw [Option.map_eq_some_iff] at h
      obtain ⟨cs, hcs, h⟩ := h
      simp only [Prod.mk.injEq] at h
      obtain ⟨_, rfl⟩ := h
      obtain ⟨us, hf, hr⟩ := build_fill rfl hcs hzr h1 h2
      obtain ⟨ie, hie⟩ := Option.isSome_iff_exists.1 hi
      have hs : sizeT P el = ie.size := by simp [sizeT, Program.cellsOf, hie]
      rw [hs] at hf
      refine ⟨.agg us, ⟨us, rfl, hr⟩, fun w' => run_build w' t vs us ?_⟩
      simp only [Program.built, hit, hu, hiz, hie, hzc]
      exact hf
    · cases h
  · cases h
end Go.Proofs.YtkjjegjafpefcaaDoor.R
