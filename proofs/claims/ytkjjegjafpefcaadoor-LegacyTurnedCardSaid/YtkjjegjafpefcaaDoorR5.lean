/- The operations that leave the world alone: slices, texts, structs. -/
import Derived.Test.YtkjjegjafpefcaaDoorR4
import Derived.Laws.BytesString
namespace Go.Proofs.YtkjjegjafpefcaaDoor.R
open Go Go.RowKit
set_option linter.unusedVariables false
set_option linter.unusedSimpArgs false
variable {E : Type} {G : Gh} {w : World} {e : E} {P : Program} {n : Nat → Prop}
theorem inB_iff {i n : Int} : inB i n = true ↔ 0 ≤ i ∧ i < n := by simp [inB]
theorem boundB_iff {i n : Int} : boundB i n = true ↔ 0 ≤ i ∧ i ≤ n := by simp [boundB]
theorem andB_iff {x y : Bool} : andB x y = true ↔ x = true ∧ y = true := by simp [andB]
theorem isStrT_spec {t : TypeId} (h : isStrT P t = true) : P.underlying t = some .string := by
  unfold isStrT at h
  split at h
  · assumption
  · cases h
theorem isSl_spec {t : TypeId} (h : isSl P t = true) : ∃ el, P.underlying t = some (.slice el) := by
  unfold isSl at h
  split at h
  · exact ⟨_, by assumption⟩
  · cases h
theorem size_run {t : TypeId} {k : Nat} (h : sizeT P t = k) (hi : (P.info? t).isSome) (w : World) : (sizeOf t).run P w = .ok k w := by
  obtain ⟨i, hi⟩ := Option.isSome_iff_exists.1 hi
  unfold sizeT Program.cellsOf at h
  rw [hi] at h
  simp at h
  simp [sizeOf, typeInfo, hi, h]
theorem isSlT_spec {t : TypeId} {k : Nat} (h : isSlT P t k = true) : ∃ el, P.underlying t = some (.slice el) ∧ ∀ w, (sizeOf el).run P w = .ok k w := by
  unfold isSlT at h
  split at h
  · rename_i el hu
    simp only [Bool.and_eq_true, beq_iff_eq] at h
    exact ⟨el, hu, fun w => size_run h.1 h.2 w⟩
  · cases h
theorem list_rel {a : AV E} {l : LV E} {v : Value} (h : a.list? = some l) (hr : a.Rel G w e v) : CRel G.Φ w (.sl l.e l.t) (l.x e) [v] := by
  cases a with
  | sym t x =>
    cases t with
    | sl el u => simp only [AV.list?, Option.some.injEq] at h; subst h; exact hr
    | _ => simp [AV.list?] at h
  | full el t x => simp only [AV.list?, Option.some.injEq] at h; subst h; exact hr.1
  | own z k el t x => simp only [AV.list?, Option.some.injEq] at h; subst h; obtain ⟨_, _, bo, _, ho⟩ := hr; exact ho.view
  | _ => simp [AV.list?] at h
theorem int_rel {a : AV E} {j : E → Int} {v : Value} (h : a.int? = some j) (hr : a.Rel G w e v) : ∃ k, v = .int k (j e) := by
  cases a with
  | sym t x =>
    cases t with
    | int k => simp only [AV.int?, Option.some.injEq] at h; subst h; exact ⟨k, (List.cons.inj hr).1⟩
    | _ => simp [AV.int?] at h
  | _ => simp [AV.int?] at h
/-- lengths -/
theorem len_run {t ty : TypeId} {a : AV E} {c : Option (E → Bool)} {av : AV E} {v : Value} (h : lenOut P t a = some (c, av)) (hr : a.Rel G w e v) :
    ∃ r, av.Rel G w e r ∧ ∀ w', (Builtin.len_ #[t] ty #[v]).run P w' = .ok r w' := by
  have slice : ∀ {el : TypeId} {A : Option Addr} {m k : Nat}, P.underlying t = some (.slice el) → ∀ w', (Builtin.len_ #[t] ty #[.slice A m k]).run P w' = .ok (.int .i64 m) w' := by
    intro el A m k hu w'
    simp [Builtin.len_, run_underlying hu, goInt]
  unfold lenOut at h
  split at h
  · split at h
    · rename_i x hs
      simp only [ok, Option.some.injEq, Prod.mk.injEq] at h
      obtain ⟨_, rfl⟩ := h
      obtain rfl : v = _ := (List.cons.inj hr).1
      exact ⟨_, rfl, fun w' => by simp [Builtin.len_, run_underlying (isStrT_spec hs), goInt, lenS]⟩
    · cases h
  · split at h
    · rename_i hs
      simp only [ok, Option.some.injEq, Prod.mk.injEq] at h
      obtain ⟨_, rfl⟩ := h
      obtain ⟨el, hu⟩ := isSl_spec hs
      obtain rfl : v = _ := hr
      exact ⟨_, rfl, slice hu⟩
    · cases h
  · rw [Option.bind_eq_some_iff] at h
    obtain ⟨l, hl, h⟩ := h
    split at h
    · rename_i hs
      simp only [ok, Option.some.injEq, Prod.mk.injEq] at h
      obtain ⟨_, rfl⟩ := h
      obtain ⟨el, hu⟩ := isSl_spec hs
      obtain ⟨A, c', hv, _⟩ := list_rel hl hr
      obtain rfl : v = _ := (List.cons.inj hv).1
      exact ⟨_, rfl, slice hu⟩
    · cases h
/-- the bytes of a text -/
theorem index_str {t : TypeId} {x : ByteArray} {k : IntKind} {i : Int} (hu : P.underlying t = some .string) (hi : inB i (lenS x) = true) (w' : World) :
    (Instr.index t (.string x) (.int k i)).run P w' = .ok (.int .u8 (btI x i)) w' := by
  rw [inB_iff] at hi
  unfold lenS at hi
  have hlt : i.toNat < x.size := by omega
  have hg : (if 0 ≤ i then x[i.toNat]? else none) = some (x[i.toNat]'hlt) := by rw [if_pos hi.1]; exact getElem?_pos x i.toNat hlt
  simp [Instr.index, asIntOf, run_underlying hu, hi.1, btI, hlt]
theorem add_cell {o m : Nat} {g : Nat} : (⟨g, o, none⟩ : Addr).add m = ⟨g, o + m, none⟩ := by
  unfold Addr.add
  split
  · rename_i h; rw [h]; rfl
  · rfl
/-- the address of an element -/
theorem indexAddr_run {t : TypeId} {a i : AV E} {c : Option (E → Bool)} {av : AV E} {v u : Value} {o : Operand} (h : indexAddrOut P t a i o = some (c, av)) (hc : ∀ f, c = some f → f e = true) (hr : a.Rel G w e v) (hi : i.Rel G w e u) (ho : ∀ n, constI o = some n → ∃ k, u = .int k n) :
    ∃ r, av.Rel G w e r ∧ ∀ w', (Instr.indexAt t v u).run P w' = .ok r w' := by
  unfold indexAddrOut at h
  split at h
  · rename_i b p
    simp only [Option.bind_eq_some_iff] at h
    obtain ⟨n, hn, m, hm, h⟩ := h
    obtain ⟨rfl, rfl⟩ : none = c ∧ AV.ptr b (p + n * m) = av := by simpa only [ok, Option.some.injEq, Prod.mk.injEq] using h
    obtain ⟨k, rfl⟩ := ho n hn
    obtain ⟨hb, rfl⟩ := hr
    unfold elAt at hm
    split at hm
    · rename_i len el hu
      split at hm
      · rename_i hlt
        simp only [Bool.and_eq_true, decide_eq_true_eq] at hlt
        obtain rfl := Option.some.inj hm
        refine ⟨.pointer (some ⟨G.ρ b, p + n * sizeT P el, none⟩), ⟨hb, rfl⟩, fun w' => ?_⟩
        have h1 : (n : Int) < (len : Int) := by omega
        simp [Instr.indexAt, asIntOf, Instr.sureAddr, run_underlying hu, hlt.1, h1, size_run rfl hlt.2, add_cell]
      · cases hm
    · cases hm
  split at h
  · rename_i l j hl hj
    split at h
    · cases h
    · rename_i hs
      simp only [okIf, Option.some.injEq, Prod.mk.injEq] at h
      obtain ⟨rfl, rfl⟩ := h
      have hb := hc _ rfl
      rw [inB_iff] at hb
      unfold lenL at hb
      obtain ⟨el, hu, hsz⟩ := isSlT_spec (by simpa using hs)
      obtain ⟨A, c', hv, _, _, g, o, hA, hcell⟩ := list_rel hl hr
      obtain rfl : v = _ := (List.cons.inj hv).1
      obtain ⟨k, rfl⟩ := int_rel hj hi
      have hlt : (j e).toNat < (l.x e).length := by omega
      have hA' : A = some ⟨g, o, none⟩ := hA.resolve_left (by omega)
      subst hA'
      obtain ⟨us, hul, hur, huc⟩ := hcell (j e).toNat _ (List.getElem?_eq_getElem hlt)
      refine ⟨.pointer (some ⟨g, o + (j e).toNat * l.t.size, none⟩), ⟨g, _, rfl, us, fromTy_rel ?_, huc⟩, fun w' => ?_⟩
      · have : elT l.t (l.x e) (j e) = (l.x e)[(j e).toNat] := by unfold elT; rw [List.getD_eq_getElem?_getD, List.getElem?_eq_getElem hlt]; rfl
        show CRel G.Φ w l.t (elT l.t (l.x e) (j e)) us
        rw [this]; exact hur
      · simp [Instr.indexAt, asIntOf, run_underlying hu, hb.1, hb.2, hsz, add_cell]
  · cases h
/-- parts of texts and slices -/
theorem lo_run {lo : Option (AV E)} {vo : Option Value} {l : E → Int} (h : loI lo = some l) (hr : ∀ x, lo = some x → ∃ v, vo = some v ∧ x.Rel G w e v) (h0 : lo = none → vo = none) :
    (vo = none ∧ l e = 0) ∨ ∃ k, vo = some (.int k (l e)) := by
  cases lo with
  | none => simp only [loI, Option.some.injEq] at h; subst h; exact .inl ⟨h0 rfl, rfl⟩
  | some x =>
    obtain ⟨v, hv, hx⟩ := hr x rfl
    obtain ⟨k, rfl⟩ := int_rel (by simpa only [loI] using h) hx
    exact .inr ⟨k, hv⟩
theorem hi_run {m : E → Int} {hi : Option (AV E)} {vo : Option Value} {l : E → Int} (h : hiI m hi = some l) (hr : ∀ x, hi = some x → ∃ v, vo = some v ∧ x.Rel G w e v) (h0 : hi = none → vo = none) :
    (vo = none ∧ l e = m e) ∨ ∃ k, vo = some (.int k (l e)) := by
  cases hi with
  | none => simp only [hiI, Option.some.injEq] at h; subst h; exact .inl ⟨h0 rfl, rfl⟩
  | some x =>
    obtain ⟨v, hv, hx⟩ := hr x rfl
    obtain ⟨k, rfl⟩ := int_rel (by simpa only [hiI] using h) hx
    exact .inr ⟨k, hv⟩
theorem bound_run {k : IntKind} {i : Int} {y : Nat} {cd : BoundsCode} (h : boundB i (y : Int) = true) (w' : World) : (Instr.sliceBound (.int k i) y cd).run P w' = .ok i.toNat w' := by
  rw [boundB_iff] at h
  simp [Instr.sliceBound, asIntOf, h]
/-- What 'sliceBounds' tells, without a third bound. -/
theorem bounds_run {sl : Bool} {len cap : Nat} {lv hv : Option Value} {l h : Int} (hl : (lv = none ∧ l = 0) ∨ ∃ k, lv = some (.int k l)) (hh : (hv = none ∧ h = (len : Int)) ∨ ∃ k, hv = some (.int k h))
    (h1 : boundB h (len : Int) = true) (h2 : boundB l h = true) (hcap : len ≤ cap) (w' : World) : (Instr.sliceBounds sl len cap lv hv none).run P w' = .ok (l.toNat, h.toNat, cap) w' := by
  have b1 := h1
  have b2 := h2
  rw [boundB_iff] at b1 b2
  have h1' : boundB h (cap : Int) = true := by rw [boundB_iff]; omega
  have h2' : boundB l (h.toNat : Int) = true := by rw [boundB_iff]; omega
  rcases hl with ⟨rfl, rfl⟩ | ⟨k, rfl⟩ <;> rcases hh with ⟨rfl, rfl⟩ | ⟨k', rfl⟩
  · simp [Instr.sliceBounds]
  · simp [Instr.sliceBounds, bound_run h1']
  · simp [Instr.sliceBounds, bound_run h2]
  · simp [Instr.sliceBounds, bound_run h1', bound_run h2']
theorem cut_rel {el : TypeId} {t : Ty} {xs : List t.den} {A : Option Addr} {c m : Nat} {l h : Int} (hr : CRel G.Φ w (.sl el t) xs [.slice A xs.length c]) (h1 : boundB h (xs.length : Int) = true) (h2 : boundB l h = true) (hm : h.toNat ≤ m) (hmc : m ≤ c) :
    CRel G.Φ w (.sl el t) (cutL xs l h) [.slice (if m = l.toNat then A else A.map (·.add (l.toNat * t.size))) (h.toNat - l.toNat) (m - l.toNat)] := by
  rw [boundB_iff] at h1 h2
  obtain ⟨A', c', hv, hc, hmx, g, o, hA, hcell⟩ := hr
  have hv' := (List.cons.inj hv).1
  simp only [Value.slice.injEq] at hv'
  obtain ⟨rfl, _, rfl⟩ := hv'
  have hlen : (cutL xs l h).length = h.toNat - l.toNat := by unfold cutL; rw [List.length_drop, List.length_take]; omega
  refine ⟨_, _, by rw [hlen], by rw [hlen]; omega, by omega, g, o + l.toNat * t.size, ?_, fun j x hj => ?_⟩
  · by_cases h0 : h.toNat - l.toNat = 0
    · exact .inl (by rw [hlen]; exact h0)
    · have hA' := hA.resolve_left (by omega)
      subst hA'
      exact .inr (by rw [if_neg (by omega)]; simp [add_cell])
  · have hj' : xs[l.toNat + j]? = some x := by
      unfold cutL at hj
      rw [List.getElem?_drop, List.getElem?_take] at hj
      split at hj
      · exact hj
      · cases hj
    obtain ⟨us, hul, hur, huc⟩ := hcell _ _ hj'
    refine ⟨us, hul, hur, fun i u hu => ?_⟩
    have := huc i u hu
    rw [show o + (l.toNat + j) * t.size + i = o + l.toNat * t.size + j * t.size + i by rw [Nat.add_mul]; omega] at this
    exact this
theorem slice_run {t : TypeId} {a : AV E} {lo hi mx : Option (AV E)} {vl vh vm : Option Value} {c : Option (E → Bool)} {av : AV E} {v : Value} (h : sliceOut P t a lo hi mx = some (c, av)) (hc : ∀ f, c = some f → f e = true) (hr : a.Rel G w e v)
    (hl : ∀ x, lo = some x → ∃ v, vl = some v ∧ x.Rel G w e v) (hl0 : lo = none → vl = none) (hh : ∀ x, hi = some x → ∃ v, vh = some v ∧ x.Rel G w e v) (hh0 : hi = none → vh = none) (hm : ∀ x, mx = some x → ∃ v, vm = some v ∧ x.Rel G w e v) (hm0 : mx = none → vm = none) :
    ∃ r, av.Rel G w e r ∧ ∀ w', (Instr.sliceAt t v vl vh vm).run P w' = .ok r w' := by
  unfold sliceOut at h
  split at h
  · -- a text
    rename_i x
    split at h
    · cases h
    · rename_i hs
      simp only [Option.bind_eq_some_iff] at h
      obtain ⟨l, h1, hi', h2, h⟩ := h
      simp only [okIf, Option.some.injEq, Prod.mk.injEq] at h
      obtain ⟨rfl, rfl⟩ := h
      have hb := hc _ rfl
      rw [andB_iff] at hb
      have hb0 : lenS (x e) = ((x e).size : Int) := rfl
      rw [hb0] at hb
      obtain rfl : v = _ := (List.cons.inj hr).1
      obtain rfl := hm0 rfl
      have hu := isStrT_spec (P := P) (t := t) (by simpa using hs)
      refine ⟨_, rfl, fun w' => ?_⟩
      have := bounds_run (P := P) (sl := false) (lo_run h1 hl hl0) (hi_run (e := e) (m := fun e => lenS (x e)) h2 hh hh0) hb.1 hb.2 (Nat.le_refl _) w'
      simp [Instr.sliceAt, Instr.slice, run_underlying hu, this, cutS]
  · -- a slice
    rw [Option.bind_eq_some_iff] at h
    obtain ⟨lv, hlv, h⟩ := h
    split at h
    · cases h
    · rename_i hs
      simp only [Option.bind_eq_some_iff] at h
      obtain ⟨l, h1, hi', h2, h⟩ := h
      simp only [okIf, Option.some.injEq, Prod.mk.injEq] at h
      obtain ⟨rfl, rfl⟩ := h
      have hb := hc _ rfl
      rw [andB_iff] at hb
      have hb0 : lenL (lv.x e) = ((lv.x e).length : Int) := rfl
      rw [hb0] at hb
      obtain rfl := hm0 rfl
      obtain ⟨el, hu, hsz⟩ := isSlT_spec (P := P) (t := t) (by simpa using hs)
      have hlr := list_rel hlv hr
      obtain ⟨A, cp, hv, hcp, _⟩ := id hlr
      obtain rfl : v = _ := (List.cons.inj hv).1
      have hb1 := hb.1
      rw [boundB_iff] at hb1
      refine ⟨_, cut_rel hlr hb.1 hb.2 (m := cp) (by omega) (Nat.le_refl _), fun w' => ?_⟩
      have := bounds_run (P := P) (sl := true) (lo_run h1 hl hl0) (hi_run (e := e) (m := fun e => lenL (lv.x e)) h2 hh hh0) hb.1 hb.2 hcp w'
      simp [Instr.sliceAt, Instr.slice, run_underlying hu, this, hsz]
  · -- with a third bound
    rename_i m
    rw [Option.bind_eq_some_iff] at h
    obtain ⟨lv, hlv, h⟩ := h
    split at h
    · cases h
    · rename_i hs
      simp only [Option.bind_eq_some_iff] at h
      obtain ⟨l, h1, hi', ⟨hx, hhx, h2⟩, m', h3, h⟩ := h
      simp only [okIf, Option.some.injEq, Prod.mk.injEq] at h
      obtain ⟨rfl, rfl⟩ := h
      have hb := hc _ rfl
      rw [andB_iff, andB_iff] at hb
      have hb0 : lenL (lv.x e) = ((lv.x e).length : Int) := rfl
      rw [hb0] at hb
      obtain ⟨⟨hb1, hb2⟩, hb3⟩ := hb
      obtain ⟨vm', rfl, hmr⟩ := hm m rfl
      obtain ⟨km, rfl⟩ := int_rel h3 hmr
      obtain ⟨vh', rfl, hhr⟩ := hh hx hhx
      obtain ⟨kh, rfl⟩ := int_rel h2 hhr
      have hmh : m' e = hi' e := by simpa [eqI] using hb3
      obtain ⟨el, hu, hsz⟩ := isSlT_spec (P := P) (t := t) (by simpa using hs)
      have hlr := list_rel hlv hr
      obtain ⟨A, cp, hv, hcp, _⟩ := id hlr
      obtain rfl : v = _ := (List.cons.inj hv).1
      have b1 := hb1
      have b2 := hb2
      rw [boundB_iff] at b1 b2
      refine ⟨.slice (if (hi' e).toNat = (l e).toNat then A else A.map (·.add ((l e).toNat * lv.t.size))) ((hi' e).toNat - (l e).toNat) ((hi' e).toNat - (l e).toNat), ⟨cut_rel hlr hb1 hb2 (m := (hi' e).toNat) (Nat.le_refl _) (by omega), _, _, rfl⟩, fun w' => ?_⟩
      have q1 : (Instr.sliceBound (.int km (m' e)) cp .slice3Acap).run P w' = .ok (hi' e).toNat w' := by
        rw [bound_run (by rw [boundB_iff]; omega), hmh]
      have q2 : (Instr.sliceBound (.int kh (hi' e)) (hi' e).toNat .slice3B).run P w' = .ok (hi' e).toNat w' := bound_run (by rw [boundB_iff]; omega) w'
      have q3 : (Instr.sliceBounds true (lv.x e).length cp vl (some (.int kh (hi' e))) (some (.int km (m' e)))).run P w' = .ok ((l e).toNat, (hi' e).toNat, (hi' e).toNat) w' := by
        rcases lo_run h1 hl hl0 with ⟨rfl, h0⟩ | ⟨k, rfl⟩
        · simp [Instr.sliceBounds, q1, q2, h0]
        · have q4 : (Instr.sliceBound (.int k (l e)) (hi' e).toNat .slice3C).run P w' = .ok (l e).toNat w' := bound_run (by rw [boundB_iff]; omega) w'
          simp [Instr.sliceBounds, q1, q2, q4]
      simp [Instr.sliceAt, Instr.slice, run_underlying hu, q3, hsz]
end Go.Proofs.YtkjjegjafpefcaaDoor.R
