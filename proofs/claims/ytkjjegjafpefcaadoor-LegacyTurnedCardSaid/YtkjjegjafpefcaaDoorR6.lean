/- The operations that leave the world alone: fields, loads, conversions, structs; and all of them together. -/
import Derived.Test.YtkjjegjafpefcaaDoorR5
import Derived.Laws.BytesArg
namespace Go.Proofs.YtkjjegjafpefcaaDoor.R
open Go Go.RowKit
set_option linter.unusedVariables false
set_option linter.unusedSimpArgs false
variable {E : Type} {G : Gh} {w : World} {e : E} {P : Program} {n : Nat → Prop}
theorem info_of {t : TypeId} (h : (P.underlying t).isNone = false) : (P.info? t).isSome := by
  unfold Program.underlying at h
  cases hi : P.info? t with
  | none => rw [hi] at h; simp at h
  | some i => rfl
theorem isAgg_run {t : TypeId} (h : (P.underlying t).isNone = false) (w : World) : (isAgg t).run P w = .ok (isAggT P t) w := by
  cases hu : P.underlying t with
  | none => rw [hu] at h; simp at h
  | some d =>
    unfold isAgg isAggT
    simp only [Sem.run_bind, run_underlying hu, Result.andThen_ok, hu]
    cases d <;> rfl
theorem sizeT_run {t : TypeId} (h : (P.underlying t).isNone = false) (w : World) : (sizeOf t).run P w = .ok (sizeT P t) w := size_run rfl (info_of h) w
/-- a part of a struct's cells -/
theorem part_run {t : TypeId} {cs : List (AV E)} {off : Nat} {av : AV E} {us : Array Value} (h : partOut P t cs off = some av) (hr : AV.Rels G w e cs us.toList) : ∃ v, av.Rel G w e v ∧ ∀ w', (part t us off).run P w' = .ok v w' := by
  unfold partOut at h
  split at h
  · cases h
  rename_i hu
  have hu' : (P.underlying t).isNone = false := Bool.eq_false_iff.2 hu
  split at h
  · rename_i ha
    split at h
    · rename_i hle
      obtain rfl := Option.some.inj h
      refine ⟨.agg (us.extract off (off + sizeT P t)), ⟨_, rfl, ?_⟩, fun w' => ?_⟩
      · have := (hr.drop off).take (sizeT P t)
        rw [Array.toList_extract]
        simpa using this
      · simp [part, isAgg_run hu', ha, sizeT_run hu']
    · cases h
  · rename_i ha
    obtain ⟨v, hv, hvr⟩ := hr.get h
    refine ⟨v, hvr, fun w' => ?_⟩
    have hv' : us[off]? = some v := by rw [← Array.getElem?_toList]; exact hv
    have ha' : isAggT P t = false := by simpa using ha
    simp [part, isAgg_run hu', ha', hv']
/-- cells that are read -/
theorem loadVar_run {t : TypeId} {cs : List (AV E)} {off : Nat} {av : AV E} {us : List Value} {g o : Nat} (h : partOut P t cs off = some av) (hr : AV.Rels G w e cs us) :
    ∃ v, av.Rel G w e v ∧ ∀ w' : World, (∀ i u, us[i]? = some u → w'.cell? ⟨g, o + i, none⟩ = some u) → (loadVar t ⟨g, o + off, none⟩).run P w' = .ok v w' := by
  unfold partOut at h
  split at h
  · cases h
  rename_i hu
  have hu' : (P.underlying t).isNone = false := Bool.eq_false_iff.2 hu
  split at h
  · rename_i ha
    split at h
    · rename_i hle
      obtain rfl := Option.some.inj h
      have h2 := (hr.drop off).take (sizeT P t)
      refine ⟨.agg ((us.drop off).take (sizeT P t)).toArray, ⟨_, rfl, by simpa using h2⟩, fun w' hc => ?_⟩
      have hlen : ((us.drop off).take (sizeT P t)).length = sizeT P t := by
        have := hr.length
        rw [List.length_take, List.length_drop]; omega
      have hl := run_loadCells_list (P := P) w' ⟨g, o + off, none⟩ ((us.drop off).take (sizeT P t)) (fun j v hj => by
        rw [add_cell, Nat.add_assoc]
        refine hc _ _ ?_
        rw [List.getElem?_take] at hj
        split at hj
        · rw [List.getElem?_drop] at hj; exact hj
        · cases hj)
      rw [hlen] at hl
      simp [loadVar, isAgg_run hu', ha, sizeT_run hu', hl]
    · cases h
  · rename_i ha
    obtain ⟨v, hv, hvr⟩ := hr.get h
    refine ⟨v, hvr, fun w' hc => ?_⟩
    have ha' : isAggT P t = false := by simpa using ha
    have := hc off v hv
    simp [loadVar, isAgg_run hu', ha', run_load, this]
/-- What is known of a block of our own. -/
def KIs (o : Option Obj) (us : List Value) : BK → Prop
  | .row el => o = some (.cells us.toArray el (0, 0))
  | .smap _ ks => ∃ ens clk, o = some (.map ens clk) ∧ ens.toList.map (·.key) = ks.map CK.val ∧ us = ens.toList.map (·.val)
  | .dmap => ∃ ens clk, o = some (.map ens clk) ∧ us = [.agg (ens.map fun en => .agg #[en.key, en.val])]
  | .iter => ∃ s p, o = some (.stringIter s p) ∧ us = [.string s, .int .i64 p]
theorem KIs.some {o : Option Obj} {us : List Value} {K : BK} (h : KIs o us K) : ∃ x, o = some x := by
  cases K with
  | row el => exact ⟨_, h⟩
  | smap t ks => obtain ⟨ens, clk, h, _⟩ := h; exact ⟨_, h⟩
  | dmap => obtain ⟨ens, clk, h, _⟩ := h; exact ⟨_, h⟩
  | iter => obtain ⟨s, p, h, _⟩ := h; exact ⟨_, h⟩
def BlkRel (G : Gh) (w : World) (e : E) (b : Nat) : Blk E → Prop
  | .dead => True
  | .cells K cs => ∃ us : List Value, KIs (w.heap[G.ρ b]?) us K ∧ AV.Rels G w e cs us ∧ ∀ i, ¬ G.Φ (G.ρ b) i
def BlksRel (G : Gh) (w : World) (e : E) (bs : List (Blk E)) : Prop := ∀ b B, bs[b]? = some B → BlkRel G w e b B
def EnvRel (G : Gh) (w : World) (e : E) (env : Env E) (a : Array Value) : Prop := ∀ t, (env.get t).Rel G w e (a.getD t undef)
theorem load_run {s : St E} {t : TypeId} {a : AV E} {c : Option (E → Bool)} {av : AV E} {v : Value} (h : loadOut P s t a = some (c, av)) (hr : a.Rel G w e v) (hb : BlksRel G w e s.blocks) (hX : ∀ b o, a = .ptr b o → ∀ b, Live s.blocks b → n b) :
    ∃ r, av.Rel G w e r ∧ ∀ w', Same G n w w' → (Instr.loadAt t v).run P w' = .ok r w' := by
  unfold loadOut at h
  split at h
  · rename_i b o
    split at h
    · rename_i el cs hbk
      rw [Option.map_eq_some_iff] at h
      obtain ⟨r, hp, h⟩ := h
      simp only [Prod.mk.injEq] at h
      obtain ⟨_, rfl⟩ := h
      obtain ⟨us0, hh, hus, _⟩ := hb b _ hbk
      obtain ⟨us, rfl⟩ : ∃ us : Array Value, us0 = us.toList := ⟨us0.toArray, rfl⟩
      replace hh : w.heap[G.ρ b]? = some (.cells us el (0, 0)) := hh
      obtain ⟨x, hx, hrun⟩ := loadVar_run (g := G.ρ b) (o := 0) hp hus
      obtain rfl : v = _ := hr.2
      refine ⟨x, hx, fun w' hs => ?_⟩
      have hlt : n b := hX b o rfl b ⟨_, cs, hbk⟩
      have := hrun w' (fun i u hu => by
        have : w'.heap[G.ρ b]? = some (.cells us el (0, 0)) := (hs.blk b hlt).trans hh
        rw [Array.getElem?_toList] at hu
        simp [World.cell?, this, hu])
      rw [Nat.zero_add] at this
      simp [Instr.loadAt, Instr.sureAddr, this]
    · cases h
  · rename_i cs
    rw [Option.map_eq_some_iff] at h
    obtain ⟨r, hp, h⟩ := h
    simp only [Prod.mk.injEq] at h
    obtain ⟨_, rfl⟩ := h
    obtain ⟨g, o, rfl, us, hus, hcell⟩ := hr
    obtain ⟨x, hx, hrun⟩ := loadVar_run (g := g) (o := o) hp hus
    refine ⟨x, hx, fun w' hs => ?_⟩
    have := hrun w' (fun i u hu => (hs.cell _ _ (hcell i u hu).1).trans (hcell i u hu).2)
    rw [Nat.add_zero] at this
    simp [Instr.loadAt, Instr.sureAddr, this]
  · cases h
theorem fieldOf_spec {s : TypeId} {k : Nat} {f : Field} (h : fieldOf P s k = some f) : ∃ fs, P.underlying s = some (.struct fs) ∧ fs[k]? = some f := by
  unfold fieldOf at h
  split at h
  · exact ⟨_, by assumption, h⟩
  · cases h
theorem fieldAddr_run {t : TypeId} {a : AV E} {k : Nat} {c : Option (E → Bool)} {av : AV E} {v : Value} (h : fieldAddrOut P t a k = some (c, av)) (hr : a.Rel G w e v) :
    ∃ r, av.Rel G w e r ∧ ∀ w', (Instr.fieldAt t v k).run P w' = .ok r w' := by
  have run : ∀ {f : Field} {ad : Addr}, fieldOf P t k = some f → ¬ (sizeT P f.type = 0 || (P.info? f.type).isNone) = true → ∀ w', (Instr.fieldAt t (.pointer (some ad)) k).run P w' = .ok (.pointer (some (ad.add f.offset))) w' := by
    intro f ad hf h0 w'
    obtain ⟨fs, hu, hk⟩ := fieldOf_spec hf
    simp only [Bool.or_eq_true, decide_eq_true_eq, not_or] at h0
    have hi : (P.info? f.type).isSome := by cases hh : P.info? f.type with
      | none => rw [hh] at h0; simp at h0
      | some _ => rfl
    have hz := size_run (P := P) (t := f.type) rfl hi w'
    simp [Instr.fieldAt, run_underlying hu, hk, Instr.sureAddr, fieldPlace, hz, h0.1]
  unfold fieldAddrOut at h
  split at h
  · rename_i f b o hf
    split at h
    · cases h
    · rename_i h0
      simp only [ok, Option.some.injEq, Prod.mk.injEq] at h
      obtain ⟨_, rfl⟩ := h
      obtain rfl : v = _ := hr.2
      exact ⟨.pointer (some ⟨G.ρ b, o + f.offset, none⟩), ⟨hr.1, rfl⟩, fun w' => by rw [run hf h0 w', add_cell]⟩
  · rename_i f cs hf
    split at h
    · cases h
    · rename_i h0
      simp only [ok, Option.some.injEq, Prod.mk.injEq] at h
      obtain ⟨_, rfl⟩ := h
      obtain ⟨g, o, rfl, us, hus, hcell⟩ := hr
      refine ⟨.pointer (some ⟨g, o + f.offset, none⟩), ⟨g, _, rfl, us.drop f.offset, hus.drop _, fun i u hu => ?_⟩, fun w' => by rw [run hf h0 w', add_cell]⟩
      rw [List.getElem?_drop] at hu
      have := hcell _ _ hu
      rw [show o + (f.offset + i) = o + f.offset + i by omega] at this
      exact this
  · cases h
theorem field_run {t : TypeId} {a : AV E} {k : Nat} {c : Option (E → Bool)} {av : AV E} {v : Value} (h : fieldOut P t a k = some (c, av)) (hr : a.Rel G w e v) :
    ∃ r, av.Rel G w e r ∧ ∀ w', (Instr.field t v k).run P w' = .ok r w' := by
  unfold fieldOut at h
  split at h
  · rename_i f cs hf
    rw [Option.map_eq_some_iff] at h
    obtain ⟨r, hp, h⟩ := h
    simp only [Prod.mk.injEq] at h
    obtain ⟨_, rfl⟩ := h
    obtain ⟨us, rfl, hus⟩ := hr
    obtain ⟨x, hx, hrun⟩ := part_run hp hus
    obtain ⟨fs, hu, hk⟩ := fieldOf_spec hf
    exact ⟨x, hx, fun w' => by simp [Instr.field, run_underlying hu, hk, asAgg, hrun w']⟩
  · cases h
theorem conv_run {src dst : TypeId} {a : AV E} {c : Option (E → Bool)} {av : AV E} {v : Value} (h : convOut P src dst a = some (c, av)) (hr : a.Rel G w e v) :
    ∃ r, av.Rel G w e r ∧ ∀ w', Same G n w w' → (convert src dst v).run P w' = .ok r w' := by
  unfold convOut at h
  split at h
  · cases h
  rename_i hs
  obtain ⟨d, hd⟩ : ∃ d, P.underlying src = some d := by cases hh : P.underlying src with
    | none => rw [hh] at hs; simp at hs
    | some d => exact ⟨d, rfl⟩
  split at h
  · rename_i k k' x hk
    simp only [ok, Option.some.injEq, Prod.mk.injEq] at h
    obtain ⟨_, rfl⟩ := h
    obtain rfl : v = _ := (List.cons.inj hr).1
    exact ⟨_, rfl, fun w' _ => by simp [convert, run_underlying hd, run_underlying hk, Conv.intToInt, convI]⟩
  · rename_i x hk
    simp only [ok, Option.some.injEq, Prod.mk.injEq] at h
    obtain ⟨_, rfl⟩ := h
    obtain rfl : v = _ := (List.cons.inj hr).1
    exact ⟨_, rfl, fun w' _ => by simp [convert, run_underlying hd, run_underlying hk]⟩
  · rename_i k x hk
    rw [hd, Option.bind_some] at h
    split at h
    · simp only [ok, Option.some.injEq, Prod.mk.injEq] at h
      obtain ⟨_, rfl⟩ := h
      obtain rfl : v = _ := (List.cons.inj hr).1
      exact ⟨_, rfl, fun w' _ => by simp [convert, run_underlying hd, run_underlying hk, Conv.intToString, runeS]⟩
    · cases h
  · rename_i hk _ _
    split at h
    · rename_i el hel
      split at h
      · rename_i hel8
        rw [Option.map_eq_some_iff] at h
        obtain ⟨x, hx, h⟩ := h
        simp only [Prod.mk.injEq] at h
        obtain ⟨_, rfl⟩ := h
        obtain ⟨A, cp, hv, hcp, _, g, o, hA, hcell⟩ := AV.to1_rel hx hr
        obtain rfl : v = _ := (List.cons.inj hv).1
        refine ⟨_, rfl, fun w' hsame => ?_⟩
        show _ = Result.ok (Value.string (strOfNums (x e))) w'
        by_cases h0 : (x e).length = 0
        · have h0' : x e = [] := List.length_eq_zero_iff.1 h0
          cases A with
          | none =>
            have := run_convert_bytes_nil (P := P) w' src el hel hel8 (x e).length cp dst hk
            rw [this, h0']; rfl
          | some ad =>
            have hl : (loadCells ad (x e).length).run P w' = .ok ((x e).map (Value.int .u8)).toArray w' := by rw [h0']; simp [loadCells, loadCellsFrom]
            rw [run_convert_bytes_string w' src dst el _ _ cp hel hel8 hk, run_bytesToString w' ad _ cp (x e) hl, h0']
            rfl
        · obtain rfl := hA.resolve_left h0
          refine run_convert_bytes_arg w' src el hel hel8 g o _ cp (x e) rfl (fun i hi => ?_) dst hk
          obtain ⟨us, hul, hur, huc⟩ := hcell i _ (List.getElem?_eq_getElem hi)
          rw [show us = _ from hur] at huc
          obtain ⟨hc1, hc2⟩ := huc 0 _ rfl
          have h1 : (Ty.int IntKind.u8).size = 1 := rfl
          rw [h1, Nat.mul_one, Nat.add_zero] at hc1 hc2
          rw [hsame.cell _ _ hc1, hc2, List.getD_eq_getElem?_getD, List.getElem?_eq_getElem hi]
          rfl
      · cases h
    · cases h
  · cases h
theorem const1_rel (v : Value) : (constAV (E := E) v).Rel G w e v := by
  unfold constAV
  split <;> first | rfl | trivial
theorem consts_rel : ∀ (l : List Value), AV.Rels G w e (l.map (constAV (E := E))) l
  | [] => rfl
  | v :: l => .cons (const1_rel v) (consts_rel l)
theorem const_rel (v : Value) : (constV (E := E) v).Rel G w e v := by
  unfold constV
  split
  · exact ⟨_, rfl, consts_rel _⟩
  · exact const1_rel v
theorem ev_rel {s : St E} {a : Act} (ht : EnvRel G w e s.tmps a.tmps) (x : Operand) : (s.ev x).Rel G w e (a.eval x) := by
  cases x with
  | tmp t => exact ht t
  | const v => exact const_rel v
  | global g => trivial
  | func f => exact ⟨#[], rfl, rfl⟩
theorem evs_rel {s : St E} {a : Act} (ht : EnvRel G w e s.tmps a.tmps) : ∀ (l : List Operand), AV.Rels G w e (l.map s.ev) (l.map a.eval)
  | [] => rfl
  | x :: l => .cons (ev_rel ht x) (evs_rel ht l)
end Go.Proofs.YtkjjegjafpefcaaDoor.R
