/- The operations that leave the world alone -/
import Derived.Test.YtmmbedlegmbppaaDoorQ2
import Derived.Laws.BytesArg
import Derived.Laws.StructEq
import Derived.Laws.Tables
import Derived.MapKept
import Derived.Laws.Strings
/- The operations that leave the world alone: fields, loads, conversions, structs; and all of them together. -/
namespace Go.Proofs.YtmmbedlegmbppaaDoor.R
open Go Go.RowKit
set_option linter.unusedVariables false
set_option linter.unusedSimpArgs false
variable {E : Type} {G : Gh} {w : World} {e : E} {P : Program} {n : Nat → Prop}
theorem info_of {t : TypeId} (h : (P.underlying t).isNone = false) : (P.info? t).isSome := by
  unfold Program.underlying at h
  cases hi : P.info? t with
  | none => rw [hi] at h; simp at h
  | some i => rfl
theorem isAgg_run {t : TypeId} (h : (P.underlying t).isNone = false) (w : World) : (isAgg t).run P w = .ok (isAggT P t) w := by
  cases hu : P.underlying t with
  | none => rw [hu] at h; simp at h
  | some d =>
    unfold isAgg isAggT
    simp only [Sem.run_bind, run_underlying hu, Result.andThen_ok, hu]
    cases d <;> rfl
theorem sizeT_run {t : TypeId} (h : (P.underlying t).isNone = false) (w : World) : (sizeOf t).run P w = .ok (sizeT P t) w := size_run rfl (info_of h) w
/-- a part of a struct's cells -/
theorem part_run {t : TypeId} {cs : List (AV E)} {off : Nat} {av : AV E} {us : Array Value} (h : partOut P t cs off = some av) (hr : AV.Rels G w e cs us.toList) : ∃ v, av.Rel G w e v ∧ ∀ w', (part t us off).run P w' = .ok v w' := by
  unfold partOut at h
  split at h
  · cases h
  rename_i hu
  have hu' : (P.underlying t).isNone = false := Bool.eq_false_iff.2 hu
  split at h
  · rename_i ha
    split at h
    · rename_i hle
      obtain rfl := Option.some.inj h
      refine ⟨.agg (us.extract off (off + sizeT P t)), ⟨_, rfl, ?_⟩, fun w' => ?_⟩
      · have := (hr.drop off).take (sizeT P t)
        rw [Array.toList_extract]
        simpa using this
      · simp [part, isAgg_run hu', ha, sizeT_run hu']
    · cases h
  · rename_i ha
    obtain ⟨v, hv, hvr⟩ := hr.get h
    refine ⟨v, hvr, fun w' => ?_⟩
    have hv' : us[off]? = some v := by rw [← Array.getElem?_toList]; exact hv
    have ha' : isAggT P t = false := by simpa using ha
    simp [part, isAgg_run hu', ha', hv']
/-- cells that are read -/
theorem loadVar_run {t : TypeId} {cs : List (AV E)} {off : Nat} {av : AV E} {us : List Value} {g o : Nat} (h : partOut P t cs off = some av) (hr : AV.Rels G w e cs us) :
    ∃ v, av.Rel G w e v ∧ ∀ w' : World, (∀ i u, us[i]? = some u → w'.cell? ⟨g, o + i, none⟩ = some u) → (loadVar t ⟨g, o + off, none⟩).run P w' = .ok v w' := by
  unfold partOut at h
  split at h
  · cases h
  rename_i hu
  have hu' : (P.underlying t).isNone = false := Bool.eq_false_iff.2 hu
  split at h
  · rename_i ha
    split at h
    · rename_i hle
      obtain rfl := Option.some.inj h
      have h2 := (hr.drop off).take (sizeT P t)
      refine ⟨.agg ((us.drop off).take (sizeT P t)).toArray, ⟨_, rfl, by simpa using h2⟩, fun w' hc => ?_⟩
      have hlen : ((us.drop off).take (sizeT P t)).length = sizeT P t := by
        have := hr.length
        rw [List.length_take, List.length_drop]; omega
      have hl := run_loadCells_list (P := P) w' ⟨g, o + off, none⟩ ((us.drop off).take (sizeT P t)) (fun j v hj => by
        rw [add_cell, Nat.add_assoc]
        refine hc _ _ ?_
        rw [List.getElem?_take] at hj
        split at hj
        · rw [List.getElem?_drop] at hj; exact hj
        · cases hj)
      rw [hlen] at hl
      simp [loadVar, isAgg_run hu', ha, sizeT_run hu', hl]
    · cases h
  · rename_i ha
    obtain ⟨v, hv, hvr⟩ := hr.get h
    refine ⟨v, hvr, fun w' hc => ?_⟩
    have ha' : isAggT P t = false := by simpa using ha
    have := hc off v hv
    simp [loadVar, isAgg_run hu', ha', run_load, this]
/-- The stamps of a map's entries: each of its own, all ahead of the clock. -/
def BornOK (ens : Array MapEntry) (clk : Nat) : Prop := (∀ x ∈ ens.toList, x.born < clk) ∧ (ens.toList.map (·.born)).Nodup
theorem BornOK.nil (clk : Nat) : BornOK #[] clk := ⟨by simp, by simp⟩
theorem BornOK.push {ens : Array MapEntry} {clk : Nat} (h : BornOK ens clk) (k v : Value) : BornOK (ens.push { key := k, val := v, born := clk }) (clk + 1) := by
  refine ⟨fun x hx => ?_, ?_⟩
  · rw [Array.toList_push, List.mem_append, List.mem_singleton] at hx
    rcases hx with hx | rfl
    · exact Nat.lt_succ_of_lt (h.1 x hx)
    · exact Nat.lt_succ_self clk
  · rw [Array.toList_push, List.map_append, List.nodup_append]
    refine ⟨h.2, by simp, fun a ha b hb => ?_⟩
    obtain ⟨x, hx, rfl⟩ := List.mem_map.1 ha
    obtain rfl : b = clk := by simpa using hb
    exact Nat.ne_of_lt (h.1 x hx)
theorem BornOK.modify {ens : Array MapEntry} {clk : Nat} (h : BornOK ens clk) (j : Nat) (k v : Value) : BornOK (ens.modify j fun e => { e with key := k, val := v }) clk := by
  have hl : ((ens.modify j fun e => { e with key := k, val := v }).toList.map (·.born)) = ens.toList.map (·.born) := by
    rw [Array.toList_modify]
    apply List.ext_getElem?
    intro i
    rw [List.getElem?_map, List.getElem?_map, List.getElem?_modify]
    split <;> cases ens.toList[i]? <;> rfl
  refine ⟨fun x hx => ?_, by rw [hl]; exact h.2⟩
  have : x.born ∈ (ens.modify j fun e => { e with key := k, val := v }).toList.map (·.born) := List.mem_map_of_mem hx
  rw [hl] at this
  obtain ⟨y, hy, he⟩ := List.mem_map.1 this
  rw [← he]; exact h.1 y hy
/-- What is known of a block of our own. -/
def KIs (o : Option Obj) (us : List Value) : BK → Prop
  | .row el => o = some (.cells us.toArray el (0, 0))
  | .smap _ ks => ∃ ens clk, o = some (.map ens clk) ∧ ens.toList.map (·.key) = ks.map CK.val ∧ us = ens.toList.map (·.val) ∧ BornOK ens clk
  | .dmap => ∃ ens clk, o = some (.map ens clk) ∧ us = [.agg (ens.map fun en => .agg #[en.key, en.val])] ∧ BornOK ens clk
  | .iter => ∃ s p, o = some (.stringIter s p) ∧ us = [.string s, .int .i64 p]
theorem KIs.some {o : Option Obj} {us : List Value} {K : BK} (h : KIs o us K) : ∃ x, o = some x := by
  cases K with
  | row el => exact ⟨_, h⟩
  | smap t ks => obtain ⟨ens, clk, h, _⟩ := h; exact ⟨_, h⟩
  | dmap => obtain ⟨ens, clk, h, _⟩ := h; exact ⟨_, h⟩
  | iter => obtain ⟨s, p, h, _⟩ := h; exact ⟨_, h⟩
def BlkRel (G : Gh) (w : World) (e : E) (b : Nat) : Blk E → Prop
  | .dead => True
  | .cells K cs => ∃ us : List Value, KIs (w.heap[G.ρ b]?) us K ∧ AV.Rels G w e cs us ∧ ∀ i, ¬ G.Φ (G.ρ b) i
def BlksRel (G : Gh) (w : World) (e : E) (bs : List (Blk E)) : Prop := ∀ b B, bs[b]? = some B → BlkRel G w e b B
def EnvRel (G : Gh) (w : World) (e : E) (env : Env E) (a : Array Value) : Prop := ∀ t, (env.get t).Rel G w e (a.getD t undef)
theorem load_run {s : St E} {t : TypeId} {a : AV E} {c : Option (E → Bool)} {av : AV E} {v : Value} (h : loadOut P s t a = some (c, av)) (hr : a.Rel G w e v) (hb : BlksRel G w e s.blocks) (hX : ∀ b o, a = .ptr b o → ∀ b, Live s.blocks b → n b) :
    ∃ r, av.Rel G w e r ∧ ∀ w', Same G n w w' → (Instr.loadAt t v).run P w' = .ok r w' := by
  unfold loadOut at h
  split at h
  · rename_i b o
    split at h
    · rename_i el cs hbk
      rw [Option.map_eq_some_iff] at h
      obtain ⟨r, hp, h⟩ := h
      simp only [Prod.mk.injEq] at h
      obtain ⟨_, rfl⟩ := h
      obtain ⟨us0, hh, hus, _⟩ := hb b _ hbk
      obtain ⟨us, rfl⟩ : ∃ us : Array Value, us0 = us.toList := ⟨us0.toArray, rfl⟩
      replace hh : w.heap[G.ρ b]? = some (.cells us el (0, 0)) := hh
      obtain ⟨x, hx, hrun⟩ := loadVar_run (g := G.ρ b) (o := 0) hp hus
      obtain rfl : v = _ := hr.2
      refine ⟨x, hx, fun w' hs => ?_⟩
      have hlt : n b := hX b o rfl b ⟨_, cs, hbk⟩
      have := hrun w' (fun i u hu => by
        have : w'.heap[G.ρ b]? = some (.cells us el (0, 0)) := (hs.blk b hlt).trans hh
        rw [Array.getElem?_toList] at hu
        simp [World.cell?, this, hu])
      rw [Nat.zero_add] at this
      simp [Instr.loadAt, Instr.sureAddr, this]
    · cases h
  · rename_i cs
    rw [Option.map_eq_some_iff] at h
    obtain ⟨r, hp, h⟩ := h
    simp only [Prod.mk.injEq] at h
    obtain ⟨_, rfl⟩ := h
    obtain ⟨g, o, rfl, us, hus, hcell⟩ := hr
    obtain ⟨x, hx, hrun⟩ := loadVar_run (g := g) (o := o) hp hus
    refine ⟨x, hx, fun w' hs => ?_⟩
    have := hrun w' (fun i u hu => (hs.cell _ _ (hcell i u hu).1).trans (hcell i u hu).2)
    rw [Nat.add_zero] at this
    simp [Instr.loadAt, Instr.sureAddr, this]
  · cases h
theorem fieldOf_spec {s : TypeId} {k : Nat} {f : Field} (h : fieldOf P s k = some f) : ∃ fs, P.underlying s = some (.struct fs) ∧ fs[k]? = some f := by
  unfold fieldOf at h
  split at h
  · exact ⟨_, by assumption, h⟩
  · cases h
theorem fieldAddr_run {t : TypeId} {a : AV E} {k : Nat} {c : Option (E → Bool)} {av : AV E} {v : Value} (h : fieldAddrOut P t a k = some (c, av)) (hr : a.Rel G w e v) :
    ∃ r, av.Rel G w e r ∧ ∀ w', (Instr.fieldAt t v k).run P w' = .ok r w' := by
  have run : ∀ {f : Field} {ad : Addr}, fieldOf P t k = some f → ¬ (sizeT P f.type = 0 || (P.info? f.type).isNone) = true → ∀ w', (Instr.fieldAt t (.pointer (some ad)) k).run P w' = .ok (.pointer (some (ad.add f.offset))) w' := by
    intro f ad hf h0 w'
    obtain ⟨fs, hu, hk⟩ := fieldOf_spec hf
    simp only [Bool.or_eq_true, decide_eq_true_eq, not_or] at h0
    have hi : (P.info? f.type).isSome := by cases hh : P.info? f.type with
      | none => rw [hh] at h0; simp at h0
      | some _ => rfl
    have hz := size_run (P := P) (t := f.type) rfl hi w'
    simp [Instr.fieldAt, run_underlying hu, hk, Instr.sureAddr, fieldPlace, hz, h0.1]
  unfold fieldAddrOut at h
  split at h
  · rename_i f b o hf
    split at h
    · cases h
    · rename_i h0
      simp only [ok, Option.some.injEq, Prod.mk.injEq] at h
      obtain ⟨_, rfl⟩ := h
      obtain rfl : v = _ := hr.2
      exact ⟨.pointer (some ⟨G.ρ b, o + f.offset, none⟩), ⟨hr.1, rfl⟩, fun w' => by rw [run hf h0 w', add_cell]⟩
  · rename_i f cs hf
    split at h
    · cases h
    · rename_i h0
      simp only [ok, Option.some.injEq, Prod.mk.injEq] at h
      obtain ⟨_, rfl⟩ := h
      obtain ⟨g, o, rfl, us, hus, hcell⟩ := hr
      refine ⟨.pointer (some ⟨g, o + f.offset, none⟩), ⟨g, _, rfl, us.drop f.offset, hus.drop _, fun i u hu => ?_⟩, fun w' => by rw [run hf h0 w', add_cell]⟩
      rw [List.getElem?_drop] at hu
      have := hcell _ _ hu
      rw [show o + (f.offset + i) = o + f.offset + i by omega] at this
      exact this
  · cases h
theorem field_run {t : TypeId} {a : AV E} {k : Nat} {c : Option (E → Bool)} {av : AV E} {v : Value} (h : fieldOut P t a k = some (c, av)) (hr : a.Rel G w e v) :
    ∃ r, av.Rel G w e r ∧ ∀ w', (Instr.field t v k).run P w' = .ok r w' := by
  unfold fieldOut at h
  split at h
  · rename_i f cs hf
    rw [Option.map_eq_some_iff] at h
    obtain ⟨r, hp, h⟩ := h
    simp only [Prod.mk.injEq] at h
    obtain ⟨_, rfl⟩ := h
    obtain ⟨us, rfl, hus⟩ := hr
    obtain ⟨x, hx, hrun⟩ := part_run hp hus
    obtain ⟨fs, hu, hk⟩ := fieldOf_spec hf
    exact ⟨x, hx, fun w' => by simp [Instr.field, run_underlying hu, hk, asAgg, hrun w']⟩
  · cases h
theorem conv_run {src dst : TypeId} {a : AV E} {c : Option (E → Bool)} {av : AV E} {v : Value} (h : convOut P src dst a = some (c, av)) (hr : a.Rel G w e v) :
    ∃ r, av.Rel G w e r ∧ ∀ w', Same G n w w' → (convert src dst v).run P w' = .ok r w' := by
  unfold convOut at h
  split at h
  · cases h
  rename_i hs
  obtain ⟨d, hd⟩ : ∃ d, P.underlying src = some d := by cases hh : P.underlying src with
    | none => rw [hh] at hs; simp at hs
    | some d => exact ⟨d, rfl⟩
  split at h
  · rename_i k k' x hk
    simp only [ok, Option.some.injEq, Prod.mk.injEq] at h
    obtain ⟨_, rfl⟩ := h
    obtain rfl : v = _ := (List.cons.inj hr).1
    exact ⟨_, rfl, fun w' _ => by simp [convert, run_underlying hd, run_underlying hk, Conv.intToInt, convI]⟩
  · rename_i x hk
    simp only [ok, Option.some.injEq, Prod.mk.injEq] at h
    obtain ⟨_, rfl⟩ := h
    obtain rfl : v = _ := (List.cons.inj hr).1
    exact ⟨_, rfl, fun w' _ => by simp [convert, run_underlying hd, run_underlying hk]⟩
  · rename_i k x hk
    rw [hd, Option.bind_some] at h
    split at h
    · simp only [ok, Option.some.injEq, Prod.mk.injEq] at h
      obtain ⟨_, rfl⟩ := h
      obtain rfl : v = _ := (List.cons.inj hr).1
      exact ⟨_, rfl, fun w' _ => by simp [convert, run_underlying hd, run_underlying hk, Conv.intToString, runeS]⟩
    · cases h
  · rename_i hk _ _
    split at h
    · rename_i el hel
      split at h
      · rename_i hel8
        rw [Option.map_eq_some_iff] at h
        obtain ⟨x, hx, h⟩ := h
        simp only [Prod.mk.injEq] at h
        obtain ⟨_, rfl⟩ := h
        obtain ⟨A, cp, hv, hcp, _, g, o, hA, hcell⟩ := AV.to1_rel hx hr
        obtain rfl : v = _ := (List.cons.inj hv).1
        refine ⟨_, rfl, fun w' hsame => ?_⟩
        show _ = Result.ok (Value.string (strOfNums (x e))) w'
        by_cases h0 : (x e).length = 0
        · have h0' : x e = [] := List.length_eq_zero_iff.1 h0
          cases A with
          | none =>
            have := run_convert_bytes_nil (P := P) w' src el hel hel8 (x e).length cp dst hk
            rw [this, h0']; rfl
          | some ad =>
            have hl : (loadCells ad (x e).length).run P w' = .ok ((x e).map (Value.int .u8)).toArray w' := by rw [h0']; simp [loadCells, loadCellsFrom]
            rw [run_convert_bytes_string w' src dst el _ _ cp hel hel8 hk, run_bytesToString w' ad _ cp (x e) hl, h0']
            rfl
        · obtain rfl := hA.resolve_left h0
          refine run_convert_bytes_arg w' src el hel hel8 g o _ cp (x e) rfl (fun i hi => ?_) dst hk
          obtain ⟨us, hul, hur, huc⟩ := hcell i _ (List.getElem?_eq_getElem hi)
          rw [show us = _ from hur] at huc
          obtain ⟨hc1, hc2⟩ := huc 0 _ rfl
          have h1 : (Ty.int IntKind.u8).size = 1 := rfl
          rw [h1, Nat.mul_one, Nat.add_zero] at hc1 hc2
          rw [hsame.cell _ _ hc1, hc2, List.getD_eq_getElem?_getD, List.getElem?_eq_getElem hi]
          rfl
      · cases h
    · cases h
  · cases h
theorem const1_rel (v : Value) : (constAV (E := E) v).Rel G w e v := by
  unfold constAV
  split <;> first | rfl | trivial
theorem consts_rel : ∀ (l : List Value), AV.Rels G w e (l.map (constAV (E := E))) l
  | [] => rfl
  | v :: l => .cons (const1_rel v) (consts_rel l)
theorem const_rel (v : Value) : (constV (E := E) v).Rel G w e v := by
  unfold constV
  split
  · exact ⟨_, rfl, consts_rel _⟩
  · exact const1_rel v
theorem ev_rel {s : St E} {a : Act} (ht : EnvRel G w e s.tmps a.tmps) (x : Operand) : (s.ev x).Rel G w e (a.eval x) := by
  cases x with
  | tmp t => exact ht t
  | const v => exact const_rel v
  | global g => trivial
  | func f => exact ⟨#[], rfl, rfl⟩
theorem evs_rel {s : St E} {a : Act} (ht : EnvRel G w e s.tmps a.tmps) : ∀ (l : List Operand), AV.Rels G w e (l.map s.ev) (l.map a.eval)
  | [] => rfl
  | x :: l => .cons (ev_rel ht x) (evs_rel ht l)
end Go.Proofs.YtmmbedlegmbppaaDoor.R
/- The operations that leave the world alone: equality, choices, structs that are built; and all of them together. -/
namespace Go.Proofs.YtmmbedlegmbppaaDoor.R
open Go Go.RowKit
set_option linter.unusedVariables false
set_option linter.unusedSimpArgs false
variable {E : Type} {G : Gh} {w : World} {e : E} {P : Program} {n : Nat → Prop}
theorem strip_size (u : Ty) : u.strip.size = u.size := by cases u <;> rfl
theorem strip_den (u : Ty) : u.strip.den = u.den := by cases u <;> rfl
/-- A part of a struct, told by its kind. -/
theorem plainT_agg {n : Nat} {t : TypeId} {u : Ty} (h : plainT P n t = some u) : (P.underlying t).isNone = false ∧ ((isAggT P t = true ∧ ∃ u', u = .agg u') ∨ (isAggT P t = false ∧ u.strip = u ∧ ∀ u', u ≠ .agg u')) := by
  cases n with
  | zero => cases h
  | succ n =>
    unfold plainT at h
    cases hu : P.underlying t with
    | none => rw [hu] at h; cases h
    | some d =>
      rw [hu] at h
      refine ⟨rfl, ?_⟩
      cases d <;> (try simp only [Option.some.injEq, reduceCtorEq] at h)
      case bool => subst h; exact .inr ⟨by simp [isAggT, hu], rfl, by simp⟩
      case int k => subst h; exact .inr ⟨by simp [isAggT, hu], rfl, by simp⟩
      case string => subst h; exact .inr ⟨by simp [isAggT, hu], rfl, by simp⟩
      case struct fs =>
        split at h
        · cases h
        · rw [Option.map_eq_some_iff] at h
          obtain ⟨v, _, rfl⟩ := h
          exact .inl ⟨by simp [isAggT, hu], v, rfl⟩
theorem part_cut {t : TypeId} {u : Ty} {o k : Nat} (ht : plainT P k t = some u) (hs : sizeT P t = u.size) {us : Array Value} {r : List Value} (hd : us.toList.drop o = r) {p q : List Value} (hp : r = p ++ q) (hl : p.length = u.size) :
    ∃ v, (∀ w', (part t us o).run P w' = .ok v w') ∧ (∀ u', u = .agg u' → v = .agg p.toArray) ∧ ((∀ u', u ≠ .agg u') → p = [v]) := by
  obtain ⟨hu, h | h⟩ := plainT_agg ht
  · obtain ⟨ha, u', rfl⟩ := h
    refine ⟨.agg (us.extract o (o + sizeT P t)), fun w' => by simp [part, isAgg_run hu, ha, sizeT_run hu], fun u'' _ => ?_, fun hne => absurd rfl (hne u')⟩
    congr 1
    apply Array.ext'
    rw [Array.toList_extract]
    simp only [List.extract_eq_take_drop, Nat.add_sub_cancel_left]
    rw [hd, hp, hs, ← hl, List.take_left']
    rfl
  · obtain ⟨ha, _, hne⟩ := h
    have h1 : u.size = 1 := by
      cases u with
      | agg u' => exact absurd rfl (hne u')
      | pair a b =>
        exfalso
        cases k with
        | zero => cases ht
        | succ k =>
          unfold plainT at ht
          split at ht <;> first | cases ht | skip
          split at ht
          · cases ht
          · rw [Option.map_eq_some_iff] at ht; obtain ⟨v, _, hv⟩ := ht; cases hv
      | _ => rfl
    obtain ⟨v, rfl⟩ : ∃ v, p = [v] := by
      match p, hl with
      | [v], _ => exact ⟨v, rfl⟩
      | [], hl => rw [h1] at hl; cases hl
      | _ :: _ :: _, hl => rw [h1] at hl; simp at hl
    have hv : us[o]? = some v := by
      rw [← Array.getElem?_toList]
      have := congrArg (·[0]?) hd
      simp only [List.getElem?_drop, Nat.add_zero, hp] at this
      simpa using this
    exact ⟨v, fun w' => by simp [part, isAgg_run hu, ha, hv], fun u' hu' => absurd hu' (hne u'), fun _ => rfl⟩
theorem eqD_strip (u : Ty) (x y : u.den) (x' y' : u.strip.den) (hx : HEq x x') (hy : HEq y y') : eqD u.strip x' y' = eqD u x y := by
  cases u <;> (cases hx; cases hy; rfl)
theorem CRel.of_strip {Φ : Fz} {u : Ty} {x' : u.strip.den} {us : List Value} (h : CRel Φ w u.strip x' us) : ∃ x : u.den, HEq x x' ∧ CRel Φ w u x us := by
  cases u <;> exact ⟨x', HEq.rfl, h⟩
/-- One struct is as another one is: cell by cell. -/
theorem plainT_eq : ∀ (k : Nat) (t : TypeId) (u : Ty), plainT P k t = some u → ∀ (d : Nat), k ≤ d → ∀ (Φ : Fz) (x y : u.den) (va vb : Value), VRel Φ w u x va → VRel Φ w u y vb → ∀ w', (Op.equalIn d t va vb).run P w' = .ok (eqD u x y) w' := by
  intro k
  induction k with
  | zero => intro t u h; cases h
  | succ k ih =>
    intro t u h d hd Φ x y va vb hx hy w'
    obtain ⟨d, rfl⟩ : ∃ j, d = j + 1 := ⟨d - 1, by omega⟩
    unfold plainT at h
    cases hu : P.underlying t with
    | none => rw [hu] at h; cases h
    | some ds =>
      rw [hu] at h
      cases ds <;> (try simp only [Option.some.injEq, reduceCtorEq] at h)
      case bool =>
        subst h
        obtain rfl := (List.cons.inj (show [va] = _ from hx)).1
        obtain rfl := (List.cons.inj (show [vb] = _ from hy)).1
        exact run_equalIn_bool' w' d t x y hu
      case int kk =>
        subst h
        obtain rfl := (List.cons.inj (show [va] = _ from hx)).1
        obtain rfl := (List.cons.inj (show [vb] = _ from hy)).1
        exact run_equalIn_int w' d t kk kk x y hu
      case string =>
        subst h
        obtain rfl := (List.cons.inj (show [va] = _ from hx)).1
        obtain rfl := (List.cons.inj (show [vb] = _ from hy)).1
        exact run_equalIn_string w' d t x y hu
      case struct fs =>
        split at h
        · cases h
        · rename_i hst
          rw [Option.map_eq_some_iff] at h
          obtain ⟨v, hgo, rfl⟩ := h
          obtain ⟨us, rfl, hus⟩ := hx
          obtain ⟨vs, rfl, hvs⟩ := hy
          have hfs : P.fieldsOf t = fs := by simp [Program.fieldsOf, hu]
          rw [run_equalIn_struct w' d t us vs (by rw [hfs]; exact hu) (by simpa using hst), hfs]
          have main : ∀ (l : List Field) (o : Nat) (v : Ty), plainT.go P o (l.map fun f => (f, plainT P k f.type)) = some v → ∀ (x y : v.den), CRel Φ w v x (us.toList.drop o) → CRel Φ w v y (vs.toList.drop o) →
              (Op.eqFields d us vs l).run P w' = .ok (eqD v x y) w' := by
            intro l
            induction l with
            | nil => intro o v h; cases h
            | cons f r ihl =>
              intro o v h x y hx hy
              cases r with
              | nil =>
                simp only [List.map_cons, List.map_nil, plainT.go, Option.bind_eq_some_iff] at h
                obtain ⟨u, hfu, h⟩ := h
                split at h
                · rename_i hc
                  obtain rfl := Option.some.inj h
                  simp only [Bool.and_eq_true, bne_iff_ne, ne_eq, decide_eq_true_eq] at hc
                  obtain ⟨⟨hn, ho⟩, hsz⟩ := hc
                  subst ho
                  obtain ⟨x0, hx0, hxr⟩ := hx.of_strip
                  obtain ⟨y0, hy0, hyr⟩ := hy.of_strip
                  obtain ⟨va, ra, a1, a2⟩ := part_cut hfu hsz rfl (List.append_nil _).symm hxr.length
                  obtain ⟨vb, rb, b1, b2⟩ := part_cut hfu hsz rfl (List.append_nil _).symm hyr.length
                  have hva : VRel Φ w u x0 va := by
                    cases u with
                    | agg u' => exact ⟨_, a1 u' rfl, hxr⟩
                    | _ => have := a2 (by simp); rw [this] at hxr; exact hxr
                  have hvb : VRel Φ w u y0 vb := by
                    cases u with
                    | agg u' => exact ⟨_, b1 u' rfl, hyr⟩
                    | _ => have := b2 (by simp); rw [this] at hyr; exact hyr
                  have he := ih f.type u hfu d (by omega) Φ x0 y0 va vb hva hvb w'
                  rw [eqD_strip u x0 y0 x y hx0 hy0]
                  simp only [Op.eqFields, ne_eq, hn, not_false_eq_true, if_true, Sem.run_bind, ra, rb, Result.andThen_ok, he]
                  cases eqD u x0 y0 <;> simp
                · cases h
              | cons g r =>
                simp only [List.map_cons, plainT.go, Option.bind_eq_some_iff] at h
                obtain ⟨u, hfu, h⟩ := h
                split at h
                · rename_i hc
                  rw [Option.bind_eq_some_iff] at h
                  obtain ⟨v', hgo', h⟩ := h
                  obtain rfl := Option.some.inj h
                  simp only [Bool.and_eq_true, bne_iff_ne, ne_eq, decide_eq_true_eq] at hc
                  obtain ⟨⟨hn, ho⟩, hsz⟩ := hc
                  subst ho
                  obtain ⟨p1, q1, e1, c1, c1'⟩ := hx
                  obtain ⟨p2, q2, e2, c2, c2'⟩ := hy
                  obtain ⟨x0, hx0, hxr⟩ := c1.of_strip
                  obtain ⟨y0, hy0, hyr⟩ := c2.of_strip
                  obtain ⟨va, ra, a1, a2⟩ := part_cut hfu hsz rfl e1 hxr.length
                  obtain ⟨vb, rb, b1, b2⟩ := part_cut hfu hsz rfl e2 hyr.length
                  have hva : VRel Φ w u x0 va := by
                    cases u with
                    | agg u' => exact ⟨_, a1 u' rfl, hxr⟩
                    | _ => have := a2 (by simp); rw [this] at hxr; exact hxr
                  have hvb : VRel Φ w u y0 vb := by
                    cases u with
                    | agg u' => exact ⟨_, b1 u' rfl, hyr⟩
                    | _ => have := b2 (by simp); rw [this] at hyr; exact hyr
                  have he := ih f.type u hfu d (by omega) Φ x0 y0 va vb hva hvb w'
                  have d1 : us.toList.drop (f.offset + u.size) = q1 := by rw [← List.drop_drop, e1, ← hxr.length, List.drop_left']; rfl
                  have d2 : vs.toList.drop (f.offset + u.size) = q2 := by rw [← List.drop_drop, e2, ← hyr.length, List.drop_left']; rfl
                  have hrest := ihl (f.offset + u.size) v' (by simpa only [List.map_cons] using hgo') x.2 y.2 (by rw [d1]; exact c1') (by rw [d2]; exact c2')
                  show _ = Result.ok (andB (eqD u.strip x.1 y.1) (eqD v' x.2 y.2)) w'
                  rw [eqD_strip u x0 y0 x.1 y.1 hx0 hy0]
                  rw [Op.eqFields]
                  simp only [ne_eq, hn, not_false_eq_true, if_true, Sem.run_bind, ra, rb, Result.andThen_ok, he]
                  cases eqD u x0 y0
                  · simp [andB]
                  · simp only [Bool.not_true, Bool.false_eq_true, if_false, andB, Bool.true_and]
                    exact hrest
                · cases h
          exact main fs.toList 0 v hgo x y (by simpa using hus) (by simpa using hvs)
end Go.Proofs.YtmmbedlegmbppaaDoor.R
/- The operations that leave the world alone, all of them together. -/
namespace Go.Proofs.YtmmbedlegmbppaaDoor.R
open Go Go.RowKit
set_option linter.unusedVariables false
set_option linter.unusedSimpArgs false
variable {E : Type} {G : Gh} {w : World} {e : E} {P : Program} {n : Nat → Prop}
theorem run_equalIn_nilsl (d : Nat) {t el : TypeId} (h : P.underlying t = some (.slice el)) (A : Option Addr) (n c : Nat) (w' : World) : (Op.equalIn (d + 1) t (.slice A n c) (.slice none 0 0)).run P w' = .ok A.isNone w' := by
  cases A <;> simp [Op.equalIn, run_underlying h]
theorem bin_run {op : BinOp} {t : TypeId} {x y : Operand} {a b : AV E} {c : Option (E → Bool)} {av : AV E} {u v : Value} (h : binOut P op t a b = some (c, av)) (hc : ∀ f, c = some f → f e = true) (ha : a.Rel G w e u) (hb : b.Rel G w e v) :
    ∃ r, av.Rel G w e r ∧ ∀ w', (binRun op t x y u v).run P w' = .ok (.value r) w' := by
  unfold binOut at h
  split at h
  · -- whole numbers
    rename_i k p k' q
    obtain rfl : u = _ := (List.cons.inj ha).1
    obtain rfl : v = _ := (List.cons.inj hb).1
    split at h
    · obtain ⟨r, hr, hw⟩ := shift_run (G := G) (w := w) (k' := k') (t := t) h hc
      exact ⟨r, hr, fun w' => binRun_of eqGuard_int (hw w')⟩
    · obtain ⟨r, hr, hw⟩ := shift_run (G := G) (w := w) (k' := k') (t := t) h hc
      exact ⟨r, hr, fun w' => binRun_of eqGuard_int (hw w')⟩
    · rename_i h1 h2
      split at h
      · rename_i hk
        subst hk
        obtain ⟨r, hr, hw⟩ := binInt_run (G := G) (w := w) (t := t) h hc ⟨fun he => h1 he, fun he => h2 he⟩
        exact ⟨r, hr, fun w' => binRun_of eqGuard_int (hw w')⟩
      · cases h
  · rename_i p q
    obtain rfl : u = _ := (List.cons.inj ha).1
    obtain rfl : v = _ := (List.cons.inj hb).1
    obtain ⟨r, hr, hw⟩ := binStr_run (G := G) (w := w) (t := t) h hc
    exact ⟨r, hr, fun w' => binRun_of eqGuard_str (hw w')⟩
  · rename_i xs ys
    split at h
    · cases h
    · rename_i hg
      simp only [Option.bind_eq_some_iff] at h
      obtain ⟨ty, ht, p, hp, q, hq, h⟩ := h
      obtain ⟨us, rfl, h1⟩ := id ha
      obtain ⟨vs, rfl, h2⟩ := id hb
      have hx := AV.to_rel hp ha
      have hy := AV.to_rel hq hb
      have he := plainT_eq 8 t ty ht 10000 (by omega) G.Φ _ _ _ _ hx hy
      have hge : ∀ w', (eqGuard op t x y (.agg us) (.agg vs)).run P w' = .ok () w' := fun w' => run_eqGuard_agg w' op t x y us vs (by simpa using hg)
      split at h
      · simp only [ok, Option.some.injEq, Prod.mk.injEq] at h
        obtain ⟨_, rfl⟩ := h
        exact ⟨_, rfl, fun w' => binRun_of (hge w') (by rw [run_eql_struct, he]; rfl)⟩
      · simp only [ok, Option.some.injEq, Prod.mk.injEq] at h
        obtain ⟨_, rfl⟩ := h
        exact ⟨_, rfl, fun w' => binRun_of (hge w') (by rw [run_neq_struct, he]; rfl)⟩
      · cases h
  · split at h
    · rename_i hbt
      simp only [Option.bind_eq_some_iff] at h
      obtain ⟨p, hp, q, hq, h⟩ := h
      obtain rfl : u = _ := (List.cons.inj (AV.to1_rel hp ha)).1
      obtain rfl : v = _ := (List.cons.inj (AV.to1_rel hq hb)).1
      have he : ∀ w', (Op.equal t (.bool (p e)) (.bool (q e))).run P w' = .ok (p e == q e) w' := fun w' => run_equalIn_bool w' 9999 t (p e) (q e) hbt
      split at h
      · simp only [ok, Option.some.injEq, Prod.mk.injEq] at h
        obtain ⟨_, rfl⟩ := h
        exact ⟨_, rfl, fun w' => binRun_of eqGuard_bool (by simp only [Go.binOp, Sem.run_bind, he, Result.andThen_ok, Sem.run_pure]; rfl)⟩
      · simp only [ok, Option.some.injEq, Prod.mk.injEq] at h
        obtain ⟨_, rfl⟩ := h
        exact ⟨_, rfl, fun w' => binRun_of eqGuard_bool (by simp only [Go.binOp, Sem.run_bind, he, Result.andThen_ok, Sem.run_pure]; rfl)⟩
      · cases h
    · rename_i el hsl
      have hq : ∀ (A : Option Addr) (n d : Nat) w', (Op.equal t (.slice A n d) (.slice none 0 0)).run P w' = .ok A.isNone w' := fun A n d w' => run_equalIn_nilsl 9999 hsl A n d w'
      split at h
      · rename_i xs _ _ _
        obtain ⟨_, hz, bo, _, ho⟩ := ha
        obtain rfl : v = _ := hb
        obtain ⟨hbo, us, hrow, _, _⟩ := ho
        obtain ⟨A, d, rfl, _, _, _⟩ := own_max hrow
        have hA : A.isNone = eqI (lenL (xs e)) 0 := by
          by_cases h0 : (xs e).length = 0
          · have h1 := hz rfl (List.eq_nil_of_length_eq_zero h0)
            simp only [Value.slice.injEq] at h1
            rw [h1.1]
            simp [eqI, lenL, h0]
          · cases A with
            | none => exact absurd (own_none hrow rfl) h0
            | some ad => simp [eqI, lenL, h0]
        split at h
        · simp only [ok, Option.some.injEq, Prod.mk.injEq] at h
          obtain ⟨_, rfl⟩ := h
          exact ⟨.bool (eqI (lenL (xs e)) 0), rfl, fun w' => binRun_of eqGuard_slice (by simp only [Go.binOp, Sem.run_bind, hq, Result.andThen_ok, Sem.run_pure, hA])⟩
        · simp only [ok, Option.some.injEq, Prod.mk.injEq] at h
          obtain ⟨_, rfl⟩ := h
          exact ⟨.bool (neI (lenL (xs e)) 0), rfl, fun w' => binRun_of eqGuard_slice (by simp only [Go.binOp, Sem.run_bind, hq, Result.andThen_ok, Sem.run_pure, hA]; rfl)⟩
        · cases h
      · rename_i xs _ _ _
        obtain ⟨_, hz, bo, _, ho⟩ := ha
        obtain rfl : v = _ := hb
        obtain ⟨hbo, us, hrow, _, _⟩ := ho
        obtain ⟨A, d, rfl, _, _, _⟩ := own_max hrow
        have hA : A.isNone = eqI (lenL (xs e)) 0 := by
          by_cases h0 : (xs e).length = 0
          · have h1 := hz rfl (List.eq_nil_of_length_eq_zero h0)
            simp only [Value.slice.injEq] at h1
            rw [h1.1]
            simp [eqI, lenL, h0]
          · cases A with
            | none => exact absurd (own_none hrow rfl) h0
            | some ad => simp [eqI, lenL, h0]
        split at h
        · simp only [ok, Option.some.injEq, Prod.mk.injEq] at h
          obtain ⟨_, rfl⟩ := h
          exact ⟨.bool (eqI (lenL (xs e)) 0), rfl, fun w' => binRun_of eqGuard_slice (by simp only [Go.binOp, Sem.run_bind, hq, Result.andThen_ok, Sem.run_pure, hA])⟩
        · simp only [ok, Option.some.injEq, Prod.mk.injEq] at h
          obtain ⟨_, rfl⟩ := h
          exact ⟨.bool (neI (lenL (xs e)) 0), rfl, fun w' => binRun_of eqGuard_slice (by simp only [Go.binOp, Sem.run_bind, hq, Result.andThen_ok, Sem.run_pure, hA]; rfl)⟩
        · cases h
      · obtain rfl : u = _ := ha
        obtain rfl : v = _ := hb
        split at h
        · simp only [ok, Option.some.injEq, Prod.mk.injEq] at h
          obtain ⟨_, rfl⟩ := h
          exact ⟨.bool true, rfl, fun w' => binRun_of eqGuard_slice (by simp only [Go.binOp, Sem.run_bind, hq, Result.andThen_ok, Sem.run_pure]; rfl)⟩
        · simp only [ok, Option.some.injEq, Prod.mk.injEq] at h
          obtain ⟨_, rfl⟩ := h
          exact ⟨.bool false, rfl, fun w' => binRun_of eqGuard_slice (by simp only [Go.binOp, Sem.run_bind, hq, Result.andThen_ok, Sem.run_pure]; rfl)⟩
        · cases h
      · cases h
    · cases h
theorem pick_run {c a b : AV E} {cc : Option (E → Bool)} {av : AV E} {vc va vb : Value} (h : pickOut c a b = some (cc, av)) (hc : c.Rel G w e vc) (ha : a.Rel G w e va) (hb : b.Rel G w e vb) :
    ∃ bl r, vc = .bool bl ∧ (if bl then va else vb) = r ∧ av.Rel G w e r := by
  unfold pickOut at h
  split at h
  · simp only [ok, Option.some.injEq, Prod.mk.injEq] at h
    obtain ⟨_, rfl⟩ := h
    exact ⟨true, _, hc, rfl, ha⟩
  · simp only [ok, Option.some.injEq, Prod.mk.injEq] at h
    obtain ⟨_, rfl⟩ := h
    exact ⟨false, _, hc, rfl, hb⟩
  · rename_i x
    obtain rfl : vc = _ := (List.cons.inj hc).1
    split at h
    · rename_i t y
      rw [Option.map_eq_some_iff] at h
      obtain ⟨z, hz, h⟩ := h
      simp only [Prod.mk.injEq] at h
      obtain ⟨_, rfl⟩ := h
      refine ⟨x e, _, rfl, rfl, ?_⟩
      have h2 := AV.to1_rel hz hb
      show CRel G.Φ w t (iteV t (x e) (y e) (z e)) _
      unfold iteV
      cases x e
      · exact h2
      · exact ha
    · rename_i y
      rw [Option.map_eq_some_iff] at h
      obtain ⟨z, hz, h⟩ := h
      simp only [Prod.mk.injEq] at h
      obtain ⟨_, rfl⟩ := h
      refine ⟨x e, _, rfl, rfl, ?_⟩
      have h2 := AV.to1_rel hz hb
      show CRel G.Φ w .bool (iteV .bool (x e) y (z e)) _
      unfold iteV
      cases x e
      · exact h2
      · rw [show va = _ from ha]; rfl
    · cases h
  · cases h
theorem pickAt_rel {t : Ty} : ∀ {cs : List (AV E)} {xs : E → List t.den} {us : List Value}, pickAt t cs = some xs → AV.Rels G w e cs us → (xs e).length = us.length ∧ ∀ (j : Nat) (x : t.den), (xs e)[j]? = some x → ∃ u, us[j]? = some u ∧ CRel G.Φ w t x [u]
  | [], xs, us, h, hr => by
    simp only [pickAt, Option.some.injEq] at h
    subst h
    rw [show us = [] from hr]
    exact ⟨rfl, fun j x hj => by simp at hj⟩
  | c :: cs, xs, us, h, hr => by
    simp only [pickAt, Option.bind_eq_some_iff] at h
    obtain ⟨y, hy, z, hz, h⟩ := h
    obtain rfl := Option.some.inj h
    obtain ⟨u, r, rfl, h1, h2⟩ := hr
    obtain ⟨hl, hcells⟩ := pickAt_rel hz h2
    refine ⟨by simp [hl], fun j x hj => ?_⟩
    cases j with
    | zero =>
      simp only [List.getElem?_cons_zero, Option.some.injEq] at hj
      subst hj
      exact ⟨u, rfl, AV.to1_rel hy h1⟩
    | succ j => exact hcells j x (by simpa using hj)
theorem index_run {t : TypeId} {a i : AV E} {c : Option (E → Bool)} {av : AV E} {v u : Value} (h : indexOut P t a i = some (c, av)) (hc : ∀ f, c = some f → f e = true) (hr : a.Rel G w e v) (hi : i.Rel G w e u) :
    ∃ r, av.Rel G w e r ∧ ∀ w', (Instr.index t v u).run P w' = .ok r w' := by
  unfold indexOut at h
  split at h
  · rename_i x j hj
    split at h
    · rename_i hs
      simp only [okIf, Option.some.injEq, Prod.mk.injEq] at h
      obtain ⟨rfl, rfl⟩ := h
      obtain rfl : v = _ := (List.cons.inj hr).1
      obtain ⟨k, rfl⟩ := int_rel hj hi
      exact ⟨_, rfl, fun w' => index_str (isStrT_spec hs) (hc _ rfl) w'⟩
    · cases h
  · rename_i cs j hj
    split at h
    · rename_i m el hu
      split at h
      · rename_i hck
        simp only [Bool.and_eq_true, decide_eq_true_eq, Bool.not_eq_true'] at hck
        obtain ⟨⟨⟨hm, hsz⟩, hag⟩, hus⟩ := hck
        simp only [Option.bind_eq_some_iff] at h
        obtain ⟨ty, hty, xs, hxs, h⟩ := h
        simp only [okIf, Option.some.injEq, Prod.mk.injEq] at h
        obtain ⟨rfl, rfl⟩ := h
        have hb := hc _ rfl
        rw [inB_iff] at hb
        obtain ⟨us, rfl, hrs⟩ := hr
        obtain ⟨k, rfl⟩ := int_rel hj hi
        obtain ⟨hl, hcell⟩ := pickAt_rel hxs hrs
        have hlen := hrs.length
        have hlt : (j e).toNat < (xs e).length := by omega
        obtain ⟨u, hu1, hu2⟩ := hcell _ _ (List.getElem?_eq_getElem hlt)
        have hul : (P.underlying el).isNone = false := by cases hh : P.underlying el with
          | none => rw [hh] at hus; cases hus
          | some _ => rfl
        refine ⟨u, ?_, fun w' => ?_⟩
        · show CRel G.Φ w ty (elT ty (xs e) (j e)) [u]
          have : elT ty (xs e) (j e) = (xs e)[(j e).toNat] := by unfold elT; rw [List.getD_eq_getElem?_getD, List.getElem?_eq_getElem hlt]; rfl
          rw [this]; exact hu2
        · have hu3 : us[(j e).toNat]? = some u := by rw [← Array.getElem?_toList]; exact hu1
          have hsr := sizeT_run hul w'
          rw [hsz] at hsr
          simp [Instr.index, asIntOf, run_underlying hu, hb.1, hb.2, hsr, part, isAgg_run hul, hag, hu3]
      · cases h
    · cases h
  · cases h
theorem foldInt_run {f : Int → Int → Int} {g : Value → Value → Sem Value} (hg : ∀ k x k' y (w' : World), (g (.int k x) (.int k' y)).run P w' = .ok (.int k (f x y)) w') {k : IntKind} :
    ∀ {cs : List (AV E)} {x y : E → Int} {us : List Value}, foldInt f k x cs = some y → AV.Rels G w e cs us → ∀ w', (us.foldlM g (.int k (x e))).run P w' = .ok (.int k (y e)) w'
  | [], x, y, us, h, hr, w' => by
    simp only [foldInt, Option.some.injEq] at h
    subst h
    rw [show us = [] from hr]
    simp
  | c :: cs, x, y, us, h, hr, w' => by
    unfold foldInt at h
    split at h
    · rename_i heq; cases heq
    · rename_i k' z r heq
      cases heq
      split at h
      · obtain ⟨u, r, rfl, h1, h2⟩ := hr
        obtain rfl : u = _ := (List.cons.inj h1).1
        rw [List.foldlM_cons, Sem.run_bind, hg, Result.andThen_ok]
        exact foldInt_run hg h h2 w'
      · cases h
    · cases h
theorem minMax_run {f : Int → Int → Int} {g : Value → Value → Sem Value} (hg : ∀ k x k' y (w' : World), (g (.int k x) (.int k' y)).run P w' = .ok (.int k (f x y)) w') {cs : List (AV E)} {c : Option (E → Bool)} {av : AV E} {us : List Value} (h : minMax f cs = some (c, av)) (hr : AV.Rels G w e cs us) :
    ∃ r x rest, us = x :: rest ∧ av.Rel G w e r ∧ ∀ w', (rest.foldlM g x).run P w' = .ok r w' := by
  unfold minMax at h
  split at h
  · rename_i k x r
    rw [Option.map_eq_some_iff] at h
    obtain ⟨y, hy, h⟩ := h
    simp only [Prod.mk.injEq] at h
    obtain ⟨_, rfl⟩ := h
    obtain ⟨u, rr, rfl, h1, h2⟩ := hr
    obtain rfl : u = _ := (List.cons.inj h1).1
    exact ⟨_, _, _, rfl, rfl, fun w' => foldInt_run hg hy h2 w'⟩
  · cases h
theorem min2_run (k : IntKind) (x : Int) (k' : IntKind) (y : Int) (w' : World) : (Builtin.min2 (.int k x) (.int k' y)).run P w' = .ok (.int k (minI x y)) w' := by simp [Builtin.min2, minI]
theorem max2_run (k : IntKind) (x : Int) (k' : IntKind) (y : Int) (w' : World) : (Builtin.max2 (.int k x) (.int k' y)).run P w' = .ok (.int k (maxI x y)) w' := by simp [Builtin.max2, maxI]
/-! ### structs out of parts -/
theorem putCells_rel : ∀ (vs : List Value) (k : Nat) (ds cs : List (AV E)) (us : Array Value) (off : Nat), AV.Rels G w e ds vs → AV.Rels G w e cs us.toList →
    AV.Rels G w e (putCells cs (off + k) ds) ((vs.zipIdx k).foldl (fun (a : Array Value) (p : Value × Nat) => a.setIfInBounds (off + p.2) p.1) us).toList
  | [], k, ds, cs, us, off, h, hc => by
    cases ds with
    | nil => exact hc
    | cons d ds => obtain ⟨u, r, hu, _⟩ := h; cases hu
  | v :: vs, k, ds, cs, us, off, h, hc => by
    cases ds with
    | nil => cases (show v :: vs = [] from h)
    | cons d ds =>
      obtain ⟨u, r, hu, h1, h2⟩ := h
      cases hu
      simp only [List.zipIdx_cons, List.foldl_cons, putCells]
      have := putCells_rel vs (k + 1) ds (cs.set (off + k) d) (us.setIfInBounds (off + k) v) off h2 (by rw [Array.toList_setIfInBounds]; exact hc.set _ h1)
      rw [show off + (k + 1) = off + k + 1 by omega] at this
      exact this
theorem putCells_length : ∀ (ds cs : List (AV E)) (o : Nat), (putCells cs o ds).length = cs.length
  | [], cs, o => rfl
  | d :: ds, cs, o => by unfold putCells; rw [putCells_length ds]; simp
theorem build_fill {place place' : Nat → Option (Nat × Nat)} (hp : place = place') : ∀ {ps : List (Nat × AV E)} {vs : List (Nat × Value)} {cs cs' : List (AV E)} {us : Array Value}, buildGo place cs ps = some cs' → AV.Rels G w e cs us.toList →
    (vs.map (·.1) = ps.map (·.1)) → AV.Rels G w e (ps.map (·.2)) (vs.map (·.2)) → ∃ us', Instr.fill place' us vs = some us' ∧ AV.Rels G w e cs' us'.toList
  | [], vs, cs, cs', us, h, hc, h1, h2 => by
    cases vs with
    | nil =>
      simp only [buildGo, Option.some.injEq] at h
      subst h
      exact ⟨us, rfl, hc⟩
    | cons _ _ => simp at h1
  | (i, d) :: ps, vs, cs, cs', us, h, hc, h1, h2 => by
    cases vs with
    | nil => simp at h1
    | cons iv vs =>
      obtain ⟨i', v⟩ := iv
      simp only [List.map_cons, List.cons.injEq] at h1
      obtain ⟨rfl, h1⟩ := h1
      obtain ⟨u, r, hu, h3, h4⟩ := h2
      cases hu
      unfold buildGo at h
      split at h
      · cases h
      · rename_i off size hpl
        rw [Option.bind_eq_some_iff] at h
        obtain ⟨ds, hds, h⟩ := h
        split at h
        · rename_i hck
          simp only [Bool.and_eq_true, decide_eq_true_eq] at hck
          obtain ⟨hcr, _⟩ := AV.cells_rel hds h3
          have hl1 : v.cells.toList.length = ds.length := hcr.length
          have hl2 := hc.length
          have hput := putCells_rel v.cells.toList 0 ds cs us off hcr hc
          obtain ⟨us', hf, hr'⟩ := build_fill hp (vs := vs) h (us := (v.cells.toList.zipIdx 0).foldl (fun (a : Array Value) (p : Value × Nat) => a.setIfInBounds (off + p.2) p.1) us) (by rw [Nat.add_zero] at hput; exact hput) h1 h4
          refine ⟨us', ?_, hr'⟩
          rw [Array.length_toList] at hl1 hl2
          unfold Instr.fill
          rw [← hp, hpl]
          have hne : ¬ (decide (v.cells.size ≠ size) || decide (off + v.cells.size > us.size)) = true := by
            rw [Bool.or_eq_true, decide_eq_true_eq, decide_eq_true_eq]; omega
          simp only []
          rw [if_neg hne]
          rw [← hf]
          congr 1
          rw [← Array.foldl_toList, Array.toList_zipIdx]
        · cases h
theorem zero_run {t : TypeId} {z : Array Value} (h : zeroCells P t = some z) (w' : World) : ∃ v, v.cells = z ∧ (zeroValue t).run P w' = .ok v w' := by
  unfold zeroCells at h
  rw [Option.map_eq_some_iff] at h
  obtain ⟨v, hv, hz⟩ := h
  rw [Option.bind_eq_some_iff] at hv
  obtain ⟨i, hi, hiz⟩ := hv
  exact ⟨v, hz, by simp [zeroValue, typeInfo, hi, hiz]⟩
theorem places_all : ∀ (l : List Field), (l.all fun f => (P.info? f.type).isSome) = true → (l.mapM fun f => (P.info? f.type).map fun i => (f.offset, i.size)) = some (l.map fun f => (f.offset, sizeT P f.type))
  | [], _ => by simp
  | f :: l, h => by
    rw [List.all_cons, Bool.and_eq_true] at h
    obtain ⟨i, hi⟩ := Option.isSome_iff_exists.1 h.1
    have hs : sizeT P f.type = i.size := by simp [sizeT, Program.cellsOf, hi]
    simp [List.mapM_cons, hi, places_all l h.2, hs]
theorem zero_some {t : TypeId} {z : Array Value} (h : zeroCells P t = some z) : ∃ i v, P.info? t = some i ∧ i.zero = some v ∧ v.cells = z := by
  unfold zeroCells at h
  rw [Option.map_eq_some_iff] at h
  obtain ⟨v, hv, hz⟩ := h
  rw [Option.bind_eq_some_iff] at hv
  obtain ⟨i, hi, hiz⟩ := hv
  exact ⟨i, v, hi, hiz, hz⟩
theorem build_run {t : TypeId} {ps : List (Nat × AV E)} {vs : Array (Nat × Value)} {c : Option (E → Bool)} {av : AV E} (h : buildOut P t ps = some (c, av)) (h1 : vs.toList.map (·.1) = ps.map (·.1)) (h2 : AV.Rels G w e (ps.map (·.2)) (vs.toList.map (·.2))) :
    ∃ r, av.Rel G w e r ∧ ∀ w', (Instr.build t vs).run P w' = .ok r w' := by
  unfold buildOut at h
  rw [Option.bind_eq_some_iff] at h
  obtain ⟨z, hz, h⟩ := h
  have hzr : AV.Rels G w e (z.toList.map constAV) z.toList := consts_rel _
  obtain ⟨it, zv, hit, hiz, hzc⟩ := zero_some hz
  split at h
  · rename_i fs hu
    split at h
    · rename_i hall
      rw [Option.map_eq_some_iff] at h
      obtain ⟨cs, hcs, h⟩ := h
      simp only [Prod.mk.injEq] at h
      obtain ⟨_, rfl⟩ := h
      obtain ⟨us, hf, hr⟩ := build_fill (place' := fun i => (fs.toList.map fun f => (f.offset, sizeT P f.type)).toArray[i]?) (by funext i; simp) hcs hzr h1 h2
      refine ⟨.agg us, ⟨us, rfl, hr⟩, fun w' => run_build w' t vs us ?_⟩
      simp only [Program.built, hit, hu, hiz, places_all fs.toList hall, hzc]
      exact hf
    · cases h
  · rename_i m el hu
    split at h
    · rename_i hi
      rw [Option.map_eq_some_iff] at h
      obtain ⟨cs, hcs, h⟩ := h
      simp only [Prod.mk.injEq] at h
      obtain ⟨_, rfl⟩ := h
      obtain ⟨us, hf, hr⟩ := build_fill rfl hcs hzr h1 h2
      obtain ⟨ie, hie⟩ := Option.isSome_iff_exists.1 hi
      have hs : sizeT P el = ie.size := by simp [sizeT, Program.cellsOf, hie]
      rw [hs] at hf
      refine ⟨.agg us, ⟨us, rfl, hr⟩, fun w' => run_build w' t vs us ?_⟩
      simp only [Program.built, hit, hu, hiz, hie, hzc]
      exact hf
    · cases h
  · cases h
end Go.Proofs.YtmmbedlegmbppaaDoor.R
/- Maps: what is found in them, and put into them. -/
namespace Go.Proofs.YtmmbedlegmbppaaDoor.R
open Go Go.RowKit
set_option linter.unusedVariables false
set_option linter.unusedSimpArgs false
variable {E : Type} {G : Gh} {w : World} {e : E} {P : Program} {n : Nat → Prop}
/-- What a map's block holds. -/
def MapIs (Φ : Fz) (w : World) (kd vd : Ty) : List (kd.den × vd.den) → List MapEntry → Prop
  | [], ens => ens = []
  | p :: r, ens => ∃ en rest, ens = en :: rest ∧ VRel Φ w kd p.1 en.key ∧ VRel Φ w vd p.2 en.val ∧ MapIs Φ w kd vd r rest
theorem MapIs.of_ents {Φ : Fz} {kd vd : Ty} : ∀ {l : List (kd.den × vd.den)} {ens : List MapEntry}, EntsRel Φ w kd vd l (ens.map fun en => .agg #[en.key, en.val]) → MapIs Φ w kd vd l ens
  | [], ens, h => by
    have h' : ens.map (fun en => Value.agg #[en.key, en.val]) = [] := h
    exact List.map_eq_nil_iff.1 h'
  | p :: r, ens, h => by
    obtain ⟨k, v, rest, h0, h1, h2, h3⟩ := h
    cases ens with
    | nil => simp at h0
    | cons en ens =>
      simp only [List.map_cons, List.cons.injEq, Value.agg.injEq] at h0
      obtain ⟨h4, rfl⟩ := h0
      have h5 := congrArg Array.toList h4
      simp only [List.cons.injEq, and_true] at h5
      obtain ⟨rfl, rfl⟩ := h5
      exact ⟨en, ens, rfl, h1, h2, MapIs.of_ents h3⟩
theorem MapIs.ents {Φ : Fz} {kd vd : Ty} : ∀ {l : List (kd.den × vd.den)} {ens : List MapEntry}, MapIs Φ w kd vd l ens → EntsRel Φ w kd vd l (ens.map fun en => .agg #[en.key, en.val])
  | [], ens, h => by rw [show ens = [] from h]; exact rfl
  | p :: r, ens, h => by
    obtain ⟨en, rest, rfl, h1, h2, h3⟩ := h
    exact ⟨_, _, _, rfl, h1, h2, h3.ents⟩
theorem CK.to_val {kd : Ty} {c : CK} {y : kd.den} (h : c.to kd = some y) {Φ : Fz} : VRel Φ w kd y c.val := by
  cases c <;> (simp only [CK.to] at h; split at h <;> first | cases h | skip) <;> (rename_i hk; subst hk; exact rfl)
theorem MapIs.of_keys {kd vd : Ty} : ∀ {ks : List CK} {vs : List (AV E)} {x : E → List (kd.den × vd.den)} {ens : List MapEntry}, entsOf kd vd ks vs = some x → ens.map (·.key) = ks.map CK.val → AV.Rels G w e vs (ens.map (·.val)) → MapIs G.Φ w kd vd (x e) ens
  | [], vs, x, ens, h, hk, hv => by
    cases vs with
    | nil =>
      simp only [entsOf, Option.some.injEq] at h
      subst h
      exact List.map_eq_nil_iff.1 hk
    | cons v vs => simp [entsOf] at h
  | k :: ks, vs, x, ens, h, hk, hv => by
    cases vs with
    | nil => simp [entsOf] at h
    | cons v vs =>
      simp only [entsOf, Option.bind_eq_some_iff] at h
      obtain ⟨y, hy, u, hu, r, hr, h⟩ := h
      obtain rfl := Option.some.inj h
      cases ens with
      | nil => simp at hk
      | cons en ens =>
        simp only [List.map_cons, List.cons.injEq] at hk
        obtain ⟨u', r', he, h1, h2⟩ := hv
        simp only [List.map_cons, List.cons.injEq] at he
        obtain ⟨rfl, rfl⟩ := he
        exact ⟨en, ens, rfl, by rw [hk.1]; exact CK.to_val hy, AV.to_rel (x := u) hu h1, MapIs.of_keys hr hk.2 h2⟩
/-- Simple kinds of keys. -/
theorem beq_bytes (a b : ByteArray) : (a == b) = (a.toList == b.toList) := by
  have h : (a == b) = (a.data == b.data) := by cases a; cases b; rfl
  rw [h, ByteArray.toList_eq, ByteArray.toList_eq]
  rw [Bool.eq_iff_iff, beq_iff_eq, beq_iff_eq]
  exact ⟨fun h => by rw [h], fun h => Array.ext' h⟩
theorem sb_int (n : Nat) (k : IntKind) (a : Int) : Instr.sameBits n (.int k a) (.int k a) = true := by cases n <;> simp [Instr.sameBits]
theorem sb_bool (n : Nat) (a : Bool) : Instr.sameBits n (.bool a) (.bool a) = true := by cases n <;> simp [Instr.sameBits]
theorem bytes_ext (a b : ByteArray) (h : (a == b) = true) : a = b := by
  rw [beq_bytes, beq_iff_eq, ByteArray.toList_eq, ByteArray.toList_eq] at h
  cases a; cases b
  congr 1
  exact Array.ext' h
theorem sb_str (n : Nat) (a : ByteArray) : Instr.sameBits n (.string a) (.string a) = true := by
  have : (a == a) = true := by rw [beq_bytes]; simp
  cases n <;> simp [Instr.sameBits, this]
theorem key_now {Φ : Fz} {kt : TypeId} {kd : Ty} (h : keyTy P kt = some kd) : ∃ d, P.underlying kt = some d ∧ (∀ (y z : kd.den) (u v : Value), VRel Φ w kd y u → VRel Φ w kd z v → Instr.sameNow d u v = some (eqD kd y z) ∧ (eqD kd y z = true → y = z ∧ Instr.sameBits 10000 v u = true)) ∧
    (∀ (y : kd.den) (u : Value) (b : Bool), VRel Φ w kd y u → ∀ w', (Instr.checkKey b 10000 kt u).run P w' = .ok () w') := by
  unfold keyTy at h
  split at h <;> first | cases h | skip
  · rename_i k hk
    refine ⟨_, hk, ?_, ?_⟩
    · intro y z u v hu hv
      obtain rfl : u = _ := (List.cons.inj (show [u] = [Value.int k y] from hu)).1
      obtain rfl : v = _ := (List.cons.inj (show [v] = [Value.int k z] from hv)).1
      refine ⟨by simp [Instr.sameNow, eqD, eqI], fun he => ?_⟩
      have hyz : y = z := by simpa [eqD, eqI] using he
      subst hyz
      exact ⟨rfl, sb_int _ _ _⟩
    · intro y u b hu w'
      obtain rfl : u = _ := (List.cons.inj (show [u] = [Value.int k y] from hu)).1
      exact MapKept.run_checkKey hk (by simp [MapKept.IsKey]) b 9999
  · rename_i hk
    refine ⟨_, hk, ?_, ?_⟩
    · intro y z u v hu hv
      obtain rfl : u = _ := (List.cons.inj (show [u] = [Value.bool y] from hu)).1
      obtain rfl : v = _ := (List.cons.inj (show [v] = [Value.bool z] from hv)).1
      refine ⟨by simp [Instr.sameNow, eqD, eqB], fun he => ?_⟩
      have hyz : y = z := by simpa [eqD, eqB] using he
      subst hyz
      exact ⟨rfl, sb_bool _ _⟩
    · intro y u b hu w'
      obtain rfl : u = _ := (List.cons.inj (show [u] = [Value.bool y] from hu)).1
      exact MapKept.run_checkKey hk (by simp [MapKept.IsKey]) b 9999
  · rename_i hk
    refine ⟨_, hk, ?_, ?_⟩
    · intro y z u v hu hv
      obtain rfl : u = _ := (List.cons.inj (show [u] = [Value.string y] from hu)).1
      obtain rfl : v = _ := (List.cons.inj (show [v] = [Value.string z] from hv)).1
      refine ⟨by simp [Instr.sameNow, eqD, eqS, beq_bytes], fun he => ?_⟩
      have hyz : y = z := bytes_ext y z (by rw [beq_bytes]; simpa [eqD, eqS] using he)
      subst hyz
      exact ⟨rfl, sb_str _ _⟩
    · intro y u b hu w'
      obtain rfl : u = _ := (List.cons.inj (show [u] = [Value.string y] from hu)).1
      exact MapKept.run_checkKey hk (by simp [MapKept.IsKey]) b 9999
/-- The entry of a key. -/
theorem find_run {Φ : Fz} {kd vd : Ty} {d : TypeDesc} (hn : ∀ (y z : kd.den) (u v : Value), VRel Φ w kd y u → VRel Φ w kd z v → Instr.sameNow d u v = some (eqD kd y z) ∧ (eqD kd y z = true → y = z ∧ Instr.sameBits 10000 v u = true)) {y : kd.den} {vk : Value} (hy : VRel Φ w kd y vk) (z : vd.den) :
    ∀ (l : List (kd.den × vd.den)) (ens : List MapEntry) (i : Nat), MapIs Φ w kd vd l ens →
      (Instr.findNow d vk ens i = some none ∧ hasM kd vd l y = false ∧ getM kd vd z l y = z ∧ ∀ u, putM kd vd l y u = l ++ [(y, u)]) ∨
      (∃ j en, Instr.findNow d vk ens i = some (some (i + j, en.val)) ∧ ens[j]? = some en ∧ hasM kd vd l y = true ∧ VRel Φ w vd (getM kd vd z l y) en.val ∧ Instr.sameBits 10000 en.key vk = true ∧
        ∀ (u : vd.den) (vu : Value), VRel Φ w vd u vu → MapIs Φ w kd vd (putM kd vd l y u) (ens.modify j fun e => { e with key := vk, val := vu }))
  | [], ens, i, h => by
    rw [show ens = [] from h]
    exact .inl ⟨rfl, rfl, rfl, fun u => rfl⟩
  | p :: r, ens, i, h => by
    obtain ⟨en, rest, rfl, h1, h2, h3⟩ := h
    obtain ⟨s1, s2⟩ := hn y p.1 vk en.key hy h1
    cases he : eqD kd y p.1 with
    | true =>
      right
      rw [he] at s1
      obtain ⟨hyp, hb⟩ := s2 he
      refine ⟨0, en, by simp only [Instr.findNow, s1]; rfl, rfl, by simp [hasM, he], by simp only [getM, he, if_true]; exact h2, hb, fun u vu hu => ?_⟩
      simp only [putM, he, if_true]
      exact ⟨_, _, rfl, hy, hu, h3⟩
    | false =>
      rw [he] at s1
      rcases find_run hn hy z r rest (i + 1) h3 with ⟨a1, a2, a3, a4⟩ | ⟨j, en', a1, a2, a3, a4, a5, a6⟩
      · left
        refine ⟨by simp only [Instr.findNow, s1]; exact a1, by simp only [hasM, List.any_cons, he, Bool.false_or]; exact a2, by simp only [getM, he]; exact a3, fun u => ?_⟩
        simp only [putM, he, List.cons_append, Bool.false_eq_true, if_false]
        rw [a4 u]
      · right
        refine ⟨j + 1, en', ?_, by simpa using a2, by simp only [hasM, List.any_cons, he, Bool.false_or]; exact a3, by simp only [getM, he]; exact a4, a5, fun u vu hu => ?_⟩
        · simp only [Instr.findNow, s1]
          rw [a1, show i + 1 + j = i + (j + 1) by omega]
        · simp only [putM, he, Bool.false_eq_true, if_false]
          exact ⟨en, _, by rw [List.modify_succ_cons], h1, h2, a6 u vu hu⟩
theorem MapIs.push {Φ : Fz} {kd vd : Ty} {y : kd.den} {u : vd.den} {en : MapEntry} (hy : VRel Φ w kd y en.key) (hu : VRel Φ w vd u en.val) : ∀ {l : List (kd.den × vd.den)} {ens : List MapEntry}, MapIs Φ w kd vd l ens → MapIs Φ w kd vd (l ++ [(y, u)]) (ens ++ [en])
  | [], ens, h => by rw [show ens = [] from h]; exact ⟨en, [], rfl, hy, hu, rfl⟩
  | p :: r, ens, h => by
    obtain ⟨en', rest, rfl, h1, h2, h3⟩ := h
    exact ⟨en', _, rfl, h1, h2, h3.push hy hu⟩
theorem zeroAV_run {t : TypeId} {a : AV E} (h : zeroAV P t = some a) : ∃ v, a.Rel G w e v ∧ ∀ w', (zeroValue t).run P w' = .ok v w' := by
  unfold zeroAV at h
  rw [Option.map_eq_some_iff] at h
  obtain ⟨v, hv, rfl⟩ := h
  rw [Option.bind_eq_some_iff] at hv
  obtain ⟨i, hi, hiz⟩ := hv
  exact ⟨v, const_rel v, fun w' => by simp [zeroValue, typeInfo, hi, hiz]⟩
theorem ents_rel {s : St E} {b : Nat} {kd : Ty} {et : TypeId} {v : EV E kd} (h : entsAt P s b kd et = some v) (hb : BlksRel G w e s.blocks) : ∃ ens clk, w.heap[G.ρ b]? = some (.map ens clk) ∧ MapIs G.Φ w kd v.vd (v.x e) ens.toList ∧ Live s.blocks b ∧ BornOK ens clk := by
  unfold entsAt at h
  split at h
  · rename_i kd' vd x hbk
    split at h
    · rename_i hk
      subst hk
      obtain rfl := Option.some.inj h
      obtain ⟨us, ⟨ens, clk, hm, rfl, hbo⟩, hus, _⟩ := hb b _ hbk
      obtain ⟨u, r, hu, ⟨us', hv, h1⟩, _⟩ := hus
      obtain ⟨rfl, _⟩ := List.cons.inj hu
      simp only [Value.agg.injEq] at hv
      rw [← hv, Array.toList_map] at h1
      exact ⟨ens, clk, hm, MapIs.of_ents h1, ⟨_, _, hbk⟩, hbo⟩
    · cases h
  · rename_i mt ks vs hbk
    simp only [Option.bind_eq_some_iff, Option.map_eq_some_iff] at h
    obtain ⟨vd, hvd, x, hx, rfl⟩ := h
    obtain ⟨us, ⟨ens, clk, hm, hks, rfl, hbo⟩, hus, _⟩ := hb b _ hbk
    exact ⟨ens, clk, hm, MapIs.of_keys hx hks hus, ⟨_, _, hbk⟩, hbo⟩
  · cases h
theorem to_vrel {u : Ty} {a : AV E} {x : E → u.den} {v : Value} (h : a.to u = some x) (hr : a.Rel G w e v) : VRel G.Φ w u (x e) v := AV.to_rel h hr
theorem look_run {s : St E} {t : TypeId} {a k : AV E} {two : Bool} {c : Option (E → Bool)} {av : AV E} {va vk : Value} (h : lookOut P s t a k two = some (c, av)) (ha : a.Rel G w e va) (hk : k.Rel G w e vk) (hb : BlksRel G w e s.blocks) (hX : ∀ b, Live s.blocks b → n b) :
    ∃ r, av.Rel G w e r ∧ ∀ w', Same G n w w' → (Instr.lookup t va vk two).run P w' = .ok r w' := by
  unfold lookOut at h
  split at h
  · rename_i kt et b hu
    simp only [Option.bind_eq_some_iff] at h
    obtain ⟨kd, hkd, v, hv, y, hy, z, hz, d, hd, h⟩ := h
    simp only [ok, Option.some.injEq, Prod.mk.injEq] at h
    obtain ⟨_, rfl⟩ := h
    obtain ⟨_, rfl⟩ := ha
    obtain ⟨ens, clk, hm, hmi, hl, _⟩ := ents_rel hv hb
    obtain ⟨zv, hzr, hzrun⟩ := zeroAV_run (G := G) (w := w) (e := e) hz
    obtain ⟨dd, hdd, hnow, hck⟩ := key_now (P := P) (w := w) (Φ := G.Φ) hkd
    have hyr := to_vrel hy hk
    have hzd := to_vrel hd hzr
    have hm' : ∀ w', Same G n w w' → w'.heap[G.ρ b]? = some (.map ens clk) := fun w' hs => (hs.blk b (hX b hl)).trans hm
    rcases find_run hnow hyr (d e) (v.x e) ens.toList 0 hmi with ⟨a1, a2, a3, _⟩ | ⟨j, en, a1, _, a3, a4, _, _⟩
    · have hr : (AV.of v.vd fun e => getM kd v.vd (d e) (v.x e) (y e)).Rel G w e zv := AV.of_rel (x := fun e => getM kd v.vd (d e) (v.x e) (y e)) (by rw [a3]; exact hzd)
      cases two with
      | false => exact ⟨zv, hr, fun w' hs => by simp [Instr.lookup, run_underlying hu, MapKept.run_getObj_map (hm' w' hs), hck _ _ _ hyr w', MapKept.run_findKey hdd a1, hzrun w']⟩
      | true => exact ⟨.tuple #[zv, .bool false], ⟨_, rfl, zv, _, rfl, hr, _, _, rfl, (by show [Value.bool false] = [Value.bool (hasM kd v.vd (v.x e) (y e))]; rw [a2]), rfl⟩, fun w' hs => by simp [Instr.lookup, run_underlying hu, MapKept.run_getObj_map (hm' w' hs), hck _ _ _ hyr w', MapKept.run_findKey hdd a1, hzrun w']⟩
    · have hr : (AV.of v.vd fun e => getM kd v.vd (d e) (v.x e) (y e)).Rel G w e en.val := AV.of_rel (x := fun e => getM kd v.vd (d e) (v.x e) (y e)) a4
      cases two with
      | false => exact ⟨en.val, hr, fun w' hs => by simp [Instr.lookup, run_underlying hu, MapKept.run_getObj_map (hm' w' hs), hck _ _ _ hyr w', MapKept.run_findKey hdd a1]⟩
      | true => exact ⟨.tuple #[en.val, .bool true], ⟨_, rfl, en.val, _, rfl, hr, _, _, rfl, (by show [Value.bool true] = [Value.bool (hasM kd v.vd (v.x e) (y e))]; rw [a3]), rfl⟩, fun w' hs => by simp [Instr.lookup, run_underlying hu, MapKept.run_getObj_map (hm' w' hs), hck _ _ _ hyr w', MapKept.run_findKey hdd a1]⟩
  · cases h
end Go.Proofs.YtmmbedlegmbppaaDoor.R
/- An operation that leaves the world alone does what the compiler says. -/
namespace Go.Proofs.YtmmbedlegmbppaaDoor.R
open Go Go.RowKit
set_option linter.unusedVariables false
set_option linter.unusedSimpArgs false
variable {E : Type} {G : Gh} {w : World} {e : E} {P : Program} {n : Nat → Prop}
theorem yld_value {r : Sem Value} {v : Value} (h : ∀ w', Same G n w w' → r.run P w' = .ok v w') : Yld P G n w (do pure (.value (← r))) v := fun w' hs => by
  simp only [Sem.run_bind, h w' hs, Result.andThen_ok, Sem.run_pure]
def readsOwn (s : St E) (o : Op) : Bool := match o with
  | .load _ x => match s.ev x with
    | .ptr _ _ => true
    | _ => false
  | .lookup .. => true
  | _ => false
set_option maxHeartbeats 1000000 in
theorem iface_run {s : St E} {a : Act} {op : BinOp} {xt : TypeId} {x y : Operand} {c : Option (E → Bool)} {av : AV E} (h : ifaceOut P s op xt x y = some (c, av)) (ht : EnvRel G w e s.tmps a.tmps) :
    ∃ r, av.Rel G w e r ∧ ∀ w', (binRun op xt x y (a.eval x) (a.eval y)).run P w' = .ok (.value r) w' := by
  unfold ifaceOut at h
  split at h
  rotate_left
  · cases h
  rename_i ms hu
  rw [Option.bind_eq_some_iff] at h
  obtain ⟨f, hf, h⟩ := h
  obtain ⟨v, hv, hcase⟩ := AV.to1_rel hf (ev_rel ht x)
  have hv' : a.eval x = v := (List.cons.inj hv).1
  have hy : a.eval (.const .nilIface) = .nilIface := rfl
  rw [hv', hy]
  have hg : ∀ w', (eqGuard op xt x (.const .nilIface) v .nilIface).run P w' = .ok () w' := by
    intro w'
    unfold eqGuard
    rcases hcase with ⟨_, rfl⟩ | ⟨_, t, u, rfl⟩ <;> cases op <;> simp
  have he : ∀ w', (Op.equal xt v .nilIface).run P w' = .ok (f e) w' := by
    intro w'
    have hun := run_underlying hu w'
    rcases hcase with ⟨hft, rfl⟩ | ⟨hft, t, u, rfl⟩
    · rw [hft]
      show (Op.equalIn (9999 + 1) xt _ _).run P w' = _
      unfold Op.equalIn
      simp [hun]
    · rw [hft]
      show (Op.equalIn (9999 + 1) xt _ _).run P w' = _
      unfold Op.equalIn
      simp [hun]
  split at h
  · simp only [ok, Option.some.injEq, Prod.mk.injEq] at h
    obtain ⟨_, rfl⟩ := h
    refine ⟨.bool (f e), rfl, fun w' => binRun_of (hg w') ?_⟩
    have := he w'
    rcases hcase with ⟨_, rfl⟩ | ⟨_, t, u, rfl⟩ <;> simp only [Go.binOp, Sem.run_bind, this, Result.andThen_ok, Sem.run_pure]
  · simp only [ok, Option.some.injEq, Prod.mk.injEq] at h
    obtain ⟨_, rfl⟩ := h
    refine ⟨.bool (notB (f e)), rfl, fun w' => binRun_of (hg w') ?_⟩
    have := he w'
    rcases hcase with ⟨_, rfl⟩ | ⟨_, t, u, rfl⟩ <;> simp only [Go.binOp, Sem.run_bind, this, Result.andThen_ok, Sem.run_pure, notB]
  · cases h
theorem quiet_sound {s : St E} {o : Oper} {c : Option (E → Bool)} {av : AV E} {a : Act} (h : quiet P s o.op = some (c, av)) (hc : ∀ f, c = some f → f e = true) (ht : EnvRel G w e s.tmps a.tmps) (hb : BlksRel G w e s.blocks) (hX : readsOwn s o.op = true → ∀ b, Live s.blocks b → n b) :
    ∃ v, av.Rel G w e v ∧ Yld P G n w (execOp a.eval o) v := by
  have ev := ev_rel ht
  have evs := evs_rel ht
  obtain ⟨dst, op, type, pos, after, guard⟩ := o
  simp only at h
  unfold quiet at h
  split at h
  case h_1 x =>
    simp only [ok, Option.some.injEq, Prod.mk.injEq] at h
    obtain ⟨_, rfl⟩ := h
    exact ⟨_, ev x, fun w' _ => rfl⟩
  case h_2 x =>
    simp only [ok, Option.some.injEq, Prod.mk.injEq] at h
    obtain ⟨_, rfl⟩ := h
    exact ⟨_, ev x, fun w' _ => rfl⟩
  case h_3 x y z =>
    obtain ⟨bl, r, h1, h2, h3⟩ := pick_run h (ev x) (ev y) (ev z)
    refine ⟨r, h3, fun w' _ => ?_⟩
    simp only [execOp, h1, asBool, Sem.run_bind, Sem.run_pure, Result.andThen_ok, ← h2]
  case h_4 t x =>
    obtain ⟨r, h1, h2⟩ := load_run (n := n) h (ev x) hb (fun b o' hx => hX (by simp only [readsOwn, hx]))
    exact ⟨r, h1, yld_value h2⟩
  case h_5 op t x y yt =>
    split at h
    · rename_i c' hi
      obtain rfl := Option.some.inj h
      obtain ⟨r, h1, h2⟩ := iface_run hi ht
      exact ⟨r, h1, fun w' _ => h2 w'⟩
    · obtain ⟨r, h1, h2⟩ := bin_run (x := x) (y := y) h hc (ev x) (ev y)
      exact ⟨r, h1, fun w' _ => h2 w'⟩
  case h_6 op t x =>
    obtain ⟨r, h1, h2⟩ := un_run h (ev x)
    exact ⟨r, h1, yld_value fun w' _ => h2 w'⟩
  case h_7 t u x =>
    obtain ⟨r, h1, h2⟩ := conv_run (n := n) h (ev x)
    exact ⟨r, h1, yld_value h2⟩
  case h_8 t x lo hi mx =>
    have one : ∀ (y : Option Operand) (z : AV E), y.map s.ev = some z → ∃ v, y.map a.eval = some v ∧ z.Rel G w e v := by
      intro y z hz
      cases y with
      | none => cases hz
      | some y => simp only [Option.map_some, Option.some.injEq] at hz; subst hz; exact ⟨_, rfl, ev y⟩
    have zero : ∀ (y : Option Operand), y.map s.ev = none → y.map a.eval = none := by
      intro y hz
      cases y with
      | none => rfl
      | some y => cases hz
    obtain ⟨r, h1, h2⟩ := slice_run h hc (ev x) (one lo) (zero lo) (one hi) (zero hi) (one mx) (zero mx)
    exact ⟨r, h1, yld_value fun w' _ => h2 w'⟩
  case h_9 t x f =>
    obtain ⟨r, h1, h2⟩ := fieldAddr_run h (ev x)
    exact ⟨r, h1, yld_value fun w' _ => h2 w'⟩
  case h_10 t x f =>
    obtain ⟨r, h1, h2⟩ := field_run h (ev x)
    exact ⟨r, h1, yld_value fun w' _ => h2 w'⟩
  case h_11 t x i =>
    obtain ⟨r, h1, h2⟩ := indexAddr_run h hc (ev x) (ev i) (fun n hn => by
      unfold constI at hn
      split at hn
      · rename_i k m
        split at hn
        · rename_i h0
          obtain rfl := Option.some.inj hn
          exact ⟨k, by show Value.int k m = _; rw [Int.toNat_of_nonneg h0]⟩
        · cases hn
      · cases hn)
    exact ⟨r, h1, yld_value fun w' _ => h2 w'⟩
  case h_12 t x i =>
    obtain ⟨r, h1, h2⟩ := index_run h hc (ev x) (ev i)
    exact ⟨r, h1, yld_value fun w' _ => h2 w'⟩
  case h_13 t x k two =>
    obtain ⟨r, h1, h2⟩ := look_run (n := n) h (ev x) (ev k) hb (hX rfl)
    exact ⟨r, h1, yld_value h2⟩
  case h_14 t i =>
    have he := ev t
    split at h
    · rename_i vs hv
      rw [hv] at he
      rw [Option.map_eq_some_iff] at h
      obtain ⟨v, hvi, h⟩ := h
      simp only [Prod.mk.injEq] at h
      obtain ⟨_, rfl⟩ := h
      obtain ⟨us, hus, hr⟩ := he
      obtain ⟨u, hu, hur⟩ := hr.get hvi
      refine ⟨u, hur, yld_value fun w' _ => ?_⟩
      have hu' : us[i]? = some u := by rw [← Array.getElem?_toList]; exact hu
      simp [Instr.extract, hus, hu']
    · cases h
  case h_15 x =>
    have he := ev x
    split at h
    · rename_i b o hv
      rw [hv] at he
      simp only [ok, Option.some.injEq, Prod.mk.injEq] at h
      obtain ⟨_, rfl⟩ := h
      exact ⟨_, he, fun w' _ => by simp only [execOp]; rw [he.2]; rfl⟩
    · rename_i cs hv
      rw [hv] at he
      simp only [ok, Option.some.injEq, Prod.mk.injEq] at h
      obtain ⟨_, rfl⟩ := h
      refine ⟨_, he, fun w' _ => ?_⟩
      obtain ⟨g, o, hg, _⟩ := he
      simp only [execOp]; rw [hg]; rfl
    · rename_i f cs hv
      rw [hv] at he
      simp only [ok, Option.some.injEq, Prod.mk.injEq] at h
      obtain ⟨_, rfl⟩ := h
      refine ⟨_, he, fun w' _ => ?_⟩
      obtain ⟨us, hg, _⟩ := he
      simp only [execOp]; rw [hg]; rfl
    · cases h
  case h_16 f first caps =>
    split at h
    · rename_i hf
      simp only [ok, Option.some.injEq, Prod.mk.injEq] at h
      obtain ⟨_, rfl⟩ := h
      have hf' : first = #[] := by simpa using hf
      subst hf'
      exact ⟨.func (.func f) #[] (caps.map a.eval), ⟨_, rfl, by rw [Array.toList_map]; exact evs _⟩, yld_value fun w' _ => by simp [Instr.makeFunc]⟩
    · cases h
  case h_17 t ps =>
    obtain ⟨r, h1, h2⟩ := build_run (vs := ps.map fun (i, x) => (i, a.eval x)) h (by simp [List.map_map, Function.comp_def]) (by
      have := evs (ps.toList.map (·.2))
      simpa [List.map_map, Function.comp_def] using this)
    exact ⟨r, h1, yld_value fun w' _ => h2 w'⟩
  case h_18 c =>
    obtain ⟨callee, args, ats⟩ := c
    simp only at h
    split at h
    · unfold builtinOut at h
      split at h
      · split at h
        · rename_i x t h1 h2
          obtain ⟨r, h3, h4⟩ := len_run (ty := type) h (ev x)
          have ha : args = #[x] := by apply Array.ext'; exact h1
          have hb : ats = #[t] := by apply Array.ext'; exact h2
          subst ha hb
          refine ⟨r, h3, fun w' _ => ?_⟩
          have := h4 w'
          simp only [execOp, resolve, invoke, builtin, Sem.run_bind, Sem.run_pure, Result.andThen_ok, List.map_toArray, List.map_cons, List.map_nil, this]
        · cases h
      · obtain ⟨r, x, rest, hx, h1, h2⟩ := minMax_run (P := P) min2_run h (evs args.toList)
        refine ⟨r, h1, fun w' _ => ?_⟩
        have hx' : (args.map a.eval).toList = x :: rest := by rw [Array.toList_map]; exact hx
        simp only [execOp, resolve, invoke, builtin, Sem.run_bind, Sem.run_pure, Result.andThen_ok, Builtin.min_, hx', h2]
      · obtain ⟨r, x, rest, hx, h1, h2⟩ := minMax_run (P := P) max2_run h (evs args.toList)
        refine ⟨r, h1, fun w' _ => ?_⟩
        have hx' : (args.map a.eval).toList = x :: rest := by rw [Array.toList_map]; exact hx
        simp only [execOp, resolve, invoke, builtin, Sem.run_bind, Sem.run_pure, Result.andThen_ok, Builtin.max_, hx', h2]
      · cases h
    · cases h
  case h_19 t x =>
    split at h
    · cases h
    · cases h
    · rename_i d hni hu
      simp only [ok, Option.some.injEq, Prod.mk.injEq] at h
      obtain ⟨_, rfl⟩ := h
      refine ⟨.iface t (a.eval x), ⟨_, rfl, .inr ⟨rfl, _, _, rfl⟩⟩, yld_value fun w' _ => ?_⟩
      unfold Instr.makeInterface
      rw [Sem.run_bind, run_underlying hu, Result.andThen_ok]
      split
      · exact absurd rfl (hni _)
      · rfl
  case h_20 => cases h
end Go.Proofs.YtmmbedlegmbppaaDoor.R
