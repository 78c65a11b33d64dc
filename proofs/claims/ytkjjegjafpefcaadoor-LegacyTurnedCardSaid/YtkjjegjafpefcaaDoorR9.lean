/- An operation that leaves the world alone does what the compiler says. -/
import Derived.Test.YtkjjegjafpefcaaDoorRM
namespace Go.Proofs.YtkjjegjafpefcaaDoor.R
open Go Go.RowKit
set_option linter.unusedVariables false
set_option linter.unusedSimpArgs false
variable {E : Type} {G : Gh} {w : World} {e : E} {P : Program} {n : Nat → Prop}
theorem yld_value {r : Sem Value} {v : Value} (h : ∀ w', Same G n w w' → r.run P w' = .ok v w') : Yld P G n w (do pure (.value (← r))) v := fun w' hs => by
  simp only [Sem.run_bind, h w' hs, Result.andThen_ok, Sem.run_pure]
def readsOwn (s : St E) (o : Op) : Bool := match o with
  | .load _ x => match s.ev x with
    | .ptr _ _ => true
    | _ => false
  | .lookup .. => true
  | _ => false
set_option maxHeartbeats 1000000 in
theorem quiet_sound {s : St E} {o : Oper} {c : Option (E → Bool)} {av : AV E} {a : Act} (h : quiet P s o.op = some (c, av)) (hc : ∀ f, c = some f → f e = true) (ht : EnvRel G w e s.tmps a.tmps) (hb : BlksRel G w e s.blocks) (hX : readsOwn s o.op = true → ∀ b, Live s.blocks b → n b) :
    ∃ v, av.Rel G w e v ∧ Yld P G n w (execOp a.eval o) v := by
  have ev := ev_rel ht
  have evs := evs_rel ht
  obtain ⟨dst, op, type, pos, after, guard⟩ := o
  simp only at h
  unfold quiet at h
  split at h
  case h_1 x =>
    simp only [ok, Option.some.injEq, Prod.mk.injEq] at h
    obtain ⟨_, rfl⟩ := h
    exact ⟨_, ev x, fun w' _ => rfl⟩
  case h_2 x =>
    simp only [ok, Option.some.injEq, Prod.mk.injEq] at h
    obtain ⟨_, rfl⟩ := h
    exact ⟨_, ev x, fun w' _ => rfl⟩
  case h_3 x y z =>
    obtain ⟨bl, r, h1, h2, h3⟩ := pick_run h (ev x) (ev y) (ev z)
    refine ⟨r, h3, fun w' _ => ?_⟩
    simp only [execOp, h1, asBool, Sem.run_bind, Sem.run_pure, Result.andThen_ok, ← h2]
  case h_4 t x =>
    obtain ⟨r, h1, h2⟩ := load_run (n := n) h (ev x) hb (fun b o' hx => hX (by simp only [readsOwn, hx]))
    exact ⟨r, h1, yld_value h2⟩
  case h_5 op t x y yt =>
    obtain ⟨r, h1, h2⟩ := bin_run (x := x) (y := y) h hc (ev x) (ev y)
    exact ⟨r, h1, fun w' _ => h2 w'⟩
  case h_6 op t x =>
    obtain ⟨r, h1, h2⟩ := un_run h (ev x)
    exact ⟨r, h1, yld_value fun w' _ => h2 w'⟩
  case h_7 t u x =>
    obtain ⟨r, h1, h2⟩ := conv_run (n := n) h (ev x)
    exact ⟨r, h1, yld_value h2⟩
  case h_8 t x lo hi mx =>
    have one : ∀ (y : Option Operand) (z : AV E), y.map s.ev = some z → ∃ v, y.map a.eval = some v ∧ z.Rel G w e v := by
      intro y z hz
      cases y with
      | none => cases hz
      | some y => simp only [Option.map_some, Option.some.injEq] at hz; subst hz; exact ⟨_, rfl, ev y⟩
    have zero : ∀ (y : Option Operand), y.map s.ev = none → y.map a.eval = none := by
      intro y hz
      cases y with
      | none => rfl
      | some y => cases hz
    obtain ⟨r, h1, h2⟩ := slice_run h hc (ev x) (one lo) (zero lo) (one hi) (zero hi) (one mx) (zero mx)
    exact ⟨r, h1, yld_value fun w' _ => h2 w'⟩
  case h_9 t x f =>
    obtain ⟨r, h1, h2⟩ := fieldAddr_run h (ev x)
    exact ⟨r, h1, yld_value fun w' _ => h2 w'⟩
  case h_10 t x f =>
    obtain ⟨r, h1, h2⟩ := field_run h (ev x)
    exact ⟨r, h1, yld_value fun w' _ => h2 w'⟩
  case h_11 t x i =>
    obtain ⟨r, h1, h2⟩ := indexAddr_run h hc (ev x) (ev i) (fun n hn => by
      unfold constI at hn
      split at hn
      · rename_i k m
        split at hn
        · rename_i h0
          obtain rfl := Option.some.inj hn
          exact ⟨k, by show Value.int k m = _; rw [Int.toNat_of_nonneg h0]⟩
        · cases hn
      · cases hn)
    exact ⟨r, h1, yld_value fun w' _ => h2 w'⟩
  case h_12 t x i =>
    obtain ⟨r, h1, h2⟩ := index_run h hc (ev x) (ev i)
    exact ⟨r, h1, yld_value fun w' _ => h2 w'⟩
  case h_13 t x k two =>
    obtain ⟨r, h1, h2⟩ := look_run (n := n) h (ev x) (ev k) hb (hX rfl)
    exact ⟨r, h1, yld_value h2⟩
  case h_14 t i =>
    have he := ev t
    split at h
    · rename_i vs hv
      rw [hv] at he
      rw [Option.map_eq_some_iff] at h
      obtain ⟨v, hvi, h⟩ := h
      simp only [Prod.mk.injEq] at h
      obtain ⟨_, rfl⟩ := h
      obtain ⟨us, hus, hr⟩ := he
      obtain ⟨u, hu, hur⟩ := hr.get hvi
      refine ⟨u, hur, yld_value fun w' _ => ?_⟩
      have hu' : us[i]? = some u := by rw [← Array.getElem?_toList]; exact hu
      simp [Instr.extract, hus, hu']
    · cases h
  case h_15 x =>
    have he := ev x
    split at h
    · rename_i b o hv
      rw [hv] at he
      simp only [ok, Option.some.injEq, Prod.mk.injEq] at h
      obtain ⟨_, rfl⟩ := h
      exact ⟨_, he, fun w' _ => by simp only [execOp]; rw [he.2]; rfl⟩
    · rename_i cs hv
      rw [hv] at he
      simp only [ok, Option.some.injEq, Prod.mk.injEq] at h
      obtain ⟨_, rfl⟩ := h
      refine ⟨_, he, fun w' _ => ?_⟩
      obtain ⟨g, o, hg, _⟩ := he
      simp only [execOp]; rw [hg]; rfl
    · rename_i f cs hv
      rw [hv] at he
      simp only [ok, Option.some.injEq, Prod.mk.injEq] at h
      obtain ⟨_, rfl⟩ := h
      refine ⟨_, he, fun w' _ => ?_⟩
      obtain ⟨us, hg, _⟩ := he
      simp only [execOp]; rw [hg]; rfl
    · cases h
  case h_16 f first caps =>
    split at h
    · rename_i hf
      simp only [ok, Option.some.injEq, Prod.mk.injEq] at h
      obtain ⟨_, rfl⟩ := h
      have hf' : first = #[] := by simpa using hf
      subst hf'
      exact ⟨.func (.func f) #[] (caps.map a.eval), ⟨_, rfl, by rw [Array.toList_map]; exact evs _⟩, yld_value fun w' _ => by simp [Instr.makeFunc]⟩
    · cases h
  case h_17 t ps =>
    obtain ⟨r, h1, h2⟩ := build_run (vs := ps.map fun (i, x) => (i, a.eval x)) h (by simp [List.map_map, Function.comp_def]) (by
      have := evs (ps.toList.map (·.2))
      simpa [List.map_map, Function.comp_def] using this)
    exact ⟨r, h1, yld_value fun w' _ => h2 w'⟩
  case h_18 c =>
    obtain ⟨callee, args, ats⟩ := c
    simp only at h
    split at h
    · unfold builtinOut at h
      split at h
      · split at h
        · rename_i x t h1 h2
          obtain ⟨r, h3, h4⟩ := len_run (ty := type) h (ev x)
          have ha : args = #[x] := by apply Array.ext'; exact h1
          have hb : ats = #[t] := by apply Array.ext'; exact h2
          subst ha hb
          refine ⟨r, h3, fun w' _ => ?_⟩
          have := h4 w'
          simp only [execOp, resolve, invoke, builtin, Sem.run_bind, Sem.run_pure, Result.andThen_ok, List.map_toArray, List.map_cons, List.map_nil, this]
        · cases h
      · obtain ⟨r, x, rest, hx, h1, h2⟩ := minMax_run (P := P) min2_run h (evs args.toList)
        refine ⟨r, h1, fun w' _ => ?_⟩
        have hx' : (args.map a.eval).toList = x :: rest := by rw [Array.toList_map]; exact hx
        simp only [execOp, resolve, invoke, builtin, Sem.run_bind, Sem.run_pure, Result.andThen_ok, Builtin.min_, hx', h2]
      · obtain ⟨r, x, rest, hx, h1, h2⟩ := minMax_run (P := P) max2_run h (evs args.toList)
        refine ⟨r, h1, fun w' _ => ?_⟩
        have hx' : (args.map a.eval).toList = x :: rest := by rw [Array.toList_map]; exact hx
        simp only [execOp, resolve, invoke, builtin, Sem.run_bind, Sem.run_pure, Result.andThen_ok, Builtin.max_, hx', h2]
      · cases h
    · cases h
  case h_19 => cases h
end Go.Proofs.YtkjjegjafpefcaaDoor.R
