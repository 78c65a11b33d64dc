/- Rows of our own: made, appended to. -/
import Derived.Test.YtkjjegjafpefcaaDoorR11
namespace Go.Proofs.YtkjjegjafpefcaaDoor.R
open Go Go.RowKit
set_option linter.unusedVariables false
set_option linter.unusedSimpArgs false
section
variable {E : Type} {G : Gh} {w w0 : World} {Z : Fz} {e : E} {P : Program} {s : St E} {a : Act} {acts : List (Array Value)}
/-- Something new lies behind all that was there. -/
theorem RelG.fresh (hr : RelG Z w0 s e acts a w G) {w' : World} (hb : Below w.heap.size w w') {Φ' : Fz} (h1 : ∀ b i, G.Φ b i → Φ' b i) (h2 : ∀ b i, b < w.heap.size → Φ' b i → G.Φ b i) (h3 : ∀ b i, Φ' b i → b < w'.heap.size) :
    RelG Z w0 s e acts a w' { G with Φ := Φ' } ∧ FExt G.Φ w Φ' w' ∧ GExt G w { G with Φ := Φ' } w' := by
  have hfz : FExt G.Φ w Φ' w' := ⟨h1, fun b i hbi => hb.cell (p := ⟨b, i, none⟩) (hr.fz b i hbi)⟩
  have hx : GExt G w { G with Φ := Φ' } w' := ⟨hfz, Nat.le_refl _, Nat.le_refl _, rfl, fun _ _ => rfl, fun j hj bo hbo => ⟨hbo, fun g hg => by
    subst hg
    have hlt := (hr.tlo j g hj hbo).2.1
    exact ⟨hb.block g hlt, fun i hi => h2 g i hlt hi⟩⟩⟩
  exact ⟨hr.ext hx (hr.bel.trans (hb.mono (hr.bel.size))) rfl rfl h3 (fun b hl => ⟨hb.block _ (hr.live_lt hl).2, fun i hi => by
    obtain ⟨el, cs, hl'⟩ := id hl
    obtain ⟨us, _, _, hn⟩ := hr.blk b _ hl'
    exact hn i (h2 _ i (hr.live_lt hl).2 hi)⟩) hb.size (fun _ _ => rfl) (fun b i hb0 hi => h2 b i (Nat.lt_of_lt_of_le hb0 hr.bel.size) hi), hfz, hx⟩
/-- A new token. -/
def Gh.newTok (G : Gh) (bo : Option Nat) : Gh := { G with γ := fun k => if k = G.nt then some bo else G.γ k, nt := G.nt + 1 }
theorem newTok_ext (G : Gh) (w : World) (bo : Option Nat) : GExt G w (G.newTok bo) w :=
  ⟨.refl _ _, Nat.le_refl _, Nat.le_succ _, rfl, fun _ _ => rfl, fun k hk b hb => ⟨by simp only [Gh.newTok]; rw [if_neg (by omega)]; exact hb, fun g hg => ⟨rfl, fun i hi => hi⟩⟩⟩
theorem RelG.newTok (hr : RelG Z w0 s e acts a w G) {bo : Option Nat} (hbo : ∀ g, bo = some g → G.B ≤ g ∧ g < w.heap.size ∧ (∀ b, Live s.blocks b → G.ρ b ≠ g) ∧ ∀ k, k < G.nt → G.γ k ≠ some (some g)) :
    RelG Z w0 (newTok s) e acts a w (G.newTok bo) := by
  have hx := newTok_ext G w bo
  refine ⟨hr.B, hr.bel, hr.defers, hr.size, hr.nb, by simp [R.newTok, Gh.newTok, hr.nt], hr.fz, hr.tm.mono hx, hr.stk.mono hx, ?_, hr.lo, hr.inj, ?_, ?_, hr.zz⟩
  · intro b B hB
    have h0 := hr.blk b B hB
    cases B with
    | dead => trivial
    | cells el cs => obtain ⟨us, h1, h2, h3⟩ := h0; exact ⟨us, h1, AV.Rels.mono hx _ _ h2, h3⟩
  · intro k g hk hg
    simp only [Gh.newTok] at hg hk
    split at hg
    · obtain rfl := Option.some.inj hg
      obtain ⟨h1, h2, h3, _⟩ := hbo g rfl
      exact ⟨h1, h2, h3⟩
    · exact hr.tlo k g (by omega) hg
  · intro k k' g hk hk' hg hg'
    simp only [Gh.newTok] at hg hg' hk hk'
    split at hg <;> split at hg'
    · omega
    · obtain rfl := Option.some.inj hg
      exact absurd hg' ((hbo g rfl).2.2.2 k' (by omega))
    · obtain rfl := Option.some.inj hg'
      exact absurd hg ((hbo g rfl).2.2.2 k (by omega))
    · exact hr.tinj k k' g (by omega) (by omega) hg hg'
theorem own_rel {z : Bool} {t : Ty} {el : TypeId} {x : E → List t.den} {v : Value} {bo : Option Nat} (h : OwnRel G.Φ w G.B el t (x e) v bo) (hz : z = true → x e = [] → v = .slice none 0 0) : (AV.own z G.nt el t x).Rel (G.newTok bo) w e v :=
  ⟨Nat.lt_succ_self _, hz, bo, by simp [Gh.newTok], h⟩
/-! ### a row that is laid at once -/
theorem chunk_rel {t : Ty} : ∀ {n : Nat} {cs : List (AV E)} {x : E → List t.den} {us : List Value}, chunkTy t n cs = some x → AV.Rels G w e cs us → (x e).length = n ∧ us.length = n * t.size ∧ ∀ (j : Nat) (y : t.den), (x e)[j]? = some y → CRel G.Φ w t y ((us.drop (j * t.size)).take t.size)
  | 0, cs, x, us, h, hr => by
    cases cs with
    | nil =>
      simp only [chunkTy, Option.some.injEq] at h
      subst h
      rw [show us = [] from hr]
      exact ⟨rfl, by simp, fun j y hj => by simp at hj⟩
    | cons c cs => simp [chunkTy] at h
  | n + 1, cs, x, us, h, hr => by
    simp only [chunkTy, Option.bind_eq_some_iff] at h
    obtain ⟨y, hy, z, hz, h⟩ := h
    obtain rfl := Option.some.inj h
    have h1 := toTy_rel hy (hr.take t.size)
    obtain ⟨h2, h3, h4⟩ := chunk_rel hz (hr.drop t.size)
    have hl := h1.length
    rw [List.length_take] at hl
    rw [List.length_drop] at h3
    refine ⟨by simp [h2], by rw [Nat.succ_mul]; omega, fun j y' hj => ?_⟩
    cases j with
    | zero =>
      simp only [List.getElem?_cons_zero, Option.some.injEq] at hj
      subst hj
      rw [Nat.zero_mul, List.drop_zero]
      exact h1
    | succ j =>
      have := h4 j y' (by simpa using hj)
      rw [List.drop_drop] at this
      rw [Nat.succ_mul, Nat.add_comm]
      exact this
theorem rep_rel {cs : List (AV E)} {us : List Value} (h : AV.Rels G w e cs us) : ∀ n, AV.Rels G w e (rep n cs) (rep n us)
  | 0 => rfl
  | n + 1 => h.append (rep_rel h n)
theorem range_rep (z : Array Value) (hz : 0 < z.size) : ∀ n, ((List.range (n * z.size)).map fun i => z[i % z.size]!) = rep n z.toList
  | 0 => by simp [rep]
  | n + 1 => by
    have h0 : (List.range z.size).map (fun i => z[i % z.size]!) = z.toList := by
      apply List.ext_getElem?
      intro j
      by_cases hj : j < z.size
      · simp [hj, Nat.mod_eq_of_lt hj]
      · simp [hj]
    rw [Nat.succ_mul, Nat.add_comm, List.range_add, List.map_append, h0]
    unfold rep
    congr 1
    rw [← range_rep z hz n, List.map_map]
    apply List.map_congr_left
    intro i _
    simp
theorem buildSlice_run {t : TypeId} {el : TypeId} {n : Nat} {u : Ty} {z : Array Value} {ps : List (Nat × AV E)} {vs : Array (Nat × Value)} {cs : List (AV E)} (ht : P.underlying t = some (.slice el)) (hz : zeroCells P el = some z) (hzs : z.size = sizeT P el) (hus : u.size = sizeT P el) (hu0 : 0 < u.size) (hn : n * u.size ≤ 10000)
    (h : buildGo (fun i => some (i * sizeT P el, sizeT P el)) (rep n (z.toList.map constAV)) ps = some cs) (h1 : vs.toList.map (·.1) = ps.map (·.1)) (h2 : AV.Rels G w e (ps.map (·.2)) (vs.toList.map (·.2))) :
    ∃ us : Array Value, AV.Rels G w e cs us.toList ∧ ∀ w', (Instr.buildSlice t n vs).run P w' = .ok (.slice (some ⟨w'.heap.size, 0, none⟩) n n) (w'.alloc (.cells us el)) := by
  have hzr : AV.Rels G w e (rep n (z.toList.map constAV)) ((rep n z.toList).toArray : Array Value).toList := by simpa using rep_rel (consts_rel z.toList) n
  obtain ⟨us, hf, hr⟩ := build_fill rfl h hzr h1 h2
  refine ⟨us, hr, fun w' => ?_⟩
  obtain ⟨it, zv, hit, hiz, hzc⟩ := zero_some hz
  have hs : (sizeOf el).run P w' = .ok (sizeT P el) w' := size_run rfl (by rw [hit]; rfl) w'
  have hle : ¬ (n * sizeT P el > 2 ^ 24) := by rw [← hus]; omega
  have hcells : (Array.range (n * sizeT P el)).map (fun i => z[i % z.size]!) = (rep n z.toList).toArray := by
    apply Array.ext'
    rw [← hzs]
    simp only [Array.toList_map, Array.toList_range, List.toList_toArray]
    exact range_rep z (by omega) n
  unfold Instr.buildSlice
  simp only [Sem.run_bind, run_underlying ht, hs, Result.andThen_ok, if_neg hle]
  by_cases h0 : n * sizeT P el = 0
  · have hn0 : n = 0 := by
      rcases Nat.mul_eq_zero.1 h0 with h | h
      · exact h
      · omega
    subst hn0
    have hr0 : Array.range (0 * sizeT P el) = #[] := by simp
    rw [show (rep 0 z.toList).toArray = (#[] : Array Value) from rfl] at hf
    simp only [if_pos h0, Sem.run_bind, Sem.run_pure, Result.andThen_ok, hr0, List.map_toArray, List.map_nil, hf]
    rfl
  · simp only [if_neg h0, Sem.run_bind, zeroValue, typeInfo, run_program, hit, hiz, Result.andThen_ok, Sem.run_pure, hzc]
    rw [hcells, hf]
    rfl
end
end Go.Proofs.YtkjjegjafpefcaaDoor.R
