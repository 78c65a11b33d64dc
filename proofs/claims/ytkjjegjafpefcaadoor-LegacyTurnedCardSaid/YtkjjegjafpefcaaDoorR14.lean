/- A row that is appended to, and what is known of the rest. -/
import Derived.Test.YtkjjegjafpefcaaDoorR13
namespace Go.Proofs.YtkjjegjafpefcaaDoor.R
open Go Go.RowKit
set_option linter.unusedVariables false
set_option linter.unusedSimpArgs false
section
variable {E : Type} {G : Gh} {w w0 : World} {Z : Fz} {e : E} {P : Program} {s : St E} {a : Act} {acts : List (Array Value)}
theorem EnvRel.kill {k : Nat} {env : Env E} {t : Array Value} {G' : Gh} {w' : World} (hx : GExtK k G w G' w') (h : EnvRel G w e env t) : EnvRel G' w' e (env.kill k) t := by
  intro u
  have hg : ∀ (l : Env E), (Env.kill k l).get u = (l.get u).kill k := by
    intro l
    induction l with
    | nil => rfl
    | cons p l ih =>
      obtain ⟨x, y⟩ := p
      simp only [Env.kill, Env.get]
      split
      · rfl
      · exact ih
  rw [hg]
  exact AV.Rel.kill hx _ _ (h u)
theorem StkRel.kill {k : Nat} {G' : Gh} {w' : World} (hx : GExtK k G w G' w') : ∀ {ss : List (Env E)} {ts : List (Array Value)}, StkRel G w e ss ts → StkRel G' w' e (ss.map (Env.kill k)) ts
  | [], _, h => h
  | s :: ss, _, h => by obtain ⟨t, ts, rfl, h1, h2⟩ := h; exact ⟨t, ts, rfl, h1.kill hx, h2.kill hx⟩
theorem live_kill {k : Nat} {bs : List (Blk E)} {b : Nat} : Live (bs.map (Blk.kill k)) b ↔ Live bs b := by
  unfold Live
  rw [List.getElem?_map]
  cases bs[b]? with
  | none => simp
  | some B => cases B <;> simp [Blk.kill]
theorem drop_live {tok : Option Nat} {b : Nat} : Live (s.drop tok).blocks b ↔ Live s.blocks b := by
  cases tok with
  | none => exact Iff.rfl
  | some k => exact live_kill
/-- The memory behind an append. -/
theorem RelG.grow (hr : RelG Z w0 s e acts a w G) {tok : Option Nat} {w' : World} {bo : Option Nat} {L : Nat} (hos : w'.os = w.os) (htp : w'.tape = w.tape) (hout : w'.output = w.output) (hsz : w.heap.size ≤ w'.heap.size)
    (htok : ∀ k, tok = some k → k < G.nt)
    (hblk : ∀ b, b < w.heap.size → (∀ k, tok = some k → G.γ k ≠ some (some b)) → w'.heap[b]? = w.heap[b]?)
    (hnew : ∀ g, bo = some g → (g = w.heap.size ∧ g < w'.heap.size) ∨ ∃ k, tok = some k ∧ G.γ k = some (some g))
    (hfr : ∀ k g, tok = some k → G.γ k = some (some g) → ∀ i, G.Φ g i → w'.cell? ⟨g, i, none⟩ = w.cell? ⟨g, i, none⟩)
    (hL : ∀ k g, tok = some k → G.γ k = some (some g) → bo = some g → ∀ i, G.Φ g i → i < L) :
    let G' : Gh := { G with Φ := fun b i => G.Φ b i ∨ (bo = some b ∧ i < L), γ := fun j => if tok = some j then none else G.γ j }
    RelG Z w0 (s.drop tok) e acts a w' G' ∧ FExt G.Φ w G'.Φ w' ∧ (∀ g, bo = some g → ∀ i, G'.Φ g i ↔ i < L) ∧
      ∀ g, bo = some g → G'.B ≤ g ∧ g < w'.heap.size ∧ (∀ b, Live (s.drop tok).blocks b → G'.ρ b ≠ g) ∧ ∀ k, k < G'.nt → G'.γ k ≠ some (some g) := by
  intro G'
  have hfz : FExt G.Φ w G'.Φ w' := ⟨fun _ _ h => .inl h, fun b i h => by
    by_cases hb : ∃ k, tok = some k ∧ G.γ k = some (some b)
    · obtain ⟨k, h1, h2⟩ := hb; exact hfr k b h1 h2 i h
    · exact World.cell?_of_block (w := w) (a := ⟨b, i, none⟩) (hblk b (hr.fz b i h) (fun k h1 h2 => hb ⟨k, h1, h2⟩))⟩
  have hlive : ∀ b, Live s.blocks b → w'.heap[G.ρ b]? = w.heap[G.ρ b]? := fun b hl => hblk _ (hr.live_lt hl).2 (fun k h1 h2 => (hr.tlo k _ (htok k h1) h2).2.2 b hl rfl)
  have hbl : ∀ b, Live s.blocks b → bo ≠ some (G.ρ b) := by
    intro b hl hb
    rcases hnew _ hb with ⟨h1, _⟩ | ⟨k, h1, h2⟩
    · have := (hr.live_lt hl).2; omega
    · exact (hr.tlo k _ (htok k h1) h2).2.2 b hl rfl
  have hγ : ∀ j, j < G.nt → tok ≠ some j → ∀ b, G.γ j = some b → G'.γ j = some b ∧ ∀ g, b = some g → w'.heap[g]? = w.heap[g]? ∧ ∀ i, G'.Φ g i → G.Φ g i := by
    intro j hj hne b hb
    refine ⟨by show (if tok = some j then none else G.γ j) = _; rw [if_neg hne]; exact hb, fun g hg => ?_⟩
    subst hg
    have hlt := (hr.tlo j g hj hb).2.1
    have hno : ∀ k, tok = some k → G.γ k ≠ some (some g) := fun k h1 h2 => hne (by rw [h1, hr.tinj j k g hj (htok k h1) hb h2])
    refine ⟨hblk g hlt hno, fun i hi => ?_⟩
    rcases hi with hi | ⟨hi, _⟩
    · exact hi
    · rcases hnew g hi with ⟨h1, _⟩ | ⟨k, h1, h2⟩
      · omega
      · exact absurd h2 (hno k h1)
  have hbel : Below w0.heap.size w0 w' := hr.bel.trans ⟨hos, htp, hout, hsz, fun k hk => hblk k (Nat.lt_of_lt_of_le hk hr.bel.size) (fun j h1 h2 => by
    have := (hr.tlo j k (htok j h1) h2).1
    rw [hr.B] at this
    omega)⟩
  have hfb : ∀ b i, G'.Φ b i → b < w'.heap.size := by
    intro b i h
    rcases h with h | ⟨h, _⟩
    · have := hr.fz b i h; omega
    · rcases hnew b h with ⟨_, h2⟩ | ⟨k, h1, h2⟩
      · exact h2
      · have := (hr.tlo k b (htok k h1) h2).2.1; omega
  have hblks : ∀ (b : Nat), Live s.blocks b → ∀ i, ¬ G'.Φ (G'.ρ b) i := by
    rintro b hl i (h | ⟨h, _⟩)
    · obtain ⟨el, cs, hl'⟩ := id hl
      obtain ⟨us, _, _, hn⟩ := hr.blk b _ hl'
      exact hn i h
    · exact hbl b hl h
  have hts : ∀ k g, k < G'.nt → G'.γ k = some (some g) → tok ≠ some k ∧ G.γ k = some (some g) := by
    intro k g hk hg
    have hg' : (if tok = some k then none else G.γ k) = some (some g) := hg
    split at hg'
    · cases hg'
    · rename_i hne; exact ⟨hne, hg'⟩
  have hzz : (∀ b i, Z b i → G'.Φ b i) ∧ ∀ b i, b < w0.heap.size → G'.Φ b i → Z b i := by
    refine ⟨fun b i hb => .inl (hr.zz.1 b i hb), fun b i hb hi => ?_⟩
    rcases hi with hi | ⟨hi, _⟩
    · exact hr.zz.2 b i hb hi
    · exfalso
      rcases hnew b hi with ⟨h1, _⟩ | ⟨k, h1, h2⟩
      · have := hr.bel.size; omega
      · have := (hr.tlo k b (htok k h1) h2).1
        rw [hr.B] at this
        omega
  refine ⟨?_, hfz, ?_, ?_⟩
  · have htl : ∀ k g, k < G'.nt → G'.γ k = some (some g) → G'.B ≤ g ∧ g < w'.heap.size ∧ ∀ b, Live (s.drop tok).blocks b → G'.ρ b ≠ g := by
      intro k g hk hg
      obtain ⟨_, hg'⟩ := hts k g hk hg
      obtain ⟨h1, h2, h3⟩ := hr.tlo k g hk hg'
      exact ⟨h1, by omega, fun b hl => h3 b (drop_live.1 hl)⟩
    have hti : ∀ k k' g, k < G'.nt → k' < G'.nt → G'.γ k = some (some g) → G'.γ k' = some (some g) → k = k' := fun k k' g hk hk' hg hg' => hr.tinj k k' g hk hk' (hts k g hk hg).2 (hts k' g hk' hg').2
    cases tok with
    | none =>
      have hx : GExt G w G' w' := ⟨hfz, Nat.le_refl _, Nat.le_refl _, rfl, fun _ _ => rfl, fun k hk b hb => hγ k hk (by simp) b hb⟩
      refine ⟨hr.B, hbel, hr.defers, hr.size, hr.nb, hr.nt, hfb, hr.tm.mono hx, hr.stk.mono hx, ?_, fun b hl => hr.lo b hl, fun b b' hl hl' => hr.inj b b' hl hl', htl, hti, hzz⟩
      intro b B hB
      have h0 := hr.blk b B hB
      cases B with
      | dead => trivial
      | cells el cs =>
        obtain ⟨us, h1, h2, _⟩ := h0
        have hl : Live s.blocks b := ⟨el, cs, hB⟩
        exact ⟨us, by rw [show G'.ρ b = G.ρ b from rfl, hlive b hl]; exact h1, AV.Rels.mono hx _ _ h2, hblks b hl⟩
    | some k =>
      have hx : GExtK k G w G' w' := ⟨hfz, Nat.le_refl _, Nat.le_refl _, rfl, fun _ _ => rfl, fun j hj hne b hb => hγ j hj (fun hh => hne (Option.some.inj hh).symm) b hb⟩
      refine ⟨hr.B, hbel, hr.defers, hr.size, (by rw [show (s.drop (some k)).blocks.length = s.blocks.length by simp [St.drop]]; exact hr.nb), hr.nt, hfb, hr.tm.kill hx, hr.stk.kill hx, ?_, fun b hl => hr.lo b (live_kill.1 hl), fun b b' hl hl' => hr.inj b b' (live_kill.1 hl) (live_kill.1 hl'), htl, hti, hzz⟩
      intro b B hB
      simp only [St.drop, List.getElem?_map, Option.map_eq_some_iff] at hB
      obtain ⟨B0, hB0, rfl⟩ := hB
      have h0 := hr.blk b B0 hB0
      cases B0 with
      | dead => trivial
      | cells el cs =>
        obtain ⟨us, h1, h2, _⟩ := h0
        have hl : Live s.blocks b := ⟨el, cs, hB0⟩
        exact ⟨us, by rw [show G'.ρ b = G.ρ b from rfl, hlive b hl]; exact h1, AV.Rels.kill hx _ _ h2, hblks b hl⟩
  · intro g hg i
    constructor
    · rintro (h | ⟨_, h⟩)
      · rcases hnew g hg with ⟨h1, _⟩ | ⟨k, h1, h2⟩
        · have := hr.fz g i h; omega
        · exact hL k g h1 h2 hg i h
      · exact h
    · intro h; exact .inr ⟨hg, h⟩
  · intro g hg
    refine ⟨?_, ?_, fun b hl hb => hbl b (drop_live.1 hl) (by rw [hg]; exact congrArg some hb.symm), fun k hk hkg => ?_⟩
    · rcases hnew g hg with ⟨h1, _⟩ | ⟨k, h1, h2⟩
      · show G.B ≤ g; rw [hr.B, h1]; exact hr.bel.size
      · exact (hr.tlo k g (htok k h1) h2).1
    · rcases hnew g hg with ⟨_, h2⟩ | ⟨k, h1, h2⟩
      · exact h2
      · have := (hr.tlo k g (htok k h1) h2).2.1; omega
    · obtain ⟨h1, h2⟩ := hts k g hk hkg
      rcases hnew g hg with ⟨h3, _⟩ | ⟨j, h3, h4⟩
      · have := (hr.tlo k g hk h2).2.1; omega
      · exact h1 (by rw [h3, hr.tinj k j g hk (htok j h3) h2 h4])
/-- What is appended to, told. -/
theorem base_rel {el : TypeId} {t : Ty} {av : AV E} {tok : Option Nat} {full : Bool} {x : E → List t.den} {v : Value} (h : av.base? el t = some (tok, full, x)) (hr : av.Rel G w e v) :
    (full = false ∧ (∀ k, tok = some k → k < G.nt ∧ G.γ k = some v.ownBlock) ∧ (tok = none → v.ownBlock = none) ∧ OwnRel G.Φ w G.B el t (x e) v v.ownBlock ∧ (av.emptyNil = true → x e = [] → v = .slice none 0 0)) ∨
    (full = true ∧ tok = none ∧ CRel G.Φ w (.sl el t) (x e) [v] ∧ ∃ A n, v = .slice A n n) := by
  cases av with
  | nilsl =>
    simp only [AV.base?, Option.some.injEq, Prod.mk.injEq] at h
    obtain ⟨rfl, rfl, rfl⟩ := h
    rw [show v = _ from hr]
    exact .inl ⟨rfl, (fun k hk => nomatch hk), (fun _ => rfl), ⟨rfl, [], World.ownsRow_nil w _ _ _, (fun j x hj => by simp at hj), (fun g hg => nomatch hg)⟩, fun _ _ => rfl⟩
  | full el' t' y =>
    simp only [AV.base?, Option.map_eq_some_iff, Prod.mk.injEq] at h
    obtain ⟨z, hz, rfl, rfl, rfl⟩ := h
    exact .inr ⟨rfl, rfl, castTo_rel (t := .sl el' t') hz hr.1, hr.2⟩
  | own zz k el' t' y =>
    simp only [AV.base?, Option.map_eq_some_iff, Prod.mk.injEq] at h
    obtain ⟨z, hz, rfl, rfl, rfl⟩ := h
    obtain ⟨h1, hzz, bo, h2, h3⟩ := hr
    obtain rfl := h3.1
    refine .inl ⟨rfl, (fun j hj => by cases hj; exact ⟨h1, h2⟩), (fun hh => nomatch hh), ?_⟩
    obtain ⟨ht, hy⟩ := castTo_spec hz
    cases ht
    rw [show z = y from hy]
    exact ⟨h3, hzz⟩
  | _ => simp [AV.base?] at h
end
end Go.Proofs.YtkjjegjafpefcaaDoor.R
