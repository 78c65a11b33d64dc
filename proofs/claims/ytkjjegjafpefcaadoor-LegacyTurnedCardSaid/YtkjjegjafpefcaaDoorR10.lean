/- What a state says of the whole memory; a step that puts a value; a call by its contract. -/
import Derived.Test.YtkjjegjafpefcaaDoorR9
namespace Go.Proofs.YtkjjegjafpefcaaDoor.R
open Go Go.RowKit
set_option linter.unusedVariables false
set_option linter.unusedSimpArgs false
def StkRel {E : Type} (G : Gh) (w : World) (e : E) : List (Env E) → List (Array Value) → Prop
  | [], acts => acts = []
  | s :: ss, acts => ∃ t ts, acts = t :: ts ∧ EnvRel G w e s t ∧ StkRel G w e ss ts
structure RelG {E : Type} (Z : Fz) (w0 : World) (s : St E) (e : E) (acts : List (Array Value)) (a : Act) (w : World) (G : Gh) : Prop where
  B : G.B = w0.heap.size
  bel : Below w0.heap.size w0 w
  defers : a.defers = []
  size : a.tmps.size = s.size
  nb : G.nb = s.blocks.length
  nt : G.nt = s.nt
  fz : ∀ b i, G.Φ b i → b < w.heap.size
  tm : EnvRel G w e s.tmps a.tmps
  stk : StkRel G w e s.stack acts
  blk : BlksRel G w e s.blocks
  lo : ∀ b, Live s.blocks b → G.B ≤ G.ρ b
  inj : ∀ b b', Live s.blocks b → Live s.blocks b' → G.ρ b = G.ρ b' → b = b'
  tlo : ∀ k g, k < G.nt → G.γ k = some (some g) → G.B ≤ g ∧ g < w.heap.size ∧ ∀ b, Live s.blocks b → G.ρ b ≠ g
  tinj : ∀ k k' g, k < G.nt → k' < G.nt → G.γ k = some (some g) → G.γ k' = some (some g) → k = k'
  zz : (∀ b i, Z b i → G.Φ b i) ∧ ∀ b i, b < w0.heap.size → G.Φ b i → Z b i
section
variable {E : Type} {G : Gh} {w w0 : World} {Z : Fz} {e : E} {P : Program} {s : St E} {a : Act} {acts : List (Array Value)}
theorem Env.get_set (l : Env E) (t u : Nat) (v : AV E) : (l.set t v).get u = if u = t then v else l.get u := by
  induction l with
  | nil =>
    simp only [Env.set, Env.get]
    by_cases h : t = u
    · rw [if_pos h, if_pos h.symm]
    · rw [if_neg h, if_neg (Ne.symm h)]
  | cons p l ih =>
    obtain ⟨x, y⟩ := p
    unfold Env.set
    by_cases hx : x = t
    · rw [if_pos hx]
      subst hx
      simp only [Env.get]
      by_cases h : x = u
      · rw [if_pos h, if_pos h.symm]
      · rw [if_neg h, if_neg (Ne.symm h), if_neg h]
    · rw [if_neg hx]
      simp only [Env.get]
      by_cases h : x = u
      · rw [if_pos h, if_neg (by omega)]
        rw [if_pos h]
      · rw [if_neg h, if_neg h, ih]
theorem getD_set (t : Array Value) (d u : Nat) (v : Value) (h : d < t.size) : (t.setIfInBounds d v).getD u undef = if u = d then v else t.getD u undef := by
  by_cases hu : u = d
  · subst hu
    rw [if_pos rfl]
    simp [Array.getD, h]
  · rw [if_neg hu]
    have : (t.setIfInBounds d v)[u]? = t[u]? := Array.getElem?_setIfInBounds_ne (Ne.symm hu)
    simp only [Array.getD_eq_getD_getElem?, this]
theorem EnvRel.set {env : Env E} {t : Array Value} {d : Nat} {av : AV E} {v : Value} (h : EnvRel G w e env t) (hd : d < t.size) (hv : av.Rel G w e v) : EnvRel G w e (env.set d av) (t.setIfInBounds d v) := by
  intro u
  rw [Env.get_set, getD_set _ _ _ _ hd]
  by_cases hu : u = d
  · rw [if_pos hu, if_pos hu]; exact hv
  · rw [if_neg hu, if_neg hu]; exact h u
theorem EnvRel.mono {env : Env E} {t : Array Value} {G' : Gh} {w' : World} (hx : GExt G w G' w') (h : EnvRel G w e env t) : EnvRel G' w' e env t := fun u => (h u).mono hx
theorem StkRel.mono {G' : Gh} {w' : World} (hx : GExt G w G' w') : ∀ {ss : List (Env E)} {ts : List (Array Value)}, StkRel G w e ss ts → StkRel G' w' e ss ts
  | [], _, h => h
  | s :: ss, _, h => by obtain ⟨t, ts, rfl, h1, h2⟩ := h; exact ⟨t, ts, rfl, h1.mono hx, h2.mono hx⟩
def dstOk' (s : St E) (d : Option Tmp) : Prop := ∀ t, d = some t → t < s.size
theorem dstOk_spec {o : Oper} (h : dstOk s o = true) : dstOk' s o.dst := by
  intro t ht
  unfold dstOk at h
  rw [ht] at h
  simpa using h
/-- A value is put. -/
theorem RelG.put (h : RelG Z w0 s e acts a w G) {d : Option Tmp} (hd : dstOk' s d) {av : AV E} {v : Value} (hv : av.Rel G w e v) : RelG Z w0 (s.put d av) e acts (a.put d v) w G := by
  cases d with
  | none => exact h
  | some t =>
    have ht := hd t rfl
    exact ⟨h.B, h.bel, h.defers, by simp [Act.put, St.put, h.size], h.nb, h.nt, h.fz, h.tm.set (by rw [h.size]; exact ht) hv, h.stk, h.blk, h.lo, h.inj, h.tlo, h.tinj, h.zz⟩
/-- The memory goes on, our own blocks being left as they are. -/
theorem RelG.ext (h : RelG Z w0 s e acts a w G) {G' : Gh} {w' : World} (hx : GExt G w G' w') (hb : Below w0.heap.size w0 w') (hnb : G'.nb = G.nb) (hnt : G'.nt = G.nt) (hfz : ∀ b i, G'.Φ b i → b < w'.heap.size)
    (hk : ∀ b, Live s.blocks b → w'.heap[G.ρ b]? = w.heap[G.ρ b]? ∧ ∀ i, ¬ G'.Φ (G.ρ b) i) (hsz : w.heap.size ≤ w'.heap.size) (hγ : ∀ k, k < G.nt → G'.γ k = G.γ k) (hz : ∀ b i, b < w0.heap.size → G'.Φ b i → G.Φ b i) : RelG Z w0 s e acts a w' G' := by
  have hlt : ∀ b, Live s.blocks b → b < G.nb := fun b ⟨el, cs, hl⟩ => by rw [h.nb]; exact (List.getElem?_eq_some_iff.1 hl).1
  have hρ : ∀ b, Live s.blocks b → G'.ρ b = G.ρ b := fun b hl => hx.ρ b (hlt b hl)
  refine ⟨hx.B.trans h.B, hb, h.defers, h.size, hnb.trans h.nb, hnt.trans h.nt, hfz, h.tm.mono hx, h.stk.mono hx, ?_, ?_, ?_, ?_, ?_, ⟨fun b i hb => hx.fz.sub b i (h.zz.1 b i hb), fun b i hb hi => h.zz.2 b i hb (hz b i hb hi)⟩⟩
  · intro b B hB
    have := h.blk b B hB
    cases B with
    | dead => trivial
    | cells el cs =>
      obtain ⟨us, h1, h2, h3⟩ := this
      have hl : Live s.blocks b := ⟨el, cs, hB⟩
      exact ⟨us, by rw [hρ b hl, (hk b hl).1]; exact h1, AV.Rels.mono hx _ _ h2, by rw [hρ b hl]; exact (hk b hl).2⟩
  · intro b hl
    rw [hρ b hl, hx.B]; exact h.lo b hl
  · intro b b' hl hl' heq
    rw [hρ b hl, hρ b' hl'] at heq
    exact h.inj b b' hl hl' heq
  · intro k g hkk hg
    rw [hnt] at hkk
    rw [hγ k hkk] at hg
    obtain ⟨h1, h2, h3⟩ := h.tlo k g hkk hg
    exact ⟨by rw [hx.B]; exact h1, by omega, fun b hl => by rw [hρ b hl]; exact h3 b hl⟩
  · intro k k' g hkk hkk' hg hg'
    rw [hnt] at hkk hkk'
    rw [hγ k hkk] at hg
    rw [hγ k' hkk'] at hg'
    exact h.tinj k k' g hkk hkk' hg hg'
/-- What is left of it when more is known. -/
theorem EnvRel.comap {E' : Type} {g : E' → E} {e' : E'} {env : Env E} {t : Array Value} (h : EnvRel G w (g e') env t) : EnvRel G w e' (env.comap g) t := by
  intro u
  have hg : ∀ (l : Env E), (Env.comap g l).get u = (l.get u).comap g := by
    intro l
    induction l with
    | nil => rfl
    | cons p l ih =>
      obtain ⟨x, y⟩ := p
      simp only [Env.comap, Env.get]
      split
      · rfl
      · exact ih
  rw [hg]
  exact (AV.Rel.comap _ _).2 (h u)
theorem StkRel.comap {E' : Type} {g : E' → E} {e' : E'} : ∀ {ss : List (Env E)} {ts : List (Array Value)}, StkRel G w (g e') ss ts → StkRel G w e' (ss.map (Env.comap g)) ts
  | [], _, h => h
  | s :: ss, _, h => by obtain ⟨t, ts, rfl, h1, h2⟩ := h; exact ⟨t, ts, rfl, h1.comap, h2.comap⟩
theorem live_comap {E' : Type} {g : E' → E} {bs : List (Blk E)} {b : Nat} : Live (bs.map (Blk.comap g)) b ↔ Live bs b := by
  unfold Live
  rw [List.getElem?_map]
  cases bs[b]? with
  | none => simp
  | some B => cases B <;> simp [Blk.comap]
theorem RelG.comap {E' : Type} {g : E' → E} {e' : E'} (h : RelG Z w0 s (g e') acts a w G) : RelG Z w0 (s.comap g) e' acts a w G := by
  refine ⟨h.B, h.bel, h.defers, h.size, by rw [h.nb]; simp [St.comap], h.nt, h.fz, h.tm.comap, h.stk.comap, ?_, ?_, ?_, ?_, h.tinj, h.zz⟩
  · intro b B hB
    simp only [St.comap, List.getElem?_map, Option.map_eq_some_iff] at hB
    obtain ⟨B0, hB0, rfl⟩ := hB
    have := h.blk b B0 hB0
    cases B0 with
    | dead => trivial
    | cells el cs =>
      obtain ⟨us, h1, h2, h3⟩ := this
      exact ⟨us, h1, (AV.Rels.comap _ _).2 h2, h3⟩
  · intro b hl; exact h.lo b (live_comap.1 hl)
  · intro b b' hl hl'; exact h.inj b b' (live_comap.1 hl) (live_comap.1 hl')
  · intro k g' hk hg
    obtain ⟨h1, h2, h3⟩ := h.tlo k g' hk hg
    exact ⟨h1, h2, fun b hl => h3 b (live_comap.1 hl)⟩
/-! ### contracts -/
/-- One value, or several. -/
def packV : List Value → Value
  | [v] => v
  | vs => .tuple vs.toArray
def ResRel (Φ : Fz) (w : World) (l : List Ty) (r : Tup l) (v : Value) : Prop := ∃ vs, TupRel Φ w l r vs ∧ v = packV vs
def Spec.Sound (P : Program) (T : World → Prop) (f : FuncId) (S : Spec) : Prop :=
  ∀ (k : Nat) (x : Tup S.args) (r : Tup S.res), S.F k x = some r → ∀ (Φ : Fz) (w : World) (vs : Array Value), T w → (∀ b i, Φ b i → b < w.heap.size) → TupRel Φ w S.args x vs.toList →
    Calls P f vs w fun en w' => ∃ (v : Value) (Φ' : Fz), en = .returned v ∧ Below w.heap.size w w' ∧ (∀ b i, Φ b i → Φ' b i) ∧ (∀ b i, b < w.heap.size → Φ' b i → Φ b i) ∧ (∀ b i, Φ' b i → b < w'.heap.size) ∧ ResRel Φ' w' S.res r v
/-- What the functions do that are told as a whole. -/
def Spx.OK (P : Program) (f : FuncId) : Spx → Prop
  | .copy T => ∀ (w : World) (b : Nat) (c0 v : Value), w.heap[b]? = some (.cells #[c0, v] T (0, 0)) → (c0 = .pointer none ∨ c0 = .pointer (some ⟨b, 0, none⟩)) →
    Calls P f #[.pointer (some ⟨b, 0, none⟩)] w fun en w' => en = .returned (.tuple #[]) ∧ w'.os = w.os ∧ w'.tape = w.tape ∧ w'.output = w.output ∧ w'.heap.size = w.heap.size ∧ (∀ g, g ≠ b → w'.heap[g]? = w.heap[g]?) ∧
      w'.heap[b]? = some (.cells #[.pointer (some ⟨b, 0, none⟩), v] T (0, 0))
  | .str T eb => ∀ (w : World) (b B : Nat) (c0 v : Value) (l : List Int), w.heap[b]? = some (.cells #[c0, v] T (0, 0)) → w.ownsRow B eb 1 v l.length (l.map fun n => .int .u8 n) → (l = [] → v = .slice none 0 0) →
    Calls P f #[.pointer (some ⟨b, 0, none⟩)] w fun en w' => en = .returned (.string (ofBytes l)) ∧ w'.os = w.os ∧ w'.tape = w.tape ∧ w'.output = w.output ∧ w.heap.size ≤ w'.heap.size ∧ (∀ g, g < w.heap.size → v.ownBlock ≠ some g → w'.heap[g]? = w.heap[g]?) ∧
      ∀ g i, v.ownBlock = some g → w'.cell? ⟨g, i, none⟩ = w.cell? ⟨g, i, none⟩
def Con.OK (P : Program) (T : World → Prop) (f : FuncId) : Con → Prop
  | .fn S => S.Sound P T f
  | .x X => X.OK P f
theorem TupRel.length {Φ : Fz} {w : World} : ∀ {l : List Ty} {x : Tup l} {vs : List Value}, TupRel Φ w l x vs → vs.length = l.length
  | [], _, _, h => by rw [show _ = [] from h]; rfl
  | [t], _, _, h => by obtain ⟨v, rfl, _⟩ := h; rfl
  | t :: u :: l, _, _, h => by obtain ⟨v, vs, rfl, _, h2⟩ := h; simp [h2.length]
theorem pack_rel {l : List Ty} {x : E → Tup l} {v : Value} (h : ResRel G.Φ w l (x e) v) : (oneOrTup (ofTup l x)).Rel G w e v := by
  obtain ⟨vs, h1, rfl⟩ := h
  have h2 := ofTup_rel h1
  match hc : ofTup l x, h2 with
  | [], h2 => rw [show vs = [] from h2]; exact ⟨#[], rfl, rfl⟩
  | [c], h2 =>
    obtain ⟨u, r, rfl, h3, h4⟩ := h2
    rw [show r = [] from h4]
    exact h3
  | c :: d :: cs, h2 =>
    obtain ⟨u, r, rfl, h3, v, r', rfl, h4, h5⟩ := h2
    exact ⟨_, rfl, ⟨u, _, rfl, h3, v, _, rfl, h4, h5⟩⟩
/-- What a step leaves: the compiler goes on from here. -/
def After {R : Type} (Z : Fz) (w0 : World) (acts : List (Array Value)) (K : Kont R) (r : R) (G : Gh) (w : World) (a' : Act) (w' : World) : Prop :=
  ∃ (E' : Type) (s' : St E') (e' : E') (F' : E' → Option R) (G' : Gh), K E' s' = some F' ∧ F' e' = some r ∧ RelG Z w0 s' e' acts a' w' G' ∧ FExt G.Φ w G'.Φ w'
/-- The same, our own blocks being left as they are. -/
def AfterK {R : Type} (Z : Fz) (w0 : World) (acts : List (Array Value)) (K : Kont R) (r : R) (G : Gh) (bs : Nat → Prop) (w : World) (a' : Act) (w' : World) : Prop :=
  ∃ (E' : Type) (s' : St E') (e' : E') (F' : E' → Option R) (G' : Gh), K E' s' = some F' ∧ F' e' = some r ∧ RelG Z w0 s' e' acts a' w' G' ∧ FExt G.Φ w G'.Φ w' ∧ G'.ρ = G.ρ ∧ (∀ b, Live s'.blocks b ↔ bs b) ∧ ∀ b, bs b → w'.heap[G.ρ b]? = w.heap[G.ρ b]?
theorem AfterK.to {R : Type} {w0 : World} {Z : Fz} {acts : List (Array Value)} {K : Kont R} {r : R} {G : Gh} {bs : Nat → Prop} {w : World} {a' : Act} {w' : World} (h : AfterK Z w0 acts K r G bs w a' w') : After Z w0 acts K r G w a' w' := by
  obtain ⟨E', s', e', F', G', h1, h2, h3, h4, _⟩ := h
  exact ⟨E', s', e', F', G', h1, h2, h3, h4⟩
theorem put_blocks (s : St E) (d : Option Tmp) (v : AV E) : (s.put d v).blocks = s.blocks := by cases d <;> rfl
theorem callSpec_soundK {R : Type} {K : Kont R} {k : Nat} {S : Spec} {T : World → Prop} {f : FuncId} {args : List (AV E)} {dst : Option Tmp} {F : E → Option R} {r : R} (hS : S.Sound P T f) (h : callSpec k S args s dst K = some F) (hF : F e = some r)
    (hr : RelG Z w0 s e acts a w G) (hT : T w) (hd : dstOk' s dst) {vs : Array Value} (hargs : AV.Rels G w e args vs.toList) :
    Calls P f vs w fun en w' => ∃ v, en = .returned v ∧ AfterK Z w0 acts K r G (Live s.blocks) w (a.put dst v) w' := by
  unfold callSpec at h
  simp only [Option.bind_eq_some_iff] at h
  obtain ⟨x, hx, F1, hF1, h⟩ := h
  obtain rfl := Option.some.inj h
  simp only [bindO, Option.bind_eq_some_iff] at hF
  obtain ⟨y, hy, hF⟩ := hF
  refine (hS k (x e) y hy G.Φ w vs hT hr.fz (toTup_rel hx hargs)).mono ?_
  rintro en w' ⟨v, Φ', rfl, hb, h1, h2, h3, h4⟩
  have hlive0 : ∀ b, Live s.blocks b → G.ρ b < w.heap.size := by
    rintro b ⟨el, cs, hl⟩
    obtain ⟨us, hk, _⟩ := hr.blk b _ hl
    obtain ⟨ob, hh⟩ := hk.some
    exact (Array.getElem?_eq_some_iff.1 hh).1
  refine ⟨v, rfl, E × Tup S.res, _, (e, y), F1, { G with Φ := Φ' }, hF1, hF, ?_, ?_, rfl, (fun b => by rw [put_blocks]; exact live_comap), fun b hl => hb.block _ (hlive0 b hl)⟩
  · have hfz : FExt G.Φ w Φ' w' := ⟨h1, fun b i hbi => hb.cell (p := ⟨b, i, none⟩) (hr.fz b i hbi)⟩
    have hx : GExt G w { G with Φ := Φ' } w' := ⟨hfz, Nat.le_refl _, Nat.le_refl _, rfl, fun _ _ => rfl, fun j hj bo hbo => ⟨hbo, fun g hg => by
      subst hg
      have hlt := (hr.tlo j g hj hbo).2.1
      exact ⟨hb.block g hlt, fun i hi => h2 g i hlt hi⟩⟩⟩
    have hlive : ∀ b, Live s.blocks b → G.ρ b < w.heap.size := by
      rintro b ⟨el, cs, hl⟩
      obtain ⟨us, hk, _⟩ := hr.blk b _ hl
      obtain ⟨ob, hh⟩ := hk.some
      exact (Array.getElem?_eq_some_iff.1 hh).1
    have hr1 : RelG Z w0 s e acts a w' { G with Φ := Φ' } := hr.ext hx (hr.bel.trans (hb.mono (hr.bel.size))) rfl rfl h3 (fun b hl => ⟨hb.block _ (hlive b hl), fun i hi => by
      obtain ⟨el, cs, hl'⟩ := id hl
      obtain ⟨us, _, _, hn⟩ := hr.blk b _ hl'
      exact hn i (h2 _ i (hlive b hl) hi)⟩) hb.size (fun _ _ => rfl) (fun b i hb0 hi => h2 b i (Nat.lt_of_lt_of_le hb0 hr.bel.size) hi)
    have hr2 : RelG Z w0 (s.comap (Prod.fst : E × Tup S.res → E)) (e, y) acts a w' { G with Φ := Φ' } := RelG.comap hr1
    exact hr2.put hd (pack_rel (x := Prod.snd) h4)
  · exact ⟨h1, fun b i hbi => hb.cell (p := ⟨b, i, none⟩) (hr.fz b i hbi)⟩
theorem callSpec_sound {R : Type} {K : Kont R} {k : Nat} {S : Spec} {T : World → Prop} {f : FuncId} {args : List (AV E)} {dst : Option Tmp} {F : E → Option R} {r : R} (hS : S.Sound P T f) (h : callSpec k S args s dst K = some F) (hF : F e = some r)
    (hr : RelG Z w0 s e acts a w G) (hT : T w) (hd : dstOk' s dst) {vs : Array Value} (hargs : AV.Rels G w e args vs.toList) :
    Calls P f vs w fun en w' => ∃ v, en = .returned v ∧ After Z w0 acts K r G w (a.put dst v) w' :=
  (callSpec_soundK hS h hF hr hT hd hargs).mono fun _ _ ⟨v, h1, h2⟩ => ⟨v, h1, h2.to⟩
end
end Go.Proofs.YtkjjegjafpefcaaDoor.R
