/- What changes the memory -/
import Derived.Test.YtmmbedlegmbppaaDoorQ3
import Derived.Laws.Append
import Derived.Laws.CopyRow
import Derived.Lib.AppendStr
import Derived.Lib.ConvBytes
/- What a state says of the whole memory; a step that puts a value; a call by its contract. -/
namespace Go.Proofs.YtmmbedlegmbppaaDoor.R
open Go Go.RowKit
set_option linter.unusedVariables false
set_option linter.unusedSimpArgs false
def StkRel {E : Type} (G : Gh) (w : World) (e : E) : List (Env E) → List (Array Value) → Prop
  | [], acts => acts = []
  | s :: ss, acts => ∃ t ts, acts = t :: ts ∧ EnvRel G w e s t ∧ StkRel G w e ss ts
/-- What was there ahead of the call: the frozen cells; the blocks that may be written. -/
structure Zf where
  fz : Fz
  op : Nat → Prop
/-- Below a number, but for some blocks, the world is as it was. -/
structure BelX (op : Nat → Prop) (B : Nat) (w w' : World) : Prop where
  os : w'.os = w.os
  tape : w'.tape = w.tape
  output : w'.output = w.output
  size : w.heap.size ≤ w'.heap.size
  block : ∀ k, k < B → ¬ op k → w'.heap[k]? = w.heap[k]?
theorem BelX.refl (op : Nat → Prop) (B : Nat) (w : World) : BelX op B w w := ⟨rfl, rfl, rfl, Nat.le_refl _, fun _ _ _ => rfl⟩
theorem BelX.transX {op op' : Nat → Prop} {B B' : Nat} {a b c : World} (h : BelX op B a b) (k : BelX op' B' b c) (hB : B ≤ B') (hop : ∀ i, i < B → op' i → op i) : BelX op B a c :=
  ⟨k.os.trans h.os, k.tape.trans h.tape, k.output.trans h.output, Nat.le_trans h.size k.size, fun i hi hn => (k.block i (Nat.lt_of_lt_of_le hi hB) (fun ho => hn (hop i hi ho))).trans (h.block i hi hn)⟩
theorem BelX.trans {op : Nat → Prop} {B : Nat} {a b c : World} (h : BelX op B a b) (k : Below B b c) : BelX op B a c :=
  ⟨k.os.trans h.os, k.tape.trans h.tape, k.output.trans h.output, Nat.le_trans h.size k.size, fun i hi hn => (k.block i hi).trans (h.block i hi hn)⟩
theorem BelX.below {B : Nat} {a b : World} (h : BelX (fun _ => False) B a b) : Below B a b := ⟨h.os, h.tape, h.output, h.size, fun i hi => h.block i hi (fun x => x)⟩
structure RelG {E : Type} (Z : Zf) (w0 : World) (s : St E) (e : E) (acts : List (Array Value)) (a : Act) (w : World) (G : Gh) : Prop where
  B : G.B = w0.heap.size
  bel : BelX Z.op w0.heap.size w0 w
  defers : a.defers = []
  size : a.tmps.size = s.size
  nb : G.nb = s.blocks.length
  nt : G.nt = s.nt
  fz : ∀ b i, G.Φ b i → b < w.heap.size
  tm : EnvRel G w e s.tmps a.tmps
  stk : StkRel G w e s.stack acts
  blk : BlksRel G w e s.blocks
  lo : ∀ b, Live s.blocks b → G.B ≤ G.ρ b ∨ Z.op (G.ρ b)
  inj : ∀ b b', Live s.blocks b → Live s.blocks b' → G.ρ b = G.ρ b' → b = b'
  tlo : ∀ k g, k < G.nt → G.γ k = some (some g) → G.B ≤ g ∧ g < w.heap.size ∧ ∀ b, Live s.blocks b → G.ρ b ≠ g
  tinj : ∀ k k' g, k < G.nt → k' < G.nt → G.γ k = some (some g) → G.γ k' = some (some g) → k = k'
  zz : (∀ b i, Z.fz b i → G.Φ b i) ∧ ∀ b i, b < w0.heap.size → G.Φ b i → Z.fz b i
section
variable {E : Type} {G : Gh} {w w0 : World} {Z : Zf} {e : E} {P : Program} {s : St E} {a : Act} {acts : List (Array Value)}
theorem Env.get_set (l : Env E) (t u : Nat) (v : AV E) : (l.set t v).get u = if u = t then v else l.get u := by
  induction l with
  | nil =>
    simp only [Env.set, Env.get]
    by_cases h : t = u
    · rw [if_pos h, if_pos h.symm]
    · rw [if_neg h, if_neg (Ne.symm h)]
  | cons p l ih =>
    obtain ⟨x, y⟩ := p
    unfold Env.set
    by_cases hx : x = t
    · rw [if_pos hx]
      subst hx
      simp only [Env.get]
      by_cases h : x = u
      · rw [if_pos h, if_pos h.symm]
      · rw [if_neg h, if_neg (Ne.symm h), if_neg h]
    · rw [if_neg hx]
      simp only [Env.get]
      by_cases h : x = u
      · rw [if_pos h, if_neg (by omega)]
        rw [if_pos h]
      · rw [if_neg h, if_neg h, ih]
theorem getD_set (t : Array Value) (d u : Nat) (v : Value) (h : d < t.size) : (t.setIfInBounds d v).getD u undef = if u = d then v else t.getD u undef := by
  by_cases hu : u = d
  · subst hu
    rw [if_pos rfl]
    simp [Array.getD, h]
  · rw [if_neg hu]
    have : (t.setIfInBounds d v)[u]? = t[u]? := Array.getElem?_setIfInBounds_ne (Ne.symm hu)
    simp only [Array.getD_eq_getD_getElem?, this]
theorem EnvRel.set {env : Env E} {t : Array Value} {d : Nat} {av : AV E} {v : Value} (h : EnvRel G w e env t) (hd : d < t.size) (hv : av.Rel G w e v) : EnvRel G w e (env.set d av) (t.setIfInBounds d v) := by
  intro u
  rw [Env.get_set, getD_set _ _ _ _ hd]
  by_cases hu : u = d
  · rw [if_pos hu, if_pos hu]; exact hv
  · rw [if_neg hu, if_neg hu]; exact h u
theorem EnvRel.mono {env : Env E} {t : Array Value} {G' : Gh} {w' : World} (hx : GExt G w G' w') (h : EnvRel G w e env t) : EnvRel G' w' e env t := fun u => (h u).mono hx
theorem StkRel.mono {G' : Gh} {w' : World} (hx : GExt G w G' w') : ∀ {ss : List (Env E)} {ts : List (Array Value)}, StkRel G w e ss ts → StkRel G' w' e ss ts
  | [], _, h => h
  | s :: ss, _, h => by obtain ⟨t, ts, rfl, h1, h2⟩ := h; exact ⟨t, ts, rfl, h1.mono hx, h2.mono hx⟩
def dstOk' (s : St E) (d : Option Tmp) : Prop := ∀ t, d = some t → t < s.size
theorem dstOk_spec {o : Oper} (h : dstOk s o = true) : dstOk' s o.dst := by
  intro t ht
  unfold dstOk at h
  rw [ht] at h
  simpa using h
/-- A value is put. -/
theorem RelG.put (h : RelG Z w0 s e acts a w G) {d : Option Tmp} (hd : dstOk' s d) {av : AV E} {v : Value} (hv : av.Rel G w e v) : RelG Z w0 (s.put d av) e acts (a.put d v) w G := by
  cases d with
  | none => exact h
  | some t =>
    have ht := hd t rfl
    exact ⟨h.B, h.bel, h.defers, by simp [Act.put, St.put, h.size], h.nb, h.nt, h.fz, h.tm.set (by rw [h.size]; exact ht) hv, h.stk, h.blk, h.lo, h.inj, h.tlo, h.tinj, h.zz⟩
/-- The memory goes on, our own blocks being left as they are. -/
theorem RelG.ext (h : RelG Z w0 s e acts a w G) {G' : Gh} {w' : World} (hx : GExt G w G' w') (hb : BelX Z.op w0.heap.size w0 w') (hnb : G'.nb = G.nb) (hnt : G'.nt = G.nt) (hfz : ∀ b i, G'.Φ b i → b < w'.heap.size)
    (hk : ∀ b, Live s.blocks b → w'.heap[G.ρ b]? = w.heap[G.ρ b]? ∧ ∀ i, ¬ G'.Φ (G.ρ b) i) (hsz : w.heap.size ≤ w'.heap.size) (hγ : ∀ k, k < G.nt → G'.γ k = G.γ k) (hz : ∀ b i, b < w0.heap.size → G'.Φ b i → G.Φ b i) : RelG Z w0 s e acts a w' G' := by
  have hlt : ∀ b, Live s.blocks b → b < G.nb := fun b ⟨el, cs, hl⟩ => by rw [h.nb]; exact (List.getElem?_eq_some_iff.1 hl).1
  have hρ : ∀ b, Live s.blocks b → G'.ρ b = G.ρ b := fun b hl => hx.ρ b (hlt b hl)
  refine ⟨hx.B.trans h.B, hb, h.defers, h.size, hnb.trans h.nb, hnt.trans h.nt, hfz, h.tm.mono hx, h.stk.mono hx, ?_, ?_, ?_, ?_, ?_, ⟨fun b i hb => hx.fz.sub b i (h.zz.1 b i hb), fun b i hb hi => h.zz.2 b i hb (hz b i hb hi)⟩⟩
  · intro b B hB
    have := h.blk b B hB
    cases B with
    | dead => trivial
    | cells el cs =>
      obtain ⟨us, h1, h2, h3⟩ := this
      have hl : Live s.blocks b := ⟨el, cs, hB⟩
      exact ⟨us, by rw [hρ b hl, (hk b hl).1]; exact h1, AV.Rels.mono hx _ _ h2, by rw [hρ b hl]; exact (hk b hl).2⟩
  · intro b hl
    rw [hρ b hl, hx.B]; exact h.lo b hl
  · intro b b' hl hl' heq
    rw [hρ b hl, hρ b' hl'] at heq
    exact h.inj b b' hl hl' heq
  · intro k g hkk hg
    rw [hnt] at hkk
    rw [hγ k hkk] at hg
    obtain ⟨h1, h2, h3⟩ := h.tlo k g hkk hg
    exact ⟨by rw [hx.B]; exact h1, by omega, fun b hl => by rw [hρ b hl]; exact h3 b hl⟩
  · intro k k' g hkk hkk' hg hg'
    rw [hnt] at hkk hkk'
    rw [hγ k hkk] at hg
    rw [hγ k' hkk'] at hg'
    exact h.tinj k k' g hkk hkk' hg hg'
/-- What is left of it when more is known. -/
theorem EnvRel.comap {E' : Type} {g : E' → E} {e' : E'} {env : Env E} {t : Array Value} (h : EnvRel G w (g e') env t) : EnvRel G w e' (env.comap g) t := by
  intro u
  have hg : ∀ (l : Env E), (Env.comap g l).get u = (l.get u).comap g := by
    intro l
    induction l with
    | nil => rfl
    | cons p l ih =>
      obtain ⟨x, y⟩ := p
      simp only [Env.comap, Env.get]
      split
      · rfl
      · exact ih
  rw [hg]
  exact (AV.Rel.comap _ _).2 (h u)
theorem StkRel.comap {E' : Type} {g : E' → E} {e' : E'} : ∀ {ss : List (Env E)} {ts : List (Array Value)}, StkRel G w (g e') ss ts → StkRel G w e' (ss.map (Env.comap g)) ts
  | [], _, h => h
  | s :: ss, _, h => by obtain ⟨t, ts, rfl, h1, h2⟩ := h; exact ⟨t, ts, rfl, h1.comap, h2.comap⟩
theorem live_comap {E' : Type} {g : E' → E} {bs : List (Blk E)} {b : Nat} : Live (bs.map (Blk.comap g)) b ↔ Live bs b := by
  unfold Live
  rw [List.getElem?_map]
  cases bs[b]? with
  | none => simp
  | some B => cases B <;> simp [Blk.comap]
theorem RelG.comap {E' : Type} {g : E' → E} {e' : E'} (h : RelG Z w0 s (g e') acts a w G) : RelG Z w0 (s.comap g) e' acts a w G := by
  refine ⟨h.B, h.bel, h.defers, h.size, by rw [h.nb]; simp [St.comap], h.nt, h.fz, h.tm.comap, h.stk.comap, ?_, ?_, ?_, ?_, h.tinj, h.zz⟩
  · intro b B hB
    simp only [St.comap, List.getElem?_map, Option.map_eq_some_iff] at hB
    obtain ⟨B0, hB0, rfl⟩ := hB
    have := h.blk b B0 hB0
    cases B0 with
    | dead => trivial
    | cells el cs =>
      obtain ⟨us, h1, h2, h3⟩ := this
      exact ⟨us, h1, (AV.Rels.comap _ _).2 h2, h3⟩
  · intro b hl; exact h.lo b (live_comap.1 hl)
  · intro b b' hl hl'; exact h.inj b b' (live_comap.1 hl) (live_comap.1 hl')
  · intro k g' hk hg
    obtain ⟨h1, h2, h3⟩ := h.tlo k g' hk hg
    exact ⟨h1, h2, fun b hl => h3 b (live_comap.1 hl)⟩
/-! ### contracts -/
/-- One value, or several. -/
def packV : List Value → Value
  | [v] => v
  | vs => .tuple vs.toArray
def ResRel (Φ : Fz) (w : World) (l : List Ty) (r : Tup l) (v : Value) : Prop := ∃ vs, TupRel Φ w l r vs ∧ v = packV vs
def Spec.Sound (P : Program) (T : World → Prop) (f : FuncId) (S : Spec) : Prop :=
  ∀ (k : Nat) (x : Tup S.args) (r : Tup S.res), S.F k x = some r → ∀ (Φ : Fz) (w : World) (vs : Array Value), T w → (∀ b i, Φ b i → b < w.heap.size) → TupRel Φ w S.args x vs.toList →
    Calls P f vs w fun en w' => ∃ (v : Value) (Φ' : Fz), en = .returned v ∧ Below w.heap.size w w' ∧ (∀ b i, Φ b i → Φ' b i) ∧ (∀ b i, b < w.heap.size → Φ' b i → Φ b i) ∧ (∀ b i, Φ' b i → b < w'.heap.size) ∧ ResRel Φ' w' S.res r v
/-- What the functions do that are told as a whole. -/
def Spx.OK (P : Program) (f : FuncId) : Spx → Prop
  | .copy T => ∀ (w : World) (b : Nat) (c0 v : Value), w.heap[b]? = some (.cells #[c0, v] T (0, 0)) → (c0 = .pointer none ∨ c0 = .pointer (some ⟨b, 0, none⟩)) →
    Calls P f #[.pointer (some ⟨b, 0, none⟩)] w fun en w' => en = .returned (.tuple #[]) ∧ w'.os = w.os ∧ w'.tape = w.tape ∧ w'.output = w.output ∧ w'.heap.size = w.heap.size ∧ (∀ g, g ≠ b → w'.heap[g]? = w.heap[g]?) ∧
      w'.heap[b]? = some (.cells #[.pointer (some ⟨b, 0, none⟩), v] T (0, 0))
  | .str T eb => ∀ (w : World) (b B : Nat) (c0 v : Value) (l : List Int), w.heap[b]? = some (.cells #[c0, v] T (0, 0)) → w.ownsRow B eb 1 v l.length (l.map fun n => .int .u8 n) → (l = [] → v = .slice none 0 0) →
    Calls P f #[.pointer (some ⟨b, 0, none⟩)] w fun en w' => en = .returned (.string (ofBytes l)) ∧ w'.os = w.os ∧ w'.tape = w.tape ∧ w'.output = w.output ∧ w.heap.size ≤ w'.heap.size ∧ (∀ g, g < w.heap.size → v.ownBlock ≠ some g → w'.heap[g]? = w.heap[g]?) ∧
      ∀ g i, v.ownBlock = some g → w'.cell? ⟨g, i, none⟩ = w.cell? ⟨g, i, none⟩
def RSpec.Sound (P : Program) (T : World → Prop) (f : FuncId) (S : RSpec) : Prop :=
  ∀ (k : Nat) (x : Tup (.agg S.t :: S.args)) (r : Tup (.agg S.t :: S.res)), S.F k x = some r → ∀ (Φ : Fz) (w : World) (g : Nat) (us vs : Array Value), (∀ w', BelX (· = g) w.heap.size w w' → T w') → (∀ b i, Φ b i → b < w.heap.size) → (∀ i, ¬ Φ g i) →
    w.heap[g]? = some (.cells us S.el (0, 0)) → TupRel Φ w (.agg S.t :: S.args) x (.agg us :: vs.toList) →
    Calls P f (#[.pointer (some ⟨g, 0, none⟩)] ++ vs) w fun en w' => ∃ (us' : Array Value) (rs : List Value) (Φ' : Fz), en = .returned (packV rs) ∧ BelX (· = g) w.heap.size w w' ∧ (∀ b i, Φ b i → Φ' b i) ∧ (∀ b i, b < w.heap.size → Φ' b i → Φ b i) ∧ (∀ b i, Φ' b i → b < w'.heap.size) ∧
      w'.heap[g]? = some (.cells us' S.el (0, 0)) ∧ TupRel Φ' w' (.agg S.t :: S.res) r (.agg us' :: rs)
/-- A part of a body: what it leaves behind. -/
def FSpec.Sound (P : Program) (T : World → Prop) (S : FSpec) : Prop :=
  ∀ (k : Nat) (x : List (S.kd.den × S.vd.den)) (y : S.res.den), S.F k x = some y → ∀ (Φ : Fz) (a : Act) (w : World) (g : Nat) (ens : Array MapEntry) (clk : Nat) (Q : Exit → Act → World → Prop), T w → (∀ b i, Φ b i → b < w.heap.size) →
    a.defers = [] → a.tmps.size = S.size → a.tmps.getD S.m undef = .map (some g) → w.heap[g]? = some (.map ens clk) → MapIs Φ w S.kd S.vd x ens.toList → BornOK ens clk →
    (∀ (a' : Act) (w' : World) (v : Value) (Φ' : Fz), a'.defers = [] → a'.tmps.size = a.tmps.size → (∀ t, t ∉ S.d :: S.clob → a'.tmps.getD t undef = a.tmps.getD t undef) → a'.tmps.getD S.d undef = v → Below w.heap.size w w' →
      (∀ b i, Φ b i → Φ' b i) → (∀ b i, b < w.heap.size → Φ' b i → Φ b i) → (∀ b i, Φ' b i → b < w'.heap.size) → CRel Φ' w' S.res y [v] → Q .normal a' w') → S.code.wp P (Exit.then (S.then_.wp P (Exit.then (S.last_.wp P Q) Q)) Q) a w
/-- A part that reads one value: what it leaves behind. -/
def GSpec.Sound (P : Program) (T : World → Prop) (S : GSpec) : Prop :=
  ∀ (k : Nat) (x : S.a.den) (y : S.res.den), S.F k x = some y → ∀ (Φ : Fz) (a : Act) (w : World) (Q : Exit → Act → World → Prop), T w → (∀ b i, Φ b i → b < w.heap.size) →
    a.defers = [] → a.tmps.size = S.size → CRel Φ w S.a x [a.tmps.getD S.m undef] →
    (∀ (a' : Act) (w' : World) (v : Value) (Φ' : Fz), a'.defers = [] → a'.tmps.size = a.tmps.size → (∀ t, t ∉ S.d :: S.clob → a'.tmps.getD t undef = a.tmps.getD t undef) → a'.tmps.getD S.d undef = v → Below w.heap.size w w' →
      (∀ b i, Φ b i → Φ' b i) → (∀ b i, b < w.heap.size → Φ' b i → Φ b i) → (∀ b i, Φ' b i → b < w'.heap.size) → CRel Φ' w' S.res y [v] → Q .normal a' w') → S.code.wp P (Exit.then (S.then_.wp P Q) Q) a w
def Con.OK (P : Program) (T : World → Prop) (f : FuncId) : Con → Prop
  | .fn S => S.Sound P T f
  | .x X => X.OK P f
  | .ref S => S.Sound P T f
  | .frag S => S.Sound P T
  | .part S => S.Sound P T
theorem TupRel.length {Φ : Fz} {w : World} : ∀ {l : List Ty} {x : Tup l} {vs : List Value}, TupRel Φ w l x vs → vs.length = l.length
  | [], _, _, h => by rw [show _ = [] from h]; rfl
  | [t], _, _, h => by obtain ⟨v, rfl, _⟩ := h; rfl
  | t :: u :: l, _, _, h => by obtain ⟨v, vs, rfl, _, h2⟩ := h; simp [h2.length]
theorem pack_rel {l : List Ty} {x : E → Tup l} {v : Value} (h : ResRel G.Φ w l (x e) v) : (oneOrTup (ofTup l x)).Rel G w e v := by
  obtain ⟨vs, h1, rfl⟩ := h
  have h2 := ofTup_rel h1
  match hc : ofTup l x, h2 with
  | [], h2 => rw [show vs = [] from h2]; exact ⟨#[], rfl, rfl⟩
  | [c], h2 =>
    obtain ⟨u, r, rfl, h3, h4⟩ := h2
    rw [show r = [] from h4]
    exact h3
  | c :: d :: cs, h2 =>
    obtain ⟨u, r, rfl, h3, v, r', rfl, h4, h5⟩ := h2
    exact ⟨_, rfl, ⟨u, _, rfl, h3, v, _, rfl, h4, h5⟩⟩
/-- What a step leaves: the compiler goes on from here. -/
def After {R : Type} (Z : Zf) (w0 : World) (acts : List (Array Value)) (K : Kont R) (r : R) (G : Gh) (w : World) (a' : Act) (w' : World) : Prop :=
  ∃ (E' : Type) (s' : St E') (e' : E') (F' : E' → Option R) (G' : Gh), K E' s' = some F' ∧ F' e' = some r ∧ RelG Z w0 s' e' acts a' w' G' ∧ FExt G.Φ w G'.Φ w'
/-- The same, our own blocks being left as they are. -/
def AfterK {R : Type} (Z : Zf) (w0 : World) (acts : List (Array Value)) (K : Kont R) (r : R) (G : Gh) (bs : Nat → Prop) (w : World) (a' : Act) (w' : World) : Prop :=
  ∃ (E' : Type) (s' : St E') (e' : E') (F' : E' → Option R) (G' : Gh), K E' s' = some F' ∧ F' e' = some r ∧ RelG Z w0 s' e' acts a' w' G' ∧ FExt G.Φ w G'.Φ w' ∧ G'.ρ = G.ρ ∧ (∀ b, Live s'.blocks b ↔ bs b) ∧ ∀ b, bs b → w'.heap[G.ρ b]? = w.heap[G.ρ b]?
theorem AfterK.to {R : Type} {w0 : World} {Z : Zf} {acts : List (Array Value)} {K : Kont R} {r : R} {G : Gh} {bs : Nat → Prop} {w : World} {a' : Act} {w' : World} (h : AfterK Z w0 acts K r G bs w a' w') : After Z w0 acts K r G w a' w' := by
  obtain ⟨E', s', e', F', G', h1, h2, h3, h4, _⟩ := h
  exact ⟨E', s', e', F', G', h1, h2, h3, h4⟩
theorem put_blocks (s : St E) (d : Option Tmp) (v : AV E) : (s.put d v).blocks = s.blocks := by cases d <;> rfl
theorem callSpec_soundK {R : Type} {K : Kont R} {k : Nat} {S : Spec} {T : World → Prop} {f : FuncId} {args : List (AV E)} {dst : Option Tmp} {F : E → Option R} {r : R} (hS : S.Sound P T f) (h : callSpec k S args s dst K = some F) (hF : F e = some r)
    (hr : RelG Z w0 s e acts a w G) (hT : T w) (hd : dstOk' s dst) {vs : Array Value} (hargs : AV.Rels G w e args vs.toList) :
    Calls P f vs w fun en w' => ∃ v, en = .returned v ∧ AfterK Z w0 acts K r G (Live s.blocks) w (a.put dst v) w' := by
  unfold callSpec at h
  simp only [Option.bind_eq_some_iff] at h
  obtain ⟨x, hx, F1, hF1, h⟩ := h
  obtain rfl := Option.some.inj h
  simp only [bindO, Option.bind_eq_some_iff] at hF
  obtain ⟨y, hy, hF⟩ := hF
  refine (hS k (x e) y hy G.Φ w vs hT hr.fz (toTup_rel hx hargs)).mono ?_
  rintro en w' ⟨v, Φ', rfl, hb, h1, h2, h3, h4⟩
  have hlive0 : ∀ b, Live s.blocks b → G.ρ b < w.heap.size := by
    rintro b ⟨el, cs, hl⟩
    obtain ⟨us, hk, _⟩ := hr.blk b _ hl
    obtain ⟨ob, hh⟩ := hk.some
    exact (Array.getElem?_eq_some_iff.1 hh).1
  refine ⟨v, rfl, E × Tup S.res, _, (e, y), F1, { G with Φ := Φ' }, hF1, hF, ?_, ?_, rfl, (fun b => by rw [put_blocks]; exact live_comap), fun b hl => hb.block _ (hlive0 b hl)⟩
  · have hfz : FExt G.Φ w Φ' w' := ⟨h1, fun b i hbi => hb.cell (p := ⟨b, i, none⟩) (hr.fz b i hbi)⟩
    have hx : GExt G w { G with Φ := Φ' } w' := ⟨hfz, Nat.le_refl _, Nat.le_refl _, rfl, fun _ _ => rfl, fun j hj bo hbo => ⟨hbo, fun g hg => by
      subst hg
      have hlt := (hr.tlo j g hj hbo).2.1
      exact ⟨hb.block g hlt, fun i hi => h2 g i hlt hi⟩⟩⟩
    have hlive : ∀ b, Live s.blocks b → G.ρ b < w.heap.size := by
      rintro b ⟨el, cs, hl⟩
      obtain ⟨us, hk, _⟩ := hr.blk b _ hl
      obtain ⟨ob, hh⟩ := hk.some
      exact (Array.getElem?_eq_some_iff.1 hh).1
    have hr1 : RelG Z w0 s e acts a w' { G with Φ := Φ' } := hr.ext hx (hr.bel.trans (hb.mono (hr.bel.size))) rfl rfl h3 (fun b hl => ⟨hb.block _ (hlive b hl), fun i hi => by
      obtain ⟨el, cs, hl'⟩ := id hl
      obtain ⟨us, _, _, hn⟩ := hr.blk b _ hl'
      exact hn i (h2 _ i (hlive b hl) hi)⟩) hb.size (fun _ _ => rfl) (fun b i hb0 hi => h2 b i (Nat.lt_of_lt_of_le hb0 hr.bel.size) hi)
    have hr2 : RelG Z w0 (s.comap (Prod.fst : E × Tup S.res → E)) (e, y) acts a w' { G with Φ := Φ' } := RelG.comap hr1
    exact hr2.put hd (pack_rel (x := Prod.snd) h4)
  · exact ⟨h1, fun b i hbi => hb.cell (p := ⟨b, i, none⟩) (hr.fz b i hbi)⟩
theorem callSpec_sound {R : Type} {K : Kont R} {k : Nat} {S : Spec} {T : World → Prop} {f : FuncId} {args : List (AV E)} {dst : Option Tmp} {F : E → Option R} {r : R} (hS : S.Sound P T f) (h : callSpec k S args s dst K = some F) (hF : F e = some r)
    (hr : RelG Z w0 s e acts a w G) (hT : T w) (hd : dstOk' s dst) {vs : Array Value} (hargs : AV.Rels G w e args vs.toList) :
    Calls P f vs w fun en w' => ∃ v, en = .returned v ∧ After Z w0 acts K r G w (a.put dst v) w' :=
  (callSpec_soundK hS h hF hr hT hd hargs).mono fun _ _ ⟨v, h1, h2⟩ => ⟨v, h1, h2.to⟩
end
end Go.Proofs.YtmmbedlegmbppaaDoor.R
/- What changes the memory: new blocks, stores, rows that are appended to. -/
namespace Go.Proofs.YtmmbedlegmbppaaDoor.R
open Go Go.RowKit
set_option linter.unusedVariables false
set_option linter.unusedSimpArgs false
section
variable {E : Type} {G : Gh} {w w0 : World} {Z : Zf} {e : E} {P : Program} {s : St E} {a : Act} {acts : List (Array Value)}
theorem RelG.live_lt (hr : RelG Z w0 s e acts a w G) {b : Nat} (h : Live s.blocks b) : b < G.nb ∧ G.ρ b < w.heap.size := by
  obtain ⟨el, cs, hl⟩ := h
  obtain ⟨us, hk, _⟩ := hr.blk b _ hl
  obtain ⟨ob, hh⟩ := hk.some
  exact ⟨by rw [hr.nb]; exact (List.getElem?_eq_some_iff.1 hl).1, (Array.getElem?_eq_some_iff.1 hh).1⟩
theorem cell_alloc {o : Obj} {b i : Nat} (h : b < w.heap.size) : (w.alloc o).cell? ⟨b, i, none⟩ = w.cell? ⟨b, i, none⟩ := World.cell?_of_block (w := w) (a := ⟨b, i, none⟩) (heap_alloc_old w o b h)
/-- A new block of our own. -/
def Gh.newBlk (G : Gh) (w : World) : Gh := { G with ρ := fun b => if b = G.nb then w.heap.size else G.ρ b, nb := G.nb + 1 }
theorem newBlk_ext (hr : RelG Z w0 s e acts a w G) (o : Obj) : GExt G w (G.newBlk w) (w.alloc o) :=
  ⟨⟨fun _ _ h => h, fun b i h => cell_alloc (hr.fz b i h)⟩, Nat.le_succ _, Nat.le_refl _, rfl, fun b hb => by simp only [Gh.newBlk]; rw [if_neg (by omega)], fun k hk bo hbo => ⟨hbo, fun g hg => by
    subst hg
    exact ⟨heap_alloc_old w o g (hr.tlo k g hk hbo).2.1, fun i hi => hi⟩⟩⟩
theorem RelG.newBlk (hr : RelG Z w0 s e acts a w G) {K : BK} {ob : Obj} {cs : List (AV E)} {us : List Value} (hk : KIs (some ob) us K) (hc : AV.Rels G w e cs us) :
    RelG Z w0 (newBlk s K cs) e acts a (w.alloc ob) (G.newBlk w) ∧ (AV.ptr (E := E) s.blocks.length 0).Rel (G.newBlk w) (w.alloc ob) e (.pointer (some ⟨w.heap.size, 0, none⟩)) ∧ (AV.mp (E := E) s.blocks.length).Rel (G.newBlk w) (w.alloc ob) e (.map (some w.heap.size)) := by
  have hx := newBlk_ext hr ob
  have hnb : G.nb = s.blocks.length := hr.nb
  have hnew : (G.newBlk w).ρ s.blocks.length = w.heap.size := by simp only [Gh.newBlk]; rw [if_pos hnb.symm]
  have hlive : ∀ b, Live (s.blocks ++ [Blk.cells K cs]) b → b ≠ s.blocks.length → Live s.blocks b := by
    rintro b ⟨el', cs', hb⟩ hne
    rw [List.getElem?_append] at hb
    split at hb
    · exact ⟨el', cs', hb⟩
    · rename_i h1
      have : b - s.blocks.length ≠ 0 := by omega
      rw [List.getElem?_eq_none (by simp; omega)] at hb
      cases hb
  have hold : ∀ b, Live s.blocks b → (G.newBlk w).ρ b = G.ρ b := fun b hb => hx.ρ b (hr.live_lt hb).1
  refine ⟨⟨hr.B, hr.bel.trans ((Below.refl _ _).alloc hr.bel.size _), hr.defers, hr.size, by simp [R.newBlk, Gh.newBlk, hnb], hr.nt, ?_, hr.tm.mono hx, hr.stk.mono hx, ?_, ?_, ?_, ?_, hr.tinj, hr.zz⟩, ?_⟩
  · intro b i h
    have := hr.fz b i h
    simp; omega
  · intro b B hB
    simp only [R.newBlk] at hB
    rw [List.getElem?_append] at hB
    split at hB
    · rename_i hlt
      have h0 := hr.blk b B hB
      cases B with
      | dead => trivial
      | cells el' cs' =>
        obtain ⟨us', h1, h2, h3⟩ := h0
        have hl : Live s.blocks b := ⟨el', cs', hB⟩
        refine ⟨us', ?_, AV.Rels.mono hx _ _ h2, ?_⟩
        · rw [hold b hl, heap_alloc_old w _ _ (hr.live_lt hl).2]; exact h1
        · rw [hold b hl]; exact h3
    · rename_i hge
      have hb0 : b = s.blocks.length := by
        rcases Nat.lt_or_ge s.blocks.length b with h1 | h1
        · rw [List.getElem?_eq_none (by simp; omega)] at hB; cases hB
        · omega
      subst hb0
      rw [Nat.sub_self] at hB
      simp only [List.getElem?_cons_zero, Option.some.injEq] at hB
      subst hB
      refine ⟨us, by rw [hnew, heap_alloc_new w _]; exact hk, AV.Rels.mono hx _ _ hc, fun i hi => ?_⟩
      rw [hnew] at hi
      exact Nat.lt_irrefl _ (hr.fz _ _ hi)
  · intro b hl
    by_cases hb : b = s.blocks.length
    · rw [hb, hnew]; refine .inl ?_; show G.B ≤ _; rw [hr.B]; exact hr.bel.size
    · rw [hold b (hlive b hl hb)]; exact hr.lo b (hlive b hl hb)
  · intro b b' hl hl' heq
    by_cases hb : b = s.blocks.length <;> by_cases hb' : b' = s.blocks.length
    · omega
    · rw [hb, hnew, hold b' (hlive b' hl' hb')] at heq
      have := (hr.live_lt (hlive b' hl' hb')).2
      omega
    · rw [hb', hnew, hold b (hlive b hl hb)] at heq
      have := (hr.live_lt (hlive b hl hb)).2
      omega
    · rw [hold b (hlive b hl hb), hold b' (hlive b' hl' hb')] at heq
      exact hr.inj b b' (hlive b hl hb) (hlive b' hl' hb') heq
  · intro k g hk hg
    obtain ⟨h1, h2, h3⟩ := hr.tlo k g hk hg
    refine ⟨h1, by simp; omega, fun b hl => ?_⟩
    by_cases hb : b = s.blocks.length
    · rw [hb, hnew]; omega
    · rw [hold b (hlive b hl hb)]; exact h3 b (hlive b hl hb)
  · refine ⟨⟨by simp [Gh.newBlk, hnb], ?_⟩, by simp [Gh.newBlk, hnb], ?_⟩ <;> rw [hnew]
theorem putCells_list : ∀ (vs : List (AV E)) (cs : List (AV E)) (us ns : List Value) (o : Nat), AV.Rels G w e cs us → AV.Rels G w e vs ns → o + ns.length ≤ us.length → AV.Rels G w e (putCells cs o vs) (us.take o ++ ns ++ us.drop (o + ns.length))
  | [], cs, us, ns, o, h, hn, hl => by
    rw [show ns = [] from hn]
    simp only [putCells, List.append_nil, List.length_nil, Nat.add_zero, List.take_append_drop]
    exact h
  | v :: vs, cs, us, ns, o, h, hn, hl => by
    obtain ⟨u, r, rfl, h1, h2⟩ := hn
    have hlt : o < us.length := by simp at hl; omega
    have := putCells_list vs (cs.set o v) (us.set o u) r (o + 1) (h.set o h1) h2 (by simp at hl ⊢; omega)
    unfold putCells
    have he : us.take o ++ (u :: r) ++ us.drop (o + (u :: r).length) = (us.set o u).take (o + 1) ++ r ++ (us.set o u).drop (o + 1 + r.length) := by
      rw [List.drop_set_of_lt (by omega), List.take_set, List.set_eq_take_append_cons_drop]
      rw [if_pos (by simp; omega)]
      simp only [List.take_take, List.length_cons]
      rw [Nat.min_eq_left (by omega)]
      have : (us.take (o + 1)).drop (o + 1) = [] := by rw [List.drop_eq_nil_of_le (by simp; omega)]
      rw [this]
      simp [List.append_assoc, Nat.add_assoc, Nat.add_comm 1]
    rw [he]
    exact this
/-- A block of our own that holds something else now. -/
theorem RelG.turn (hr : RelG Z w0 s e acts a w G) {b : Nat} {K K' : BK} {cs vs : List (AV E)} {us' : List Value} {w' : World} (hb : s.blocks[b]? = some (.cells K cs)) (hos : w'.os = w.os) (htp : w'.tape = w.tape) (hout : w'.output = w.output) (hsz : w'.heap.size = w.heap.size)
    (hother : ∀ g, g ≠ G.ρ b → w'.heap[g]? = w.heap[g]?) (hthis : KIs (w'.heap[G.ρ b]?) us' K') (hv : AV.Rels G w e vs us') :
    RelG Z w0 { s with blocks := s.blocks.set b (.cells K' vs) } e acts a w' G ∧ FExt G.Φ w G.Φ w' := by
  have hlive : Live s.blocks b := ⟨K, cs, hb⟩
  have hblt := hr.live_lt hlive
  obtain ⟨us0, hu0, _, hn0⟩ := hr.blk b _ hb
  have hfx : FExt G.Φ w G.Φ w' := ⟨fun _ _ h => h, fun c i h => World.cell?_of_block (w := w) (a := ⟨c, i, none⟩) (hother c (fun he => hn0 i (he ▸ h)))⟩
  have hx : GExt G w G w' := ⟨hfx, Nat.le_refl _, Nat.le_refl _, rfl, fun _ _ => rfl, fun k hk bo hbo => ⟨hbo, fun g hg => by
    subst hg
    exact ⟨hother g (fun he => (hr.tlo k g hk hbo).2.2 b hlive he.symm), fun i hi => hi⟩⟩⟩
  have hl2 : ∀ c, Live (s.blocks.set b (Blk.cells K' (vs))) c ↔ Live s.blocks c := by
    intro c
    unfold Live
    rw [List.getElem?_set]
    by_cases hbc : b = c
    · subst hbc
      rw [if_pos rfl, if_pos (by rw [← hr.nb]; exact hblt.1), hb]
      simp
    · rw [if_neg hbc]
  have hbel : BelX Z.op w0.heap.size w0 w' := by
    refine hr.bel.transX (op' := Z.op) ⟨hos, htp, hout, by omega, fun k hk hn => hother k ?_⟩ (Nat.le_refl _) (fun _ _ h => h)
    rintro rfl
    have := hr.lo b hlive
    rw [hr.B] at this
    rcases this with h | h
    · omega
    · exact hn h
  refine ⟨⟨hr.B, hbel, hr.defers, hr.size, by simp [hr.nb], hr.nt, fun c i h => by have := hr.fz c i h; omega, hr.tm.mono hx, hr.stk.mono hx, ?_, fun c hl => hr.lo c ((hl2 c).1 hl), fun c c' hl hl' => hr.inj c c' ((hl2 c).1 hl) ((hl2 c').1 hl'), fun k g hk hg => ?_, hr.tinj, hr.zz⟩, hfx⟩
  · intro c B hB
    simp only at hB
    rw [List.getElem?_set] at hB
    by_cases hbc : b = c
    · subst hbc
      rw [if_pos rfl, if_pos (by rw [← hr.nb]; exact hblt.1)] at hB
      obtain rfl := Option.some.inj hB
      exact ⟨_, hthis, AV.Rels.mono hx _ _ hv, hn0⟩
    · rw [if_neg hbc] at hB
      have h0 := hr.blk c B hB
      cases B with
      | dead => trivial
      | cells el' cs' =>
        obtain ⟨us', h1, h2, h3⟩ := h0
        refine ⟨us', ?_, AV.Rels.mono hx _ _ h2, h3⟩
        rw [hother _ (fun he => hbc (hr.inj b c hlive ⟨el', cs', hB⟩ he.symm))]
        exact h1
  · obtain ⟨h1, h2, h3⟩ := hr.tlo k g hk hg
    exact ⟨h1, by omega, fun c hl => h3 c ((hl2 c).1 hl)⟩
/-- Cells of a block of our own are written. -/
theorem RelG.store (hr : RelG Z w0 s e acts a w G) {b o : Nat} {el : TypeId} {cs vs : List (AV E)} {us : Array Value} {ns : List Value} (hb : s.blocks[b]? = some (.cells (.row el) cs)) (hu : w.heap[G.ρ b]? = some (.cells us el (0, 0))) (hc : AV.Rels G w e cs us.toList) (hv : AV.Rels G w e vs ns) (hl : o + ns.length ≤ us.size) :
    RelG Z w0 { s with blocks := s.blocks.set b (.cells (.row el) (putCells cs o vs)) } e acts a (w.setRow (G.ρ b) (us.toList.take o ++ ns ++ us.toList.drop (o + ns.length)).toArray) G ∧ FExt G.Φ w G.Φ (w.setRow (G.ρ b) (us.toList.take o ++ ns ++ us.toList.drop (o + ns.length)).toArray) :=
  hr.turn (us' := us.toList.take o ++ ns ++ us.toList.drop (o + ns.length)) hb rfl rfl rfl (by simp [World.setRow]) (fun g hg => setRow_other w (G.ρ b) g _ hg) (setRow_heap w (G.ρ b) us _ el _ hu) (putCells_list vs cs us.toList ns o hc hv (by simpa using hl))
end
end Go.Proofs.YtmmbedlegmbppaaDoor.R
/- Rows of our own: made, appended to. -/
namespace Go.Proofs.YtmmbedlegmbppaaDoor.R
open Go Go.RowKit
set_option linter.unusedVariables false
set_option linter.unusedSimpArgs false
section
variable {E : Type} {G : Gh} {w w0 : World} {Z : Zf} {e : E} {P : Program} {s : St E} {a : Act} {acts : List (Array Value)}
/-- Something new lies behind all that was there. -/
theorem RelG.fresh (hr : RelG Z w0 s e acts a w G) {w' : World} (hb : Below w.heap.size w w') {Φ' : Fz} (h1 : ∀ b i, G.Φ b i → Φ' b i) (h2 : ∀ b i, b < w.heap.size → Φ' b i → G.Φ b i) (h3 : ∀ b i, Φ' b i → b < w'.heap.size) :
    RelG Z w0 s e acts a w' { G with Φ := Φ' } ∧ FExt G.Φ w Φ' w' ∧ GExt G w { G with Φ := Φ' } w' := by
  have hfz : FExt G.Φ w Φ' w' := ⟨h1, fun b i hbi => hb.cell (p := ⟨b, i, none⟩) (hr.fz b i hbi)⟩
  have hx : GExt G w { G with Φ := Φ' } w' := ⟨hfz, Nat.le_refl _, Nat.le_refl _, rfl, fun _ _ => rfl, fun j hj bo hbo => ⟨hbo, fun g hg => by
    subst hg
    have hlt := (hr.tlo j g hj hbo).2.1
    exact ⟨hb.block g hlt, fun i hi => h2 g i hlt hi⟩⟩⟩
  exact ⟨hr.ext hx (hr.bel.trans (hb.mono (hr.bel.size))) rfl rfl h3 (fun b hl => ⟨hb.block _ (hr.live_lt hl).2, fun i hi => by
    obtain ⟨el, cs, hl'⟩ := id hl
    obtain ⟨us, _, _, hn⟩ := hr.blk b _ hl'
    exact hn i (h2 _ i (hr.live_lt hl).2 hi)⟩) hb.size (fun _ _ => rfl) (fun b i hb0 hi => h2 b i (Nat.lt_of_lt_of_le hb0 hr.bel.size) hi), hfz, hx⟩
/-- A new token. -/
def Gh.newTok (G : Gh) (bo : Option Nat) : Gh := { G with γ := fun k => if k = G.nt then some bo else G.γ k, nt := G.nt + 1 }
theorem newTok_ext (G : Gh) (w : World) (bo : Option Nat) : GExt G w (G.newTok bo) w :=
  ⟨.refl _ _, Nat.le_refl _, Nat.le_succ _, rfl, fun _ _ => rfl, fun k hk b hb => ⟨by simp only [Gh.newTok]; rw [if_neg (by omega)]; exact hb, fun g hg => ⟨rfl, fun i hi => hi⟩⟩⟩
theorem RelG.newTok (hr : RelG Z w0 s e acts a w G) {bo : Option Nat} (hbo : ∀ g, bo = some g → G.B ≤ g ∧ g < w.heap.size ∧ (∀ b, Live s.blocks b → G.ρ b ≠ g) ∧ ∀ k, k < G.nt → G.γ k ≠ some (some g)) :
    RelG Z w0 (newTok s) e acts a w (G.newTok bo) := by
  have hx := newTok_ext G w bo
  refine ⟨hr.B, hr.bel, hr.defers, hr.size, hr.nb, by simp [R.newTok, Gh.newTok, hr.nt], hr.fz, hr.tm.mono hx, hr.stk.mono hx, ?_, hr.lo, hr.inj, ?_, ?_, hr.zz⟩
  · intro b B hB
    have h0 := hr.blk b B hB
    cases B with
    | dead => trivial
    | cells el cs => obtain ⟨us, h1, h2, h3⟩ := h0; exact ⟨us, h1, AV.Rels.mono hx _ _ h2, h3⟩
  · intro k g hk hg
    simp only [Gh.newTok] at hg hk
    split at hg
    · obtain rfl := Option.some.inj hg
      obtain ⟨h1, h2, h3, _⟩ := hbo g rfl
      exact ⟨h1, h2, h3⟩
    · exact hr.tlo k g (by omega) hg
  · intro k k' g hk hk' hg hg'
    simp only [Gh.newTok] at hg hg' hk hk'
    split at hg <;> split at hg'
    · omega
    · obtain rfl := Option.some.inj hg
      exact absurd hg' ((hbo g rfl).2.2.2 k' (by omega))
    · obtain rfl := Option.some.inj hg'
      exact absurd hg ((hbo g rfl).2.2.2 k (by omega))
    · exact hr.tinj k k' g (by omega) (by omega) hg hg'
theorem own_rel {z : Bool} {t : Ty} {el : TypeId} {x : E → List t.den} {v : Value} {bo : Option Nat} (h : OwnRel G.Φ w G.B el t (x e) v bo) (hz : z = true → x e = [] → v = .slice none 0 0) : (AV.own z G.nt el t x).Rel (G.newTok bo) w e v :=
  ⟨Nat.lt_succ_self _, hz, bo, by simp [Gh.newTok], h⟩
/-! ### a row that is laid at once -/
theorem chunk_rel {t : Ty} : ∀ {n : Nat} {cs : List (AV E)} {x : E → List t.den} {us : List Value}, chunkTy t n cs = some x → AV.Rels G w e cs us → (x e).length = n ∧ us.length = n * t.size ∧ ∀ (j : Nat) (y : t.den), (x e)[j]? = some y → CRel G.Φ w t y ((us.drop (j * t.size)).take t.size)
  | 0, cs, x, us, h, hr => by
    cases cs with
    | nil =>
      simp only [chunkTy, Option.some.injEq] at h
      subst h
      rw [show us = [] from hr]
      exact ⟨rfl, by simp, fun j y hj => by simp at hj⟩
    | cons c cs => simp [chunkTy] at h
  | n + 1, cs, x, us, h, hr => by
    simp only [chunkTy, Option.bind_eq_some_iff] at h
    obtain ⟨y, hy, z, hz, h⟩ := h
    obtain rfl := Option.some.inj h
    have h1 := toTy_rel hy (hr.take t.size)
    obtain ⟨h2, h3, h4⟩ := chunk_rel hz (hr.drop t.size)
    have hl := h1.length
    rw [List.length_take] at hl
    rw [List.length_drop] at h3
    refine ⟨by simp [h2], by rw [Nat.succ_mul]; omega, fun j y' hj => ?_⟩
    cases j with
    | zero =>
      simp only [List.getElem?_cons_zero, Option.some.injEq] at hj
      subst hj
      rw [Nat.zero_mul, List.drop_zero]
      exact h1
    | succ j =>
      have := h4 j y' (by simpa using hj)
      rw [List.drop_drop] at this
      rw [Nat.succ_mul, Nat.add_comm]
      exact this
theorem rep_rel {cs : List (AV E)} {us : List Value} (h : AV.Rels G w e cs us) : ∀ n, AV.Rels G w e (rep n cs) (rep n us)
  | 0 => rfl
  | n + 1 => h.append (rep_rel h n)
theorem range_rep (z : Array Value) (hz : 0 < z.size) : ∀ n, ((List.range (n * z.size)).map fun i => z[i % z.size]!) = rep n z.toList
  | 0 => by simp [rep]
  | n + 1 => by
    have h0 : (List.range z.size).map (fun i => z[i % z.size]!) = z.toList := by
      apply List.ext_getElem?
      intro j
      by_cases hj : j < z.size
      · simp [hj, Nat.mod_eq_of_lt hj]
      · simp [hj]
    rw [Nat.succ_mul, Nat.add_comm, List.range_add, List.map_append, h0]
    unfold rep
    congr 1
    rw [← range_rep z hz n, List.map_map]
    apply List.map_congr_left
    intro i _
    simp
theorem buildSlice_run {t : TypeId} {el : TypeId} {n m : Nat} {z : Array Value} {ps : List (Nat × AV E)} {vs : Array (Nat × Value)} {cs : List (AV E)} (ht : P.underlying t = some (.slice el)) (hz : zeroCells P el = some z) (hzs : z.size = sizeT P el) (hus : m = sizeT P el) (hu0 : 0 < m) (hn : n * m ≤ 10000)
    (h : buildGo (fun i => some (i * sizeT P el, sizeT P el)) (rep n (z.toList.map constAV)) ps = some cs) (h1 : vs.toList.map (·.1) = ps.map (·.1)) (h2 : AV.Rels G w e (ps.map (·.2)) (vs.toList.map (·.2))) :
    ∃ us : Array Value, AV.Rels G w e cs us.toList ∧ ∀ w', (Instr.buildSlice t n vs).run P w' = .ok (.slice (some ⟨w'.heap.size, 0, none⟩) n n) (w'.alloc (.cells us el)) := by
  have hzr : AV.Rels G w e (rep n (z.toList.map constAV)) ((rep n z.toList).toArray : Array Value).toList := by simpa using rep_rel (consts_rel z.toList) n
  obtain ⟨us, hf, hr⟩ := build_fill rfl h hzr h1 h2
  refine ⟨us, hr, fun w' => ?_⟩
  obtain ⟨it, zv, hit, hiz, hzc⟩ := zero_some hz
  have hs : (sizeOf el).run P w' = .ok (sizeT P el) w' := size_run rfl (by rw [hit]; rfl) w'
  have hle : ¬ (n * sizeT P el > 2 ^ 24) := by rw [← hus]; omega
  have hcells : (Array.range (n * sizeT P el)).map (fun i => z[i % z.size]!) = (rep n z.toList).toArray := by
    apply Array.ext'
    rw [← hzs]
    simp only [Array.toList_map, Array.toList_range, List.toList_toArray]
    exact range_rep z (by omega) n
  unfold Instr.buildSlice
  simp only [Sem.run_bind, run_underlying ht, hs, Result.andThen_ok, if_neg hle]
  by_cases h0 : n * sizeT P el = 0
  · have hn0 : n = 0 := by
      rcases Nat.mul_eq_zero.1 h0 with h | h
      · exact h
      · omega
    subst hn0
    have hr0 : Array.range (0 * sizeT P el) = #[] := by simp
    rw [show (rep 0 z.toList).toArray = (#[] : Array Value) from rfl] at hf
    simp only [if_pos h0, Sem.run_bind, Sem.run_pure, Result.andThen_ok, hr0, List.map_toArray, List.map_nil, hf]
    rfl
  · simp only [if_neg h0, Sem.run_bind, zeroValue, typeInfo, run_program, hit, hiz, Result.andThen_ok, Sem.run_pure, hzc]
    rw [hcells, hf]
    rfl
theorem packs_rel {E : Type} {G : Gh} {w : World} {e : E} {rs : List (AV E)} {vs : List Value} (h : AV.Rels G w e rs vs) : (oneOrTup rs).Rel G w e (packV vs) := by
  match rs, h with
  | [], h => rw [show vs = [] from h]; exact ⟨#[], rfl, rfl⟩
  | [c], h =>
    obtain ⟨u, q, rfl, h3, h4⟩ := h
    rw [show q = [] from h4]
    exact h3
  | c :: d :: cs, h =>
    obtain ⟨u, q, rfl, h3, v, q', rfl, h4, h5⟩ := h
    exact ⟨_, rfl, ⟨u, _, rfl, h3, v, _, rfl, h4, h5⟩⟩
/-- A call that a block of ours is handed to. -/
theorem callRef_sound {R : Type} {K : Kont R} {k : Nat} {S : RSpec} {T : World → Prop} {f : FuncId} {args : List (AV E)} {dst : Option Tmp} {F : E → Option R} {r : R} (hS : S.Sound P T f) (h : callRef k S args s dst K = some F) (hF : F e = some r)
    (hr : RelG Z w0 s e acts a w G) (hT : ∀ w, BelX Z.op w0.heap.size w0 w → T w) (hd : dstOk' s dst) {vs : Array Value} (hargs : AV.Rels G w e args vs.toList) :
    Calls P f vs w fun en w' => ∃ v, en = .returned v ∧ After Z w0 acts K r G w (a.put dst v) w' := by
  unfold callRef at h
  split at h
  · rename_i b vs0
    split at h
    · rename_i el cs hb
      split at h
      · rename_i hel
        subst hel
        obtain ⟨x, hx, h⟩ := Option.bind_eq_some_iff.1 h
        split at h
        · rename_i cs' rs hof
          obtain ⟨f1, hK, h⟩ := Option.bind_eq_some_iff.1 h
          obtain rfl := Option.some.inj h
          simp only [bindO, Option.bind_eq_some_iff] at hF
          obtain ⟨y, hy, hF⟩ := hF
          obtain ⟨v0, vr, hv, h0, hrs⟩ := hargs
          obtain ⟨hbn, rfl⟩ := h0
          obtain ⟨us, hk, hus, hnf⟩ := hr.blk b _ hb
          have hvs : vs = #[.pointer (some ⟨G.ρ b, 0, none⟩)] ++ vr.toArray := by
            apply Array.ext'
            simp [hv]
          have hlive : Live s.blocks b := ⟨_, _, hb⟩
          have hag : AV.Rels G w e (.ag cs :: vs0) (.agg us.toArray :: vr) := ⟨_, _, rfl, ⟨_, rfl, by simpa using hus⟩, hrs⟩
          have hlt := (hr.live_lt hlive).2
          have hop : ∀ i, i < w0.heap.size → i = G.ρ b → Z.op i := by
            rintro i hi rfl
            rcases hr.lo b hlive with h1 | h1
            · rw [hr.B] at h1; omega
            · exact h1
          have htup : TupRel G.Φ w (.agg S.t :: S.args) (x e) (.agg us.toArray :: vr.toArray.toList) := by simpa using toTup_rel hx hag
          rw [hvs]
          refine (hS k (x e) y hy G.Φ w (G.ρ b) us.toArray vr.toArray (fun w' hw => hT w' (hr.bel.transX hw hr.bel.size hop)) hr.fz hnf hk htup).mono ?_
          rintro en w' ⟨us', rs', Φ', rfl, hb1, h1, h2, h3, h4, h5⟩
          have hnf' : ∀ i, ¬ Φ' (G.ρ b) i := fun i hi => hnf i (h2 _ i hlt hi)
          have hself := setRow_heap w' (G.ρ b) us' us.toArray S.el _ h4
          have hoth := fun g (hg : g ≠ G.ρ b) => setRow_other w' (G.ρ b) g us.toArray hg
          generalize hw1 : w'.setRow (G.ρ b) us.toArray = w1 at hself hoth
          have hos : w1.os = w'.os := by rw [← hw1]; rfl
          have htp : w1.tape = w'.tape := by rw [← hw1]; rfl
          have hout : w1.output = w'.output := by rw [← hw1]; rfl
          have hsz : w1.heap.size = w'.heap.size := by rw [← hw1]; simp [World.setRow]
          have hold : ∀ g, g < w.heap.size → g ≠ G.ρ b → w1.heap[g]? = w.heap[g]? := fun g hg hne => (hoth g hne).trans (hb1.block g hg hne)
          have hfx : FExt G.Φ w Φ' w1 := ⟨h1, fun c i hc => World.cell?_of_block (w := w) (a := ⟨c, i, none⟩) (hold c (hr.fz c i hc) (fun he => hnf i (he ▸ hc)))⟩
          have hx1 : GExt G w { G with Φ := Φ' } w1 := ⟨hfx, Nat.le_refl _, Nat.le_refl _, rfl, fun _ _ => rfl, fun j hj bo hbo => ⟨hbo, fun g hg => by
            subst hg
            obtain ⟨_, t2, t3⟩ := hr.tlo j g hj hbo
            exact ⟨hold g t2 (fun he => t3 b hlive he.symm), fun i hi => h2 g i t2 hi⟩⟩⟩
          have hbx : BelX (· = G.ρ b) w.heap.size w w1 := ⟨hos.trans hb1.os, htp.trans hb1.tape, hout.trans hb1.output, by have := hb1.size; omega, fun g hg hne => hold g hg hne⟩
          have hr1 : RelG Z w0 s e acts a w1 { G with Φ := Φ' } := hr.ext hx1 (hr.bel.transX hbx hr.bel.size hop) rfl rfl (fun c i hc => by have := h3 c i hc; omega) (fun c hl => ⟨by
            by_cases hcb : G.ρ c = G.ρ b
            · rw [hcb, hself]; exact hk.symm
            · exact hold _ (hr.live_lt hl).2 hcb, fun i hi => by
            obtain ⟨K0, cs0, hl'⟩ := id hl
            obtain ⟨_, _, _, hn⟩ := hr.blk c _ hl'
            exact hn i (h2 _ i (hr.live_lt hl).2 hi)⟩) (by have := hb1.size; omega) (fun _ _ => rfl) (fun c i hc hi => h2 c i (Nat.lt_of_lt_of_le hc hr.bel.size) hi)
          have hr2 : RelG Z w0 (s.comap (Prod.fst : E × Tup (.agg S.t :: S.res) → E)) (e, y) acts a w1 { G with Φ := Φ' } := RelG.comap hr1
          have hres : AV.Rels { G with Φ := Φ' } w' (e, y) (ofTup (.agg S.t :: S.res) (Prod.snd : E × Tup (.agg S.t :: S.res) → Tup (.agg S.t :: S.res))) (.agg us' :: rs') := ofTup_rel (x := Prod.snd) h5
          rw [hof] at hres
          obtain ⟨u, q, hq, ⟨us2, hus2, hcs2⟩, hrs2⟩ := hres
          obtain ⟨hq1, hq2⟩ := List.cons.inj hq
          subst hq2
          rw [← hq1] at hus2
          obtain rfl : us' = us2 := by cases hus2; rfl
          have hback : GExt { G with Φ := Φ' } w' { G with Φ := Φ' } w1 := ⟨⟨fun _ _ h => h, fun c i hc => World.cell?_of_block (w := w') (a := ⟨c, i, none⟩) (hoth c (fun he => hnf' i (he ▸ hc)))⟩, Nat.le_refl _, Nat.le_refl _, rfl, fun _ _ => rfl, fun j hj bo hbo => ⟨hbo, fun g hg => by
            subst hg
            obtain ⟨_, t2, t3⟩ := hr.tlo j g hj hbo
            exact ⟨hoth g (fun he => t3 b hlive he.symm), fun i hi => hi⟩⟩⟩
          have hb2 : (s.comap (Prod.fst : E × Tup (.agg S.t :: S.res) → E)).blocks[b]? = some (.cells (.row S.el) (AV.comaps Prod.fst cs)) := by
            show (s.blocks.map _)[b]? = _
            rw [List.getElem?_map, hb]
            rfl
          obtain ⟨hr3, _⟩ := hr2.turn (K' := .row S.el) (vs := cs') (us' := us'.toList) (w' := w') hb2 hos.symm htp.symm hout.symm hsz.symm (fun g hg => (hoth g hg).symm) (by simpa [KIs] using h4) (AV.Rels.mono hback _ _ hcs2)
          refine ⟨_, rfl, _, _, (e, y), f1, _, hK, hF, hr3.put hd (packs_rel hrs2), ⟨h1, fun c i hc => ?_⟩⟩
          exact World.cell?_of_block (w := w) (a := ⟨c, i, none⟩) (hb1.block c (hr.fz c i hc) (fun he => hnf i (he ▸ hc)))
        · cases h
      · cases h
    · cases h
  · cases h
theorem anyRef_of : ∀ {L : Specs} {f : FuncId} {S : RSpec}, L.get f = some (.ref S) → anyRef L = true
  | [], _, _, h => by cases h
  | (g, c) :: L, f, S, h => by
    unfold anyRef
    rw [List.any_cons, Bool.or_eq_true]
    unfold Specs.get at h
    split at h
    · obtain rfl := Option.some.inj h
      exact .inl rfl
    · exact .inr (anyRef_of h)
theorem keeps_ref {L : Specs} {o : Op} {c : Call} {fo : Operand} {g : FuncId} {caps : List (AV E)} {S : RSpec} (hop : o = .call c) (hcal : c.callee = .value fo) (hfn : s.ev fo = .fn g caps) (hS : L.get g = some (.ref S)) : keepsBlocks P L o = false := by
  subst hop
  unfold keepsBlocks
  simp only [hcal]
  cases fo with
  | func f =>
    have : f = g := by
      simp only [St.ev] at hfn
      cases hfn
      rfl
    subst this
    simp only [isRef, hS]
    rfl
  | _ => simp only [anyRef_of hS]; rfl
end
end Go.Proofs.YtmmbedlegmbppaaDoor.R
/- A row that is appended to. -/
namespace Go.Proofs.YtmmbedlegmbppaaDoor.R
open Go Go.RowKit
set_option linter.unusedVariables false
set_option linter.unusedSimpArgs false
section
variable {E : Type} {G : Gh} {w w0 : World} {Z : Zf} {e : E} {P : Program} {s : St E} {a : Act} {acts : List (Array Value)}
/-- What an append leaves. -/
structure Grew (w w' : World) (v v' : Value) : Prop where
  os : w'.os = w.os
  tape : w'.tape = w.tape
  output : w'.output = w.output
  size : w.heap.size ≤ w'.heap.size
  way : (v'.ownBlock = v.ownBlock ∧ ∀ b, some b ≠ v.ownBlock → w'.heap[b]? = w.heap[b]?) ∨ (v'.ownBlock = some w.heap.size ∧ w.heap.size < w'.heap.size ∧ ∀ b, b < w.heap.size → w'.heap[b]? = w.heap[b]?)
theorem append_none {t ty el : TypeId} {i : TypeInfo} {A B : Option Addr} {n c k : Nat} (ht : P.underlying t = some (.slice el)) (hi : P.info? el = some i) (hn : n ≤ c) :
    (Builtin.append_ #[t, t] ty #[.slice A n c, .slice B 0 k]).run P w = .ok (.slice A n c) w := by
  cases A <;> cases B <;> simp [Builtin.append_, run_underlying ht, sizeOf, typeInfo, hi, Builtin.lenOf, Builtin.firstCells, loadCells, loadCellsFrom, hn, storeCells]
theorem made_row {el : TypeId} {i : TypeInfo} {z : Value} (hzs : z.cells.size = i.size) {base n m cap : Nat} {us news : List Value} (hus : us.length = n * i.size) (hl : news.length = m * i.size) (hbase : base ≤ w.heap.size) (hc : n + m ≤ cap) (hm : cap ≤ maxLen) :
    (w.drew.alloc (.cells (us.toArray ++ news.toArray ++ Builtin.zeroCells z.cells (cap - (n + m))) el)).ownsRow base el i.size (.slice (some ⟨w.heap.size, 0, none⟩) (n + m) cap) (n + m) (us ++ news) := by
  have hlen : (us ++ news).length = (n + m) * i.size := by rw [List.length_append, hus, hl, Nat.add_mul]
  refine ⟨hlen, .inr ⟨w.heap.size, _, _, rfl, hbase, heap_alloc_new w.drew _, hc, hm, ?_, ?_⟩⟩
  · simp only [Array.size_append, List.size_toArray, size_zeroCells, hzs, hus, hl, ← Nat.add_mul]
    congr 1
    omega
  · simp only [Array.toList_append, List.append_assoc]
    rw [← List.append_assoc, ← hlen]
    exact List.take_left
theorem grew_new {o : Obj} {v v' : Value} (hv : v'.ownBlock = some w.heap.size) : Grew w (w.drew.alloc o) v v' :=
  ⟨rfl, rfl, rfl, by simp, .inr ⟨hv, by simp, fun b hb => heap_alloc_old w.drew _ b hb⟩⟩
theorem append_own {t ty el : TypeId} {i : TypeInfo} {z : Value} (ht : P.underlying t = some (.slice el)) (hi : P.info? el = some i) (hz : i.zero = some z) (hzs : z.cells.size = i.size) (hsz : 0 < i.size)
    {base n m c : Nat} {v : Value} {us news : List Value} (hown : w.ownsRow base el i.size v n us) (hbase : base ≤ w.heap.size) {A : Option Addr} (hl : news.length = m * i.size) (hA : m = 0 ∨ ∃ ad, A = some ad ∧ ∀ j u, news[j]? = some u → w.cell? (ad.add j) = some u) (h1 : ∀ u ∈ news, u.oneCell' = true)
    (hbytes : (n + m) * i.bytes ≤ 140737488355328) (hb2 : n + m ≤ 140737488355328) :
    ∃ v' w', (Builtin.append_ #[t, t] ty #[v, .slice A m c]).run P w = .ok v' w' ∧ w'.ownsRow base el i.size v' (n + m) (us ++ news) ∧ Grew w w' v v' ∧ (m = 0 → v' = v) := by
  rcases Nat.eq_zero_or_pos m with hm | hm
  · subst hm
    have hn : news = [] := List.eq_nil_of_length_eq_zero (by simpa using hl)
    subst hn
    obtain ⟨A', c', hv, hc', _⟩ := own_max hown
    refine ⟨v, w, ?_, by simpa using hown, ⟨rfl, rfl, rfl, Nat.le_refl _, .inl ⟨rfl, fun _ _ => rfl⟩⟩, fun _ => rfl⟩
    rw [hv]
    exact append_none ht hi hc'
  · obtain ⟨ad, rfl, hnews⟩ := hA.resolve_left (by omega)
    have hmx : maxLen = 9223372036854775807 := rfl
    rcases hown.2 with ⟨rfl, rfl⟩ | ⟨g, cap, cur, rfl, hbg, hg, hnc, hcm, hcs, htake⟩
    · have hx : us = [] := List.eq_nil_of_length_eq_zero (by simpa using hown.1)
      subst hx
      have hr := run_append_nil (P := P) w t ty el i z ht hi hz ad m c news hl hnews hm (by omega) (by simp only [Nat.zero_add] at hbytes; omega)
      have hrow := made_row (w := w) (el := el) (base := base) (n := 0) (us := []) (cap := grownCap w m 0 el) hzs (by simp) hl hbase (by rw [Nat.zero_add]; exact grownCap_ge w m 0 el) (grownCap_le_maxLen w m 0 el (by omega))
      simp only [Nat.zero_add, List.nil_append, Array.empty_append] at hrow ⊢
      exact ⟨_, _, hr, hrow, grew_new rfl, fun h => absurd h (by omega)⟩
    · by_cases hroom : n + m ≤ cap
      · have hfit : n * i.size + news.length ≤ cur.size := by rw [hl, hcs, ← Nat.add_mul]; exact Nat.mul_le_mul_right _ hroom
        have hr := run_append_room (P := P) w t ty el i ht hi g n cap cur hg ad m c news hl hnews h1 hroom hfit
        have hlen : (us ++ news).length = (n + m) * i.size := by rw [List.length_append, hown.1, hl, Nat.add_mul]
        refine ⟨_, _, hr, ⟨hlen, .inr ⟨g, cap, _, rfl, hbg, setRow_heap w g cur _ el _ hg, hroom, hcm, ?_, ?_⟩⟩, ⟨rfl, rfl, rfl, by simp, .inl ⟨rfl, fun b hb => setRow_other w g b _ (fun e => hb (by simp [Value.ownBlock, e]))⟩⟩, fun h => absurd h (by omega)⟩
        · simp only [List.size_toArray, List.length_append, List.length_take, List.length_drop, Array.length_toList]
          omega
        · rw [htake, ← hlen]
          exact List.take_left
      · have holds : ∀ j u, us[j]? = some u → w.cell? ((⟨g, 0, none⟩ : Addr).add j) = some u := hown.cells (g := g) rfl
        have hr := run_append_grow (P := P) w t ty el i z ht hi hz ⟨g, 0, none⟩ n cap us hown.1 holds ad m c news hl hnews (by omega) (by omega) (growslice_fits (by omega) hbytes)
        exact ⟨_, _, hr, made_row hzs hown.1 hl hbase (grownCap_ge w _ cap el) (grownCap_le_maxLen w _ cap el (by omega)), grew_new rfl, fun h => absurd h (by omega)⟩
theorem append_full {t ty el : TypeId} {i : TypeInfo} {z : Value} (ht : P.underlying t = some (.slice el)) (hi : P.info? el = some i) (hz : i.zero = some z) (hzs : z.cells.size = i.size) (hsz : 0 < i.size)
    {base n m c : Nat} {A : Option Addr} {us news : List Value} (hus : us.length = n * i.size) (hold : n = 0 ∨ ∃ b, A = some b ∧ ∀ j u, us[j]? = some u → w.cell? (b.add j) = some u) (hbase : base ≤ w.heap.size) {A2 : Option Addr} (hl : news.length = m * i.size) (hA : m = 0 ∨ ∃ ad, A2 = some ad ∧ ∀ j u, news[j]? = some u → w.cell? (ad.add j) = some u)
    (hm : 0 < m) (hbytes : (n + m) * i.bytes ≤ 140737488355328) (hb2 : n + m ≤ 140737488355328) :
    ∃ v' w', (Builtin.append_ #[t, t] ty #[.slice A n n, .slice A2 m c]).run P w = .ok v' w' ∧ w'.ownsRow base el i.size v' (n + m) (us ++ news) ∧ Grew w w' (.slice A n n) v' ∧ v'.ownBlock = some w.heap.size ∧ w.heap.size < w'.heap.size ∧ ∀ b, b < w.heap.size → w'.heap[b]? = w.heap[b]? := by
  obtain ⟨ad, rfl, hnews⟩ := hA.resolve_left (by omega)
  have hmx : maxLen = 9223372036854775807 := rfl
  cases A with
  | none =>
    have h0 : n = 0 := hold.resolve_right (by rintro ⟨b, hb, _⟩; cases hb)
    subst h0
    have hx : us = [] := List.eq_nil_of_length_eq_zero (by simpa using hus)
    subst hx
    have hr := run_append_nil (P := P) w t ty el i z ht hi hz ad m c news hl hnews hm (by omega) (by simp only [Nat.zero_add] at hbytes; omega)
    have hrow := made_row (w := w) (el := el) (base := base) (n := 0) (us := []) (cap := grownCap w m 0 el) hzs (by simp) hl hbase (by rw [Nat.zero_add]; exact grownCap_ge w m 0 el) (grownCap_le_maxLen w m 0 el (by omega))
    simp only [Nat.zero_add, List.nil_append, Array.empty_append] at hrow ⊢
    exact ⟨_, _, hr, hrow, grew_new rfl, rfl, by simp, fun b hb => heap_alloc_old w.drew _ b hb⟩
  | some b =>
    have holds : ∀ j u, us[j]? = some u → w.cell? (b.add j) = some u := by
      rcases hold with h0 | ⟨b', hb', h⟩
      · subst h0
        have hx : us = [] := List.eq_nil_of_length_eq_zero (by simpa using hus)
        subst hx
        intro j u hj; simp at hj
      · cases hb'; exact h
    have hr := run_append_grow (P := P) w t ty el i z ht hi hz b n n us hus holds ad m c news hl hnews (by omega) (by omega) (growslice_fits (by omega) hbytes)
    exact ⟨_, _, hr, made_row hzs hus hl hbase (grownCap_ge w _ n el) (grownCap_le_maxLen w _ n el (by omega)), grew_new rfl, rfl, by simp, fun b hb => heap_alloc_old w.drew _ b hb⟩
/-- A text that is appended. -/
theorem append_own_str {t u ty el : TypeId} {i : TypeInfo} (ht : P.underlying t = some (.slice el)) (hu : P.underlying u = some .string) (hi : P.info? el = some i) (hz : i.zero = some (.int .u8 0)) (hs1 : i.size = 1) (hby : i.bytes = 1)
    {base n : Nat} {v : Value} {us : List Value} (hown : w.ownsRow base el 1 v n us) (hbase : base ≤ w.heap.size) (s : ByteArray) (hb : n + s.size ≤ 140737488355328) :
    ∃ v' w', (Builtin.append_ #[t, u] ty #[v, .string s]).run P w = .ok v' w' ∧ w'.ownsRow base el 1 v' (n + s.size) (us ++ Lib.strCells s) ∧ Grew w w' v v' ∧ (s.size = 0 → v' = v) := by
  have hmx : maxLen = 9223372036854775807 := rfl
  have hxl : us.length = n := by simpa using hown.1
  have hsl := Lib.strCells_length s
  have mrow : ∀ cap, n + s.size ≤ cap → cap ≤ maxLen → (w.drew.alloc (.cells (us.toArray ++ (Lib.strCells s).toArray ++ Builtin.zeroCells (Value.int .u8 0).cells (cap - (n + s.size))) el)).ownsRow base el 1 (.slice (some ⟨w.heap.size, 0, none⟩) (n + s.size) cap) (n + s.size) (us ++ Lib.strCells s) := by
    intro cap hc hm
    have := made_row (w := w) (el := el) (i := i) (z := .int .u8 0) (base := base) (n := n) (m := s.size) (cap := cap) (us := us) (news := Lib.strCells s) (by rw [hs1]; rfl) (by rw [hs1, hxl, Nat.mul_one]) (by rw [hs1, hsl, Nat.mul_one]) hbase hc hm
    rw [hs1] at this
    exact this
  rcases hown.2 with ⟨rfl, rfl⟩ | ⟨g, cap, cur, rfl, hbg, hg, hnc, hcm, hcs, htake⟩
  · have hx : us = [] := List.eq_nil_of_length_eq_zero hxl
    subst hx
    by_cases hm : s.size = 0
    · have hn : Lib.strCells s = [] := List.eq_nil_of_length_eq_zero (by rw [hsl]; exact hm)
      refine ⟨.slice none 0 0, w, ?_, by rw [hm, hn]; exact World.ownsRow_nil w base el 1, ⟨rfl, rfl, rfl, Nat.le_refl _, .inl ⟨rfl, fun _ _ => rfl⟩⟩, fun _ => rfl⟩
      have hf := Lib.run_firstCells_string (P := P) w 1 s
      rw [hm] at hf
      simp [Builtin.append_, run_underlying ht, run_underlying hu, sizeOf, typeInfo, hi, hs1, Builtin.lenOf, hm, hf]
    · have hr := run_append_nil_string (P := P) w t u ty el i (.int .u8 0) ht hu hi hz s (by omega) (by omega) (by rw [hby]; omega)
      have e1 : (s.data.map fun b => Value.int .u8 b.toNat) = (Lib.strCells s).toArray := by
        apply Array.ext'
        simp [Lib.strCells]
      rw [e1] at hr
      have hrow := mrow (grownCap w s.size 0 el) (by rw [Nat.zero_add]; exact grownCap_ge w s.size 0 el) (grownCap_le_maxLen w s.size 0 el (by omega))
      simp only [Nat.zero_add, List.nil_append, Array.empty_append] at hrow ⊢
      exact ⟨_, _, hr, hrow, grew_new rfl, fun h => absurd h hm⟩
  · have hlen : (us ++ Lib.strCells s).length = (n + s.size) * 1 := by rw [List.length_append, hxl, hsl, Nat.mul_one]
    by_cases hroom : n + s.size ≤ cap
    · have hcs' : cur.size = cap := by simpa using hcs
      have hr := Lib.run_append_room_string (P := P) w t u ty el i ht hu hi hs1 g n cap cur hg s hroom (by omega)
      refine ⟨_, _, hr, ⟨hlen, .inr ⟨g, cap, _, rfl, hbg, setRow_heap w g cur _ el _ hg, hroom, hcm, ?_, ?_⟩⟩, ⟨rfl, rfl, rfl, by simp, .inl ⟨rfl, fun b hb => setRow_other w g b _ (fun e => hb (by simp [Value.ownBlock, e]))⟩⟩, fun h => by rw [h]; rfl⟩
      · simp only [List.size_toArray, List.length_append, List.length_take, List.length_drop, Array.length_toList, hsl]
        omega
      · have ht' : cur.toList.take n = us := by simpa using htake
        rw [ht', ← hlen]
        exact List.take_left
    · have holds : ∀ j u, us[j]? = some u → w.cell? ((⟨g, 0, none⟩ : Addr).add j) = some u := hown.cells (g := g) rfl
      have hr := Lib.run_append_grow_string (P := P) w t u ty el i (.int .u8 0) ht hu hi hz ⟨g, 0, none⟩ n cap us (by rw [hs1]; simpa using hxl) holds s (by omega) (by omega) (by rw [hby]; exact growslice_fits (by omega) (by omega))
      exact ⟨_, _, hr, mrow _ (grownCap_ge w _ cap el) (grownCap_le_maxLen w _ cap el (by omega)), grew_new rfl, fun h => absurd h (by omega)⟩
/-- The elements of a slice, as cells in a row. -/
theorem slice_cells {el : TypeId} {t : Ty} {xs : List t.den} {A : Option Addr} {c : Nat} (hr : CRel G.Φ w (.sl el t) xs [.slice A xs.length c]) :
    ∃ us : List Value, us.length = xs.length * t.size ∧ (∀ (j : Nat) (x : t.den), xs[j]? = some x → CRel G.Φ w t x ((us.drop (j * t.size)).take t.size)) ∧ (∀ u ∈ us, u.oneCell' = true) ∧ (xs.length = 0 ∨ ∃ g o, A = some ⟨g, o, none⟩ ∧ ∀ j u, us[j]? = some u → G.Φ g (o + j) ∧ w.cell? ⟨g, o + j, none⟩ = some u) := by
  obtain ⟨A', c', hv, _, _, g, o, hA, hcell⟩ := hr
  have hv' := (List.cons.inj hv).1
  simp only [Value.slice.injEq] at hv'
  obtain ⟨rfl, _, _⟩ := hv'
  have main : ∀ (l : List t.den) (o' : Nat), (∀ (j : Nat) (x : t.den), l[j]? = some x → ∃ us : List Value, us.length = t.size ∧ CRel G.Φ w t x us ∧ ∀ (i : Nat) (u : Value), us[i]? = some u → G.Φ g (o' + j * t.size + i) ∧ w.cell? ⟨g, o' + j * t.size + i, none⟩ = some u) →
      ∃ us : List Value, us.length = l.length * t.size ∧ (∀ (j : Nat) (x : t.den), l[j]? = some x → CRel G.Φ w t x ((us.drop (j * t.size)).take t.size)) ∧ (∀ u ∈ us, u.oneCell' = true) ∧ ∀ j u, us[j]? = some u → G.Φ g (o' + j) ∧ w.cell? ⟨g, o' + j, none⟩ = some u := by
    intro l
    induction l with
    | nil => intro o' _; exact ⟨[], by simp, fun j x hj => by simp at hj, fun u hu => by simp at hu, fun j u hj => by simp at hj⟩
    | cons y l ih =>
      intro o' h
      obtain ⟨us0, hl0, hr0, hc0⟩ := h 0 y rfl
      obtain ⟨us, h1, h2, h3, h4⟩ := ih (o' + t.size) (fun j x hj => by
        obtain ⟨us, a1, a2, a3⟩ := h (j + 1) x (by simpa using hj)
        refine ⟨us, a1, a2, fun i u hu => ?_⟩
        have := a3 i u hu
        rw [Nat.succ_mul, show o' + (j * t.size + t.size) + i = o' + t.size + j * t.size + i by omega] at this
        exact this)
      refine ⟨us0 ++ us, by rw [List.length_append, hl0, h1, List.length_cons, Nat.succ_mul]; omega, fun j x hj => ?_, fun u hu => ?_, fun j u hj => ?_⟩
      · cases j with
        | zero =>
          simp only [List.getElem?_cons_zero, Option.some.injEq] at hj
          subst hj
          rw [Nat.zero_mul, List.drop_zero, List.take_left' hl0]
          exact hr0
        | succ j =>
          have := h2 j x (by simpa using hj)
          rw [Nat.succ_mul, Nat.add_comm, ← List.drop_drop, List.drop_left' hl0]
          exact this
      · rcases List.mem_append.1 hu with hu | hu
        · exact hr0.one u hu
        · exact h3 u hu
      · rw [List.getElem?_append] at hj
        split at hj
        · have := hc0 j u hj
          rw [Nat.zero_mul, Nat.add_zero] at this
          exact this
        · have := h4 _ u hj
          rw [hl0, show o' + t.size + (j - t.size) = o' + j by omega] at this
          exact this
  obtain ⟨us, h1, h2, h3, h4⟩ := main xs o hcell
  refine ⟨us, h1, h2, h3, ?_⟩
  rcases hA with h0 | rfl
  · exact .inl h0
  · exact .inr ⟨g, o, rfl, h4⟩
end
end Go.Proofs.YtmmbedlegmbppaaDoor.R
/- A row that is appended to, and what is known of the rest. -/
namespace Go.Proofs.YtmmbedlegmbppaaDoor.R
open Go Go.RowKit
set_option linter.unusedVariables false
set_option linter.unusedSimpArgs false
section
variable {E : Type} {G : Gh} {w w0 : World} {Z : Zf} {e : E} {P : Program} {s : St E} {a : Act} {acts : List (Array Value)}
theorem EnvRel.kill {k : Nat} {env : Env E} {t : Array Value} {G' : Gh} {w' : World} (hx : GExtK k G w G' w') (h : EnvRel G w e env t) : EnvRel G' w' e (env.kill k) t := by
  intro u
  have hg : ∀ (l : Env E), (Env.kill k l).get u = (l.get u).kill k := by
    intro l
    induction l with
    | nil => rfl
    | cons p l ih =>
      obtain ⟨x, y⟩ := p
      simp only [Env.kill, Env.get]
      split
      · rfl
      · exact ih
  rw [hg]
  exact AV.Rel.kill hx _ _ (h u)
theorem StkRel.kill {k : Nat} {G' : Gh} {w' : World} (hx : GExtK k G w G' w') : ∀ {ss : List (Env E)} {ts : List (Array Value)}, StkRel G w e ss ts → StkRel G' w' e (ss.map (Env.kill k)) ts
  | [], _, h => h
  | s :: ss, _, h => by obtain ⟨t, ts, rfl, h1, h2⟩ := h; exact ⟨t, ts, rfl, h1.kill hx, h2.kill hx⟩
theorem live_kill {k : Nat} {bs : List (Blk E)} {b : Nat} : Live (bs.map (Blk.kill k)) b ↔ Live bs b := by
  unfold Live
  rw [List.getElem?_map]
  cases bs[b]? with
  | none => simp
  | some B => cases B <;> simp [Blk.kill]
theorem drop_live {tok : Option Nat} {b : Nat} : Live (s.drop tok).blocks b ↔ Live s.blocks b := by
  cases tok with
  | none => exact Iff.rfl
  | some k => exact live_kill
/-- The memory behind an append. -/
theorem RelG.grow (hr : RelG Z w0 s e acts a w G) {tok : Option Nat} {w' : World} {bo : Option Nat} {L : Nat} (hos : w'.os = w.os) (htp : w'.tape = w.tape) (hout : w'.output = w.output) (hsz : w.heap.size ≤ w'.heap.size)
    (htok : ∀ k, tok = some k → k < G.nt)
    (hblk : ∀ b, b < w.heap.size → (∀ k, tok = some k → G.γ k ≠ some (some b)) → w'.heap[b]? = w.heap[b]?)
    (hnew : ∀ g, bo = some g → (g = w.heap.size ∧ g < w'.heap.size) ∨ ∃ k, tok = some k ∧ G.γ k = some (some g))
    (hfr : ∀ k g, tok = some k → G.γ k = some (some g) → ∀ i, G.Φ g i → w'.cell? ⟨g, i, none⟩ = w.cell? ⟨g, i, none⟩)
    (hL : ∀ k g, tok = some k → G.γ k = some (some g) → bo = some g → ∀ i, G.Φ g i → i < L) :
    let G' : Gh := { G with Φ := fun b i => G.Φ b i ∨ (bo = some b ∧ i < L), γ := fun j => if tok = some j then none else G.γ j }
    RelG Z w0 (s.drop tok) e acts a w' G' ∧ FExt G.Φ w G'.Φ w' ∧ (∀ g, bo = some g → ∀ i, G'.Φ g i ↔ i < L) ∧
      ∀ g, bo = some g → G'.B ≤ g ∧ g < w'.heap.size ∧ (∀ b, Live (s.drop tok).blocks b → G'.ρ b ≠ g) ∧ ∀ k, k < G'.nt → G'.γ k ≠ some (some g) := by
  intro G'
  have hfz : FExt G.Φ w G'.Φ w' := ⟨fun _ _ h => .inl h, fun b i h => by
    by_cases hb : ∃ k, tok = some k ∧ G.γ k = some (some b)
    · obtain ⟨k, h1, h2⟩ := hb; exact hfr k b h1 h2 i h
    · exact World.cell?_of_block (w := w) (a := ⟨b, i, none⟩) (hblk b (hr.fz b i h) (fun k h1 h2 => hb ⟨k, h1, h2⟩))⟩
  have hlive : ∀ b, Live s.blocks b → w'.heap[G.ρ b]? = w.heap[G.ρ b]? := fun b hl => hblk _ (hr.live_lt hl).2 (fun k h1 h2 => (hr.tlo k _ (htok k h1) h2).2.2 b hl rfl)
  have hbl : ∀ b, Live s.blocks b → bo ≠ some (G.ρ b) := by
    intro b hl hb
    rcases hnew _ hb with ⟨h1, _⟩ | ⟨k, h1, h2⟩
    · have := (hr.live_lt hl).2; omega
    · exact (hr.tlo k _ (htok k h1) h2).2.2 b hl rfl
  have hγ : ∀ j, j < G.nt → tok ≠ some j → ∀ b, G.γ j = some b → G'.γ j = some b ∧ ∀ g, b = some g → w'.heap[g]? = w.heap[g]? ∧ ∀ i, G'.Φ g i → G.Φ g i := by
    intro j hj hne b hb
    refine ⟨by show (if tok = some j then none else G.γ j) = _; rw [if_neg hne]; exact hb, fun g hg => ?_⟩
    subst hg
    have hlt := (hr.tlo j g hj hb).2.1
    have hno : ∀ k, tok = some k → G.γ k ≠ some (some g) := fun k h1 h2 => hne (by rw [h1, hr.tinj j k g hj (htok k h1) hb h2])
    refine ⟨hblk g hlt hno, fun i hi => ?_⟩
    rcases hi with hi | ⟨hi, _⟩
    · exact hi
    · rcases hnew g hi with ⟨h1, _⟩ | ⟨k, h1, h2⟩
      · omega
      · exact absurd h2 (hno k h1)
  have hbel : BelX Z.op w0.heap.size w0 w' := hr.bel.trans ⟨hos, htp, hout, hsz, fun k hk => hblk k (Nat.lt_of_lt_of_le hk hr.bel.size) (fun j h1 h2 => by
    have := (hr.tlo j k (htok j h1) h2).1
    rw [hr.B] at this
    omega)⟩
  have hfb : ∀ b i, G'.Φ b i → b < w'.heap.size := by
    intro b i h
    rcases h with h | ⟨h, _⟩
    · have := hr.fz b i h; omega
    · rcases hnew b h with ⟨_, h2⟩ | ⟨k, h1, h2⟩
      · exact h2
      · have := (hr.tlo k b (htok k h1) h2).2.1; omega
  have hblks : ∀ (b : Nat), Live s.blocks b → ∀ i, ¬ G'.Φ (G'.ρ b) i := by
    rintro b hl i (h | ⟨h, _⟩)
    · obtain ⟨el, cs, hl'⟩ := id hl
      obtain ⟨us, _, _, hn⟩ := hr.blk b _ hl'
      exact hn i h
    · exact hbl b hl h
  have hts : ∀ k g, k < G'.nt → G'.γ k = some (some g) → tok ≠ some k ∧ G.γ k = some (some g) := by
    intro k g hk hg
    have hg' : (if tok = some k then none else G.γ k) = some (some g) := hg
    split at hg'
    · cases hg'
    · rename_i hne; exact ⟨hne, hg'⟩
  have hzz : (∀ b i, Z.fz b i → G'.Φ b i) ∧ ∀ b i, b < w0.heap.size → G'.Φ b i → Z.fz b i := by
    refine ⟨fun b i hb => .inl (hr.zz.1 b i hb), fun b i hb hi => ?_⟩
    rcases hi with hi | ⟨hi, _⟩
    · exact hr.zz.2 b i hb hi
    · exfalso
      rcases hnew b hi with ⟨h1, _⟩ | ⟨k, h1, h2⟩
      · have := hr.bel.size; omega
      · have := (hr.tlo k b (htok k h1) h2).1
        rw [hr.B] at this
        omega
  refine ⟨?_, hfz, ?_, ?_⟩
  · have htl : ∀ k g, k < G'.nt → G'.γ k = some (some g) → G'.B ≤ g ∧ g < w'.heap.size ∧ ∀ b, Live (s.drop tok).blocks b → G'.ρ b ≠ g := by
      intro k g hk hg
      obtain ⟨_, hg'⟩ := hts k g hk hg
      obtain ⟨h1, h2, h3⟩ := hr.tlo k g hk hg'
      exact ⟨h1, by omega, fun b hl => h3 b (drop_live.1 hl)⟩
    have hti : ∀ k k' g, k < G'.nt → k' < G'.nt → G'.γ k = some (some g) → G'.γ k' = some (some g) → k = k' := fun k k' g hk hk' hg hg' => hr.tinj k k' g hk hk' (hts k g hk hg).2 (hts k' g hk' hg').2
    cases tok with
    | none =>
      have hx : GExt G w G' w' := ⟨hfz, Nat.le_refl _, Nat.le_refl _, rfl, fun _ _ => rfl, fun k hk b hb => hγ k hk (by simp) b hb⟩
      refine ⟨hr.B, hbel, hr.defers, hr.size, hr.nb, hr.nt, hfb, hr.tm.mono hx, hr.stk.mono hx, ?_, fun b hl => hr.lo b hl, fun b b' hl hl' => hr.inj b b' hl hl', htl, hti, hzz⟩
      intro b B hB
      have h0 := hr.blk b B hB
      cases B with
      | dead => trivial
      | cells el cs =>
        obtain ⟨us, h1, h2, _⟩ := h0
        have hl : Live s.blocks b := ⟨el, cs, hB⟩
        exact ⟨us, by rw [show G'.ρ b = G.ρ b from rfl, hlive b hl]; exact h1, AV.Rels.mono hx _ _ h2, hblks b hl⟩
    | some k =>
      have hx : GExtK k G w G' w' := ⟨hfz, Nat.le_refl _, Nat.le_refl _, rfl, fun _ _ => rfl, fun j hj hne b hb => hγ j hj (fun hh => hne (Option.some.inj hh).symm) b hb⟩
      refine ⟨hr.B, hbel, hr.defers, hr.size, (by rw [show (s.drop (some k)).blocks.length = s.blocks.length by simp [St.drop]]; exact hr.nb), hr.nt, hfb, hr.tm.kill hx, hr.stk.kill hx, ?_, fun b hl => hr.lo b (live_kill.1 hl), fun b b' hl hl' => hr.inj b b' (live_kill.1 hl) (live_kill.1 hl'), htl, hti, hzz⟩
      intro b B hB
      simp only [St.drop, List.getElem?_map, Option.map_eq_some_iff] at hB
      obtain ⟨B0, hB0, rfl⟩ := hB
      have h0 := hr.blk b B0 hB0
      cases B0 with
      | dead => trivial
      | cells el cs =>
        obtain ⟨us, h1, h2, _⟩ := h0
        have hl : Live s.blocks b := ⟨el, cs, hB0⟩
        exact ⟨us, by rw [show G'.ρ b = G.ρ b from rfl, hlive b hl]; exact h1, AV.Rels.kill hx _ _ h2, hblks b hl⟩
  · intro g hg i
    constructor
    · rintro (h | ⟨_, h⟩)
      · rcases hnew g hg with ⟨h1, _⟩ | ⟨k, h1, h2⟩
        · have := hr.fz g i h; omega
        · exact hL k g h1 h2 hg i h
      · exact h
    · intro h; exact .inr ⟨hg, h⟩
  · intro g hg
    refine ⟨?_, ?_, fun b hl hb => hbl b (drop_live.1 hl) (by rw [hg]; exact congrArg some hb.symm), fun k hk hkg => ?_⟩
    · rcases hnew g hg with ⟨h1, _⟩ | ⟨k, h1, h2⟩
      · show G.B ≤ g; rw [hr.B, h1]; exact hr.bel.size
      · exact (hr.tlo k g (htok k h1) h2).1
    · rcases hnew g hg with ⟨_, h2⟩ | ⟨k, h1, h2⟩
      · exact h2
      · have := (hr.tlo k g (htok k h1) h2).2.1; omega
    · obtain ⟨h1, h2⟩ := hts k g hk hkg
      rcases hnew g hg with ⟨h3, _⟩ | ⟨j, h3, h4⟩
      · have := (hr.tlo k g hk h2).2.1; omega
      · exact h1 (by rw [h3, hr.tinj k j g hk (htok j h3) h2 h4])
/-- What is appended to, told. -/
theorem base_rel {el : TypeId} {t : Ty} {av : AV E} {tok : Option Nat} {full : Bool} {x : E → List t.den} {v : Value} (h : av.base? el t = some (tok, full, x)) (hr : av.Rel G w e v) :
    (full = false ∧ (∀ k, tok = some k → k < G.nt ∧ G.γ k = some v.ownBlock) ∧ (tok = none → v.ownBlock = none) ∧ OwnRel G.Φ w G.B el t (x e) v v.ownBlock ∧ (av.emptyNil = true → x e = [] → v = .slice none 0 0)) ∨
    (full = true ∧ tok = none ∧ CRel G.Φ w (.sl el t) (x e) [v] ∧ ∃ A n, v = .slice A n n) := by
  cases av with
  | nilsl =>
    simp only [AV.base?, Option.some.injEq, Prod.mk.injEq] at h
    obtain ⟨rfl, rfl, rfl⟩ := h
    rw [show v = _ from hr]
    exact .inl ⟨rfl, (fun k hk => nomatch hk), (fun _ => rfl), ⟨rfl, [], World.ownsRow_nil w _ _ _, (fun j x hj => by simp at hj), (fun g hg => nomatch hg)⟩, fun _ _ => rfl⟩
  | full el' t' y =>
    simp only [AV.base?, Option.map_eq_some_iff, Prod.mk.injEq] at h
    obtain ⟨z, hz, rfl, rfl, rfl⟩ := h
    exact .inr ⟨rfl, rfl, castTo_rel (t := .sl el' t') hz hr.1, hr.2⟩
  | own zz k el' t' y =>
    simp only [AV.base?, Option.map_eq_some_iff, Prod.mk.injEq] at h
    obtain ⟨z, hz, rfl, rfl, rfl⟩ := h
    obtain ⟨h1, hzz, bo, h2, h3⟩ := hr
    obtain rfl := h3.1
    refine .inl ⟨rfl, (fun j hj => by cases hj; exact ⟨h1, h2⟩), (fun hh => nomatch hh), ?_⟩
    obtain ⟨ht, hy⟩ := castTo_spec hz
    cases ht
    rw [show z = y from hy]
    exact ⟨h3, hzz⟩
  | _ => simp [AV.base?] at h
end
end Go.Proofs.YtmmbedlegmbppaaDoor.R
/- An operation that changes something does what the compiler says. -/
namespace Go.Proofs.YtmmbedlegmbppaaDoor.R
open Go Go.RowKit
set_option linter.unusedVariables false
set_option linter.unusedSimpArgs false
section
variable {E : Type} {G : Gh} {w w0 : World} {Z : Zf} {e : E} {P : Program} {s : St E} {a : Act} {acts : List (Array Value)} {R : Type} {K : Kont R} {r : R}
theorem fitsL_iff {n m : Int} {b : Nat} : fitsL n m b = true ↔ (n + m) * b ≤ 140737488355328 ∧ n + m ≤ 140737488355328 := by simp [fitsL]
theorem posI_iff {n : Int} : posI n = true ↔ 0 < n := by simp [posI]
theorem guardIf_spec {c : Option (E → Bool)} {k : Option (E → Option R)} {F : E → Option R} (h : guardIf c k = some F) (hF : F e = some r) : ∃ f, k = some f ∧ (∀ g, c = some g → g e = true) ∧ f e = some r := by
  unfold guardIf at h
  split at h
  · exact ⟨F, h, (fun g hg => nomatch hg), hF⟩
  · rename_i c
    rw [Option.map_eq_some_iff] at h
    obtain ⟨f, hf, rfl⟩ := h
    simp only [ifO] at hF
    split at hF
    · rename_i hc
      exact ⟨f, hf, fun g hg => by cases hg; exact hc, hF⟩
    · cases hF
theorem splitB_spec {x : E → Bool} {A B : Option (E → Option R)} {F : E → Option R} (h : splitB x A B = some F) : ∃ f g, A = some f ∧ B = some g ∧ F = fun e => ifO (x e) (f e) (g e) := by
  unfold splitB at h
  split at h
  · exact ⟨_, _, rfl, rfl, (Option.some.inj h).symm⟩
  · cases h
theorem St.put_size (s : St E) (d : Option Tmp) (v : AV E) : (s.put d v).size = s.size := by cases d <;> rfl
theorem dstOk'_newTok {d : Option Tmp} (h : dstOk' s d) : dstOk' (newTok s) d := h
theorem dstOk'_drop {d : Option Tmp} {k : Option Nat} (h : dstOk' s d) : dstOk' (s.drop k) d := by cases k <;> exact h
/-- What 'append' does. -/
theorem appendTo_sound {dst : Option Tmp} {t u ty : TypeId} {x y : AV E} {vx vy : Value} {F : E → Option R} (h : appendTo P s dst t u x y K = some F) (hF : F e = some r) (hr : RelG Z w0 s e acts a w G) (hd : dstOk' s dst) (hx : x.Rel G w e vx) (hy : y.Rel G w e vy) :
    ∃ v w', (Builtin.append_ #[t, u] ty #[vx, vy]).run P w = .ok v w' ∧ After Z w0 acts K r G w (a.put dst v) w' := by
  unfold appendTo at h
  split at h
  rotate_left
  · cases h
  rename_i el ht
  simp only [Option.bind_eq_some_iff] at h
  obtain ⟨tt, htt, ⟨tok, full, xs⟩, hb, ys, hys, h⟩ := h
  split at h
  rotate_left
  · cases h
  rename_i hck
  simp only [Bool.and_eq_true, decide_eq_true_eq, Option.any_eq_true] at hck
  obtain ⟨⟨⟨⟨hsz, hpos⟩, hby⟩, rfl⟩, z, hz, hzs⟩ := hck
  obtain ⟨F1, hK, hc, hF1⟩ := guardIf_spec h hF
  have hfit := hc _ rfl
  obtain ⟨it, zv, hit, hiz, hzc⟩ := zero_some hz
  have hsize : it.size = tt.size := by rw [hsz]; simp [sizeT, Program.cellsOf, hit]
  have hbytes : bytesT P el = it.bytes := by simp [bytesT, Program.bytesOf, hit]
  have hzcs : zv.cells.size = it.size := by rw [hzc, hsize]; exact hzs
  have hyr := AV.to1_rel hys hy
  obtain ⟨A2, c2, hv2, _, _⟩ := id hyr
  obtain rfl := (List.cons.inj hv2).1
  obtain ⟨news, n1, n2, n3, n4⟩ := slice_cells hyr
  have hfit' : ((xs e).length + (ys e).length) * it.bytes ≤ 140737488355328 ∧ (xs e).length + (ys e).length ≤ 140737488355328 := by
    rw [fitsL_iff, hbytes] at hfit
    obtain ⟨f1, f2⟩ := hfit
    have f1' : (((xs e).length : Int) + ((ys e).length : Int)) * (it.bytes : Int) ≤ 140737488355328 := f1
    have f2' : ((xs e).length : Int) + ((ys e).length : Int) ≤ 140737488355328 := f2
    refine ⟨?_, by omega⟩
    have h2 : ((((xs e).length + (ys e).length) * it.bytes : Nat) : Int) ≤ ((140737488355328 : Nat) : Int) := by rw [Int.natCast_mul, Int.natCast_add]; exact f1'
    exact Int.ofNat_le.1 h2
  have hA : (ys e).length = 0 ∨ ∃ ad, A2 = some ad ∧ ∀ j u, news[j]? = some u → w.cell? (ad.add j) = some u := by
    rcases n4 with h0 | ⟨g, o, rfl, hc4⟩
    · exact .inl h0
    · exact .inr ⟨⟨g, o, none⟩, rfl, fun j u hj => by rw [add_cell]; exact (hc4 j u hj).2⟩
  have hbase : w0.heap.size ≤ w.heap.size := hr.bel.size
  -- what the row holds then
  have finish : ∀ (v' : Value) (w' : World) (us : List Value) (n : Nat), n = (xs e).length → w'.ownsRow G.B el it.size v' (n + (ys e).length) (us ++ news) → us.length = n * tt.size → (∀ (j : Nat) (x : tt.den), (xs e)[j]? = some x → CRel G.Φ w tt x ((us.drop (j * tt.size)).take tt.size)) →
      ∀ G' : Gh, FExt G.Φ w G'.Φ w' → G'.B = G.B → (∀ g, v'.ownBlock = some g → ∀ i, G'.Φ g i ↔ i < (n + (ys e).length) * tt.size) → OwnRel G'.Φ w' G'.B el tt (catL (xs e) (ys e)) v' v'.ownBlock := by
    intro v' w' us n hn hrow hus hcr G' hfx hB hΦ
    subst hn
    have hlen : (catL (xs e) (ys e)).length = (xs e).length + (ys e).length := List.length_append
    refine ⟨rfl, us ++ news, by rw [hlen, hB, ← hsize]; exact hrow, fun j x hj => ?_, fun g hg i => by rw [hlen]; exact hΦ g hg i⟩
    unfold catL at hj
    rw [List.getElem?_append] at hj
    split at hj
    · rename_i hlt
      have := (hcr j x hj).mono hfx
      have hle : (j + 1) * tt.size ≤ us.length := by rw [hus]; exact Nat.mul_le_mul_right _ hlt
      rw [Nat.succ_mul] at hle
      rw [List.drop_append_of_le_length (by omega), List.take_append_of_le_length (by rw [List.length_drop]; omega)]
      exact this
    · rename_i hge
      have := (n2 _ x hj).mono hfx
      have hj' : j * tt.size = us.length + (j - (xs e).length) * tt.size := by
        rw [hus, ← Nat.add_mul]; congr 1; omega
      rw [hj', List.drop_append]
      rw [List.drop_eq_nil_of_le (by omega), List.nil_append, Nat.add_sub_cancel_left]
      exact this
  rcases base_rel hb hx with ⟨rfl, htok, hnone, hown, hemp⟩ | ⟨rfl, rfl, hcr, A, n, rfl⟩
  · -- a row of our own
    replace hK : K E ((newTok (s.drop tok)).put dst (.own x.emptyNil s.nt el tt fun e' => catL (xs e') (ys e'))) = some F1 := hK
    obtain ⟨_, us, hrow, hreps, hΦ0⟩ := hown
    rw [hr.B, ← hsize] at hrow
    obtain ⟨v', w', hrun, hrow', hg, hm0⟩ := append_own (P := P) (ty := ty) (c := c2) ht hit hiz hzcs (by omega) hrow hbase (by rw [n1, hsize]) hA n3 hfit'.1 hfit'.2
    refine ⟨v', w', hrun, ?_⟩
    have hus : us.length = (xs e).length * tt.size := by rw [← hsize]; exact hrow.1
    obtain ⟨q1, q2, q3, q4⟩ := hr.grow (tok := tok) (w' := w') (bo := v'.ownBlock) (L := ((xs e).length + (ys e).length) * tt.size) hg.os hg.tape hg.output hg.size (fun k hk => (htok k hk).1)
      (fun b hb hne => by
        rcases hg.way with ⟨_, h2⟩ | ⟨_, _, h2⟩
        · refine h2 b (fun he => ?_)
          cases tok with
          | none => rw [hnone rfl] at he; cases he
          | some k => exact hne k rfl (by rw [(htok k rfl).2, ← he])
        · exact h2 b hb)
      (fun g hgg => by
        rcases hg.way with ⟨h1, _⟩ | ⟨h1, h2, _⟩
        · rw [h1] at hgg
          cases tok with
          | none => rw [hnone rfl] at hgg; cases hgg
          | some k => exact .inr ⟨k, rfl, by rw [(htok k rfl).2, hgg]⟩
        · rw [h1] at hgg; cases hgg; exact .inl ⟨rfl, h2⟩)
      (fun k g hk hkg i hi => by
        have hvg : vx.ownBlock = some g := by have := (htok k hk).2; rw [hkg] at this; exact (Option.some.inj this).symm
        rcases hg.way with ⟨h1, _⟩ | ⟨_, _, h2⟩
        · have hlt := (hΦ0 g hvg i).1 hi
          have hlt' : i < us.length := by rw [hus]; exact hlt
          have e1 := own_cell hrow hvg (List.getElem?_eq_getElem hlt')
          have e2 := own_cell hrow' (h1.trans hvg) (i := i) (u := us[i]) (by rw [List.getElem?_append_left hlt']; exact List.getElem?_eq_getElem hlt')
          rw [e1, e2]
        · exact World.cell?_of_block (w := w) (a := ⟨g, i, none⟩) (h2 g (hr.fz g i hi)))
      (fun k g hk hkg hbo i hi => by
        have hvg : vx.ownBlock = some g := by have := (htok k hk).2; rw [hkg] at this; exact (Option.some.inj this).symm
        have hlt := (hΦ0 g hvg i).1 hi
        exact Nat.lt_of_lt_of_le hlt (Nat.mul_le_mul_right _ (Nat.le_add_right _ _)))
    have hown' := finish v' w' us _ rfl (by rw [hr.B]; exact hrow') hus hreps _ q2 rfl q3
    have hput := (q1.newTok (bo := v'.ownBlock) q4).put (d := dst) (dstOk'_drop hd) (own_rel (z := x.emptyNil) (x := fun e' => catL (xs e') (ys e')) (el := el) hown' (fun hz hx => by
      have hl : (xs e ++ ys e).length = 0 := by rw [show xs e ++ ys e = [] from hx]; rfl
      rw [List.length_append] at hl
      rw [hm0 (by omega)]
      exact hemp hz (List.eq_nil_of_length_eq_zero (by omega))))
    rw [show ({ G with Φ := fun b i => G.Φ b i ∨ (v'.ownBlock = some b ∧ i < ((xs e).length + (ys e).length) * tt.size), γ := fun j => if tok = some j then none else G.γ j } : Gh).nt = s.nt from hr.nt] at hput
    exact ⟨E, _, e, F1, _, hK, hF1, hput, q2⟩
  · -- a slice that is full
    have hcr' : CRel G.Φ w (.sl el tt) (xs e) [.slice A (xs e).length n] ∧ n = (xs e).length := by
      obtain ⟨A', c', hv, _⟩ := id hcr
      have := (List.cons.inj hv).1
      simp only [Value.slice.injEq] at this
      obtain ⟨_, h2, _⟩ := this
      rw [← h2]
      rw [h2] at hcr ⊢
      exact ⟨hcr, rfl⟩
    obtain ⟨hcr', rfl⟩ := hcr'
    obtain ⟨us, m1, m2, _, m4⟩ := slice_cells hcr'
    obtain ⟨f1, f2, hk1, hk2, rfl⟩ := splitB_spec (show splitB (fun e' => posI (lenL (ys e'))) (K E ((newTok (s.drop none)).put dst (.own x.emptyNil s.nt el tt fun e' => catL (xs e') (ys e')))) (K E (s.put dst x)) = some F1 from hK)
    cases hp : posI (lenL (ys e)) with
    | false =>
      have h0 : (ys e).length = 0 := by
        have hp' : ¬ (0 < lenL (ys e)) := fun h => by rw [(posI_iff (n := lenL (ys e))).2 h] at hp; cases hp
        unfold lenL at hp'
        omega
      refine ⟨_, w, ?_, E, _, e, f2, G, hk2, ?_, hr.put hd hx, .refl _ _⟩
      · rw [h0]; exact append_none ht hit (Nat.le_refl _)
      · rw [← hF1]; simp only [hp, ifO]; rfl
    | true =>
    replace hF1 : f1 e = some r := by rw [← hF1]; simp only [hp, ifO]; rfl
    have hm : 0 < (ys e).length := by
      rw [posI_iff] at hp
      unfold lenL at hp
      omega
    obtain ⟨v', w', hrun, hrow', hg, hvo, hgt, hsame⟩ := append_full (P := P) (ty := ty) (A := A) (base := w0.heap.size) (c := c2) (us := us) ht hit hiz hzcs (by omega) (by rw [m1, hsize]) (by
      rcases m4 with h0 | ⟨g, o, rfl, hc4⟩
      · exact .inl h0
      · exact .inr ⟨⟨g, o, none⟩, rfl, fun j u hj => by rw [add_cell]; exact (hc4 j u hj).2⟩) hbase (by rw [n1, hsize]) hA hm hfit'.1 hfit'.2
    refine ⟨v', w', hrun, ?_⟩
    obtain ⟨q1, q2, q3, q4⟩ := hr.grow (tok := none) (w' := w') (bo := v'.ownBlock) (L := ((xs e).length + (ys e).length) * tt.size) hg.os hg.tape hg.output hg.size (fun k hk => nomatch hk)
      (fun b hb _ => hsame b hb) (fun g hgg => by rw [hvo] at hgg; cases hgg; exact .inl ⟨rfl, hgt⟩) (fun k g hk => nomatch hk) (fun k g hk => nomatch hk)
    have hown' := finish v' w' us _ rfl (by rw [hr.B]; exact hrow') m1 m2 _ q2 rfl q3
    have hput := (q1.newTok (bo := v'.ownBlock) q4).put (d := dst) (dstOk'_drop (k := none) hd) (own_rel (z := x.emptyNil) (x := fun e' => catL (xs e') (ys e')) (el := el) hown' (fun hz hx => by
      have hl : (xs e ++ ys e).length = 0 := by rw [show xs e ++ ys e = [] from hx]; rfl
      rw [List.length_append] at hl
      omega))
    rw [show ({ G with Φ := fun b i => G.Φ b i ∨ (v'.ownBlock = some b ∧ i < ((xs e).length + (ys e).length) * tt.size), γ := fun j => if (none : Option Nat) = some j then none else G.γ j } : Gh).nt = s.nt from hr.nt] at hput
    exact ⟨E, _, e, f1, _, hk1, hF1, hput, q2⟩
/-- What 'append' does with a text. -/
theorem appendStr_sound {dst : Option Tmp} {t u ty : TypeId} {x y : AV E} {vx vy : Value} {F : E → Option R} (h : appendStr P s dst t u x y K = some F) (hF : F e = some r) (hr : RelG Z w0 s e acts a w G) (hd : dstOk' s dst) (hx : x.Rel G w e vx) (hy : y.Rel G w e vy) :
    ∃ v w', (Builtin.append_ #[t, u] ty #[vx, vy]).run P w = .ok v w' ∧ After Z w0 acts K r G w (a.put dst v) w' := by
  unfold appendStr at h
  split at h
  rotate_left
  · cases h
  rename_i el ys ht
  split at h
  rotate_left
  · cases h
  rename_i i hi htt
  simp only [Option.bind_eq_some_iff] at h
  obtain ⟨⟨tok, full, xs⟩, hb, h⟩ := h
  split at h
  rotate_left
  · cases h
  rename_i hck
  simp only [Bool.and_eq_true, decide_eq_true_eq, Bool.not_eq_true'] at hck
  obtain ⟨⟨⟨⟨hs1, hby⟩, hz⟩, hu⟩, hfull⟩ := hck
  have hz : i.zero = some (.int .u8 0) := by
    unfold isU80 at hz
    split at hz
    · rename_i n hn
      rw [hn, show n = 0 by simpa using hz]
    · cases hz
  obtain ⟨F1, hK, hc, hF1⟩ := guardIf_spec h hF
  have hfit := hc _ rfl
  rw [fitsL_iff] at hfit
  have hy' : vy = .string (ys e) := (List.cons.inj hy).1
  subst hy'
  have hbase : w0.heap.size ≤ w.heap.size := hr.bel.size
  rcases base_rel hb hx with ⟨_, htok, hnone, hown, hemp⟩ | ⟨hh, _⟩
  rotate_left
  · rw [show full = false from hfull] at hh; cases hh
  obtain ⟨_, us, hrow, hreps, hΦ0⟩ := hown
  have hsz1 : (Ty.int IntKind.u8).size = 1 := rfl
  rw [hr.B, hsz1] at hrow
  have hfit' : (xs e).length + (ys e).size ≤ 140737488355328 := by
    obtain ⟨_, f2⟩ := hfit
    have f2' : ((xs e).length : Int) + ((ys e).size : Int) ≤ 140737488355328 := f2
    omega
  obtain ⟨v', w', hrun, hrow', hg, hm0⟩ := append_own_str (P := P) (ty := ty) ht (isStrT_spec hu) hi hz hs1 hby hrow hbase (ys e) hfit'
  refine ⟨v', w', hrun, ?_⟩
  have hus : us.length = (xs e).length := by simpa using hrow.1
  have hbl : (bytesI (ys e)).length = (ys e).size := by unfold bytesI; rw [List.length_map]; exact Array.length_toList
  obtain ⟨q1, q2, q3, q4⟩ := hr.grow (tok := tok) (w' := w') (bo := v'.ownBlock) (L := (xs e).length + (ys e).size) hg.os hg.tape hg.output hg.size (fun k hk => (htok k hk).1)
    (fun b hb hne => by
      rcases hg.way with ⟨_, h2⟩ | ⟨_, _, h2⟩
      · refine h2 b (fun he => ?_)
        cases tok with
        | none => rw [hnone rfl] at he; cases he
        | some k => exact hne k rfl (by rw [(htok k rfl).2, ← he])
      · exact h2 b hb)
    (fun g hgg => by
      rcases hg.way with ⟨h1, _⟩ | ⟨h1, h2, _⟩
      · rw [h1] at hgg
        cases tok with
        | none => rw [hnone rfl] at hgg; cases hgg
        | some k => exact .inr ⟨k, rfl, by rw [(htok k rfl).2, hgg]⟩
      · rw [h1] at hgg; cases hgg; exact .inl ⟨rfl, h2⟩)
    (fun k g hk hkg j hj => by
      have hvg : vx.ownBlock = some g := by have := (htok k hk).2; rw [hkg] at this; exact (Option.some.inj this).symm
      rcases hg.way with ⟨h1, _⟩ | ⟨_, _, h2⟩
      · have hlt := (hΦ0 g hvg j).1 hj
        rw [hsz1, Nat.mul_one] at hlt
        have hlt' : j < us.length := by rw [hus]; exact hlt
        have e1 := own_cell hrow hvg (List.getElem?_eq_getElem hlt')
        have e2 := own_cell hrow' (h1.trans hvg) (i := j) (u := us[j]) (by rw [List.getElem?_append_left hlt']; exact List.getElem?_eq_getElem hlt')
        rw [e1, e2]
      · exact World.cell?_of_block (w := w) (a := ⟨g, j, none⟩) (h2 g (hr.fz g j hj)))
    (fun k g hk hkg hbo j hj => by
      have hvg : vx.ownBlock = some g := by have := (htok k hk).2; rw [hkg] at this; exact (Option.some.inj this).symm
      have hlt := (hΦ0 g hvg j).1 hj
      rw [hsz1, Nat.mul_one] at hlt
      exact Nat.lt_of_lt_of_le hlt (Nat.le_add_right _ _))
  have hlen : (catL (xs e) (bytesI (ys e))).length = (xs e).length + (ys e).size := by unfold catL; rw [List.length_append, hbl]
  have hown' : OwnRel (fun b i => G.Φ b i ∨ (v'.ownBlock = some b ∧ i < (xs e).length + (ys e).size)) w' G.B el (.int .u8) (catL (xs e) (bytesI (ys e))) v' v'.ownBlock := by
    refine ⟨rfl, us ++ Lib.strCells (ys e), by rw [hlen, hr.B]; exact hrow', fun j x hj => ?_, fun g hg j => by rw [hlen, hsz1, Nat.mul_one]; exact q3 g hg j⟩
    unfold catL at hj
    rw [List.getElem?_append] at hj
    rw [hsz1, Nat.mul_one]
    split at hj
    · rename_i hlt
      have := (hreps j x hj).mono q2
      rw [hsz1, Nat.mul_one] at this
      rw [List.drop_append_of_le_length (by omega), List.take_append_of_le_length (by rw [List.length_drop]; omega)]
      exact this
    · rename_i hge
      have hj2 : (bytesI (ys e))[j - (xs e).length]? = some x := hj
      unfold bytesI at hj2
      rw [List.getElem?_map, Option.map_eq_some_iff] at hj2
      obtain ⟨b, hb2, rfl⟩ := hj2
      have hlt2 := (List.getElem?_eq_some_iff.1 hb2).1
      rw [List.drop_append, List.drop_eq_nil_of_le (by omega), List.nil_append, hus]
      have hc : (Lib.strCells (ys e))[j - (xs e).length]? = some (.int .u8 b.toNat) := by
        unfold Lib.strCells
        simp [hb2]
      obtain ⟨hlt3, hc'⟩ := List.getElem?_eq_some_iff.1 hc
      rw [List.drop_eq_getElem_cons hlt3, hc', List.take_succ_cons, List.take_zero]
      rfl
  have hput := (q1.newTok (bo := v'.ownBlock) q4).put (d := dst) (dstOk'_drop hd) (own_rel (z := x.emptyNil) (x := fun e' => catL (xs e') (bytesI (ys e'))) (el := el) hown' (fun hz hx => by
    have hl : (xs e ++ bytesI (ys e)).length = 0 := by rw [show xs e ++ bytesI (ys e) = [] from hx]; rfl
    rw [List.length_append, hbl] at hl
    rw [hm0 (by omega)]
    exact hemp hz (List.eq_nil_of_length_eq_zero (by omega))))
  rw [show ({ G with Φ := fun b i => G.Φ b i ∨ (v'.ownBlock = some b ∧ i < (xs e).length + (ys e).size), γ := fun j => if tok = some j then none else G.γ j } : Gh).nt = s.nt from hr.nt] at hput
  exact ⟨E, _, e, F1, _, hK, hF1, hput, q2⟩
end
end Go.Proofs.YtmmbedlegmbppaaDoor.R
