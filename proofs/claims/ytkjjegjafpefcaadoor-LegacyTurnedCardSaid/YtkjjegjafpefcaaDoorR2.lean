/- What a state that is known in part says of a world; that it goes on saying so. -/
import Derived.Test.YtkjjegjafpefcaaDoorR1
import Derived.Below
import Derived.Laws.AppendOwn
namespace Go.Proofs.YtkjjegjafpefcaaDoor.R
open Go Go.RowKit
set_option linter.unusedVariables false
/-- Cells that nobody writes any more. -/
abbrev Fz := Nat → Nat → Prop
def CRel (Φ : Fz) (w : World) : (t : Ty) → t.den → List Value → Prop
  | .int k, x, cs => cs = [.int k x]
  | .bool, x, cs => cs = [.bool x]
  | .str, x, cs => cs = [.string x]
  | .sl _ t, xs, cs => ∃ A c, cs = [.slice A xs.length c] ∧ xs.length ≤ c ∧ c ≤ 9223372036854775807 ∧ ∃ g o, (xs.length = 0 ∨ A = some ⟨g, o, none⟩) ∧
      ∀ (j : Nat) (x : t.den), xs[j]? = some x → ∃ us : List Value, us.length = t.size ∧ CRel Φ w t x us ∧ ∀ (i : Nat) (u : Value), us[i]? = some u → Φ g (o + j * t.size + i) ∧ w.cell? ⟨g, o + j * t.size + i, none⟩ = some u
  | .pair a b, x, cs => ∃ us vs, cs = us ++ vs ∧ CRel Φ w a x.1 us ∧ CRel Φ w b x.2 vs
  | .agg t, x, cs => CRel Φ w t x cs
/-- The frozen cells stay, and stay frozen. -/
structure FExt (Φ : Fz) (w : World) (Φ' : Fz) (w' : World) : Prop where
  sub : ∀ b i, Φ b i → Φ' b i
  same : ∀ b i, Φ b i → w'.cell? ⟨b, i, none⟩ = w.cell? ⟨b, i, none⟩
theorem FExt.refl (Φ : Fz) (w : World) : FExt Φ w Φ w := ⟨fun _ _ h => h, fun _ _ _ => rfl⟩
theorem FExt.trans {Φ Φ' Φ'' : Fz} {w w' w'' : World} (h : FExt Φ w Φ' w') (k : FExt Φ' w' Φ'' w'') : FExt Φ w Φ'' w'' :=
  ⟨fun b i hb => k.sub b i (h.sub b i hb), fun b i hb => (k.same b i (h.sub b i hb)).trans (h.same b i hb)⟩
theorem CRel.length {Φ : Fz} {w : World} : ∀ {t : Ty} {x : t.den} {cs : List Value}, CRel Φ w t x cs → cs.length = t.size := by
  intro t
  induction t with
  | int k => intro x cs h; rw [show cs = _ from h]; rfl
  | bool => intro x cs h; rw [show cs = _ from h]; rfl
  | str => intro x cs h; rw [show cs = _ from h]; rfl
  | sl e t ih => intro x cs h; obtain ⟨A, c, h, _⟩ := h; rw [h]; rfl
  | pair a b iha ihb =>
    intro x cs h
    obtain ⟨us, vs, rfl, h1, h2⟩ := h
    rw [List.length_append, iha h1, ihb h2]; rfl
  | agg t ih => intro x cs h; exact ih (x := x) h
theorem CRel.mono {Φ Φ' : Fz} {w w' : World} (hx : FExt Φ w Φ' w') : ∀ {t : Ty} {x : t.den} {cs : List Value}, CRel Φ w t x cs → CRel Φ' w' t x cs := by
  intro t
  induction t with
  | int k => intro x cs h; exact h
  | bool => intro x cs h; exact h
  | str => intro x cs h; exact h
  | sl e t ih =>
    intro x cs h
    obtain ⟨A, c, h1, h2, h3, g, o, h4, h5⟩ := h
    refine ⟨A, c, h1, h2, h3, g, o, h4, fun j y hj => ?_⟩
    obtain ⟨us, hl, hr, hc⟩ := h5 j y hj
    exact ⟨us, hl, ih hr, fun i u hu => ⟨hx.sub _ _ (hc i u hu).1, (hx.same _ _ (hc i u hu).1).trans (hc i u hu).2⟩⟩
  | pair a b iha ihb =>
    intro x cs h
    obtain ⟨us, vs, rfl, h1, h2⟩ := h
    exact ⟨us, vs, rfl, iha h1, ihb h2⟩
  | agg t ih => intro x cs h; exact ih (x := x) h
/-- What is known of the memory beside the values: the frozen cells, where the blocks of our own lie, and the rows that are appended to. -/
structure Gh where
  Φ : Fz
  ρ : Nat → Nat
  γ : Nat → Option (Option Nat)
  nb : Nat
  nt : Nat
  B : Nat
/-- A row of our own. -/
def OwnRel (Φ : Fz) (w : World) (B : Nat) (e : TypeId) (t : Ty) (xs : List t.den) (v : Value) (bo : Option Nat) : Prop :=
  v.ownBlock = bo ∧ ∃ us : List Value, w.ownsRow B e t.size v xs.length us ∧ (∀ (j : Nat) (x : t.den), xs[j]? = some x → CRel Φ w t x ((us.drop (j * t.size)).take t.size)) ∧
    ∀ g, bo = some g → ∀ i, Φ g i ↔ i < xs.length * t.size
/-- A value as a whole. -/
def VRel (Φ : Fz) (w : World) (u : Ty) (x : u.den) (v : Value) : Prop := match u, x with
  | .agg t, x => ∃ us : Array Value, v = .agg us ∧ CRel Φ w t x us.toList
  | u, x => CRel Φ w u x [v]
theorem VRel.mono {Φ Φ' : Fz} {w w' : World} (hx : FExt Φ w Φ' w') {u : Ty} {x : u.den} {v : Value} (h : VRel Φ w u x v) : VRel Φ' w' u x v := by
  cases u with
  | agg t => obtain ⟨us, hv, h⟩ := h; exact ⟨us, hv, h.mono hx⟩
  | _ => exact CRel.mono hx h
/-- What a map holds, in its order. -/
def EntsRel (Φ : Fz) (w : World) (kd vd : Ty) : List (kd.den × vd.den) → List Value → Prop
  | [], us => us = []
  | p :: r, us => ∃ k v rest, us = .agg #[k, v] :: rest ∧ VRel Φ w kd p.1 k ∧ VRel Φ w vd p.2 v ∧ EntsRel Φ w kd vd r rest
theorem EntsRel.mono {Φ Φ' : Fz} {w w' : World} (hx : FExt Φ w Φ' w') {kd vd : Ty} : ∀ {l : List (kd.den × vd.den)} {us : List Value}, EntsRel Φ w kd vd l us → EntsRel Φ' w' kd vd l us
  | [], _, h => h
  | p :: r, _, h => by
    obtain ⟨k, v, rest, h0, h1, h2, h3⟩ := h
    exact ⟨k, v, rest, h0, h1.mono hx, h2.mono hx, h3.mono hx⟩
mutual
def AV.Rel {E : Type} (G : Gh) (w : World) (e : E) : AV E → Value → Prop
  | .undef, _ => True
  | .sym t x, v => CRel G.Φ w t (x e) [v]
  | .cb b, v => v = .bool b
  | .nilsl, v => v = .slice none 0 0
  | .full el t x, v => CRel G.Φ w (.sl el t) (x e) [v] ∧ ∃ A n, v = .slice A n n
  | .own z k el t x, v => k < G.nt ∧ (z = true → x e = [] → v = .slice none 0 0) ∧ ∃ bo, G.γ k = some bo ∧ OwnRel G.Φ w G.B el t (x e) v bo
  | .ptr b o, v => b < G.nb ∧ v = .pointer (some ⟨G.ρ b, o, none⟩)
  | .np b o, v => v = .pointer none ∨ (b < G.nb ∧ v = .pointer (some ⟨G.ρ b, o, none⟩))
  | .nilp, v => v = .pointer none
  | .rp cs, v => ∃ g o, v = .pointer (some ⟨g, o, none⟩) ∧ ∃ us : List Value, AV.Rels G w e cs us ∧ ∀ (i : Nat) (u : Value), us[i]? = some u → G.Φ g (o + i) ∧ w.cell? ⟨g, o + i, none⟩ = some u
  | .ag cs, v => ∃ us, v = .agg us ∧ AV.Rels G w e cs us.toList
  | .tup cs, v => ∃ us, v = .tuple us ∧ AV.Rels G w e cs us.toList
  | .fn f cs, v => ∃ us, v = .func (.func f) #[] us ∧ AV.Rels G w e cs us.toList
  | .nilf, v => v = .nilFunc
  | .mp b, v => b < G.nb ∧ v = .map (some (G.ρ b))
  | .ents kd vd x, v => ∃ us : Array Value, v = .agg us ∧ EntsRel G.Φ w kd vd (x e) us.toList
def AV.Rels {E : Type} (G : Gh) (w : World) (e : E) : List (AV E) → List Value → Prop
  | [], us => us = []
  | c :: cs, us => ∃ u r, us = u :: r ∧ c.Rel G w e u ∧ AV.Rels G w e cs r
end
/-- One picture of the memory goes on in another one. -/
structure GExt (G : Gh) (w : World) (G' : Gh) (w' : World) : Prop where
  fz : FExt G.Φ w G'.Φ w'
  nb : G.nb ≤ G'.nb
  nt : G.nt ≤ G'.nt
  B : G'.B = G.B
  ρ : ∀ b, b < G.nb → G'.ρ b = G.ρ b
  γ : ∀ k, k < G.nt → ∀ bo, G.γ k = some bo → G'.γ k = some bo ∧ ∀ g, bo = some g → w'.heap[g]? = w.heap[g]? ∧ ∀ i, G'.Φ g i → G.Φ g i
theorem GExt.refl (G : Gh) (w : World) : GExt G w G w := ⟨.refl _ _, Nat.le_refl _, Nat.le_refl _, rfl, fun _ _ => rfl, fun _ _ _ h => ⟨h, fun _ _ => ⟨rfl, fun _ h => h⟩⟩⟩
theorem GExt.trans {G G' G'' : Gh} {w w' w'' : World} (h : GExt G w G' w') (k : GExt G' w' G'' w'') : GExt G w G'' w'' :=
  ⟨h.fz.trans k.fz, Nat.le_trans h.nb k.nb, Nat.le_trans h.nt k.nt, k.B.trans h.B, fun b hb => (k.ρ b (Nat.lt_of_lt_of_le hb h.nb)).trans (h.ρ b hb),
   fun j hj bo hb => by
    obtain ⟨h3, h4⟩ := h.γ j hj bo hb
    obtain ⟨h1, h2⟩ := k.γ j (Nat.lt_of_lt_of_le hj h.nt) bo h3
    exact ⟨h1, fun g hg => ⟨(h2 g hg).1.trans (h4 g hg).1, fun i hi => (h4 g hg).2 i ((h2 g hg).2 i hi)⟩⟩⟩
theorem ownsRow_same {w w' : World} {B : Nat} {e : TypeId} {size n : Nat} {v : Value} {xs : List Value} (h : w.ownsRow B e size v n xs) (hk : ∀ g, v.ownBlock = some g → w'.heap[g]? = w.heap[g]?) : w'.ownsRow B e size v n xs := by
  refine ⟨h.1, ?_⟩
  rcases h.2 with hn | ⟨g, cap, cur, rfl, hb, hg, rest⟩
  · exact .inl hn
  · exact .inr ⟨g, cap, cur, rfl, hb, (hk g rfl).trans hg, rest⟩
theorem OwnRel.mono {Φ Φ' : Fz} {w w' : World} {B : Nat} {e : TypeId} {t : Ty} {xs : List t.den} {v : Value} {bo : Option Nat} (hx : FExt Φ w Φ' w') (hk : ∀ g, bo = some g → w'.heap[g]? = w.heap[g]? ∧ ∀ i, Φ' g i → Φ g i)
    (h : OwnRel Φ w B e t xs v bo) : OwnRel Φ' w' B e t xs v bo := by
  obtain ⟨h1, us, h2, h3, h4⟩ := h
  refine ⟨h1, us, ownsRow_same h2 (fun g hg => (hk g (h1 ▸ hg)).1), fun j x hj => (h3 j x hj).mono hx, fun g hg i => ⟨fun hi => (h4 g hg i).1 ((hk g hg).2 i hi), fun hi => hx.sub _ _ ((h4 g hg i).2 hi)⟩⟩
mutual
theorem AV.Rel.mono {E : Type} {G G' : Gh} {w w' : World} {e : E} (hx : GExt G w G' w') : ∀ (a : AV E) (v : Value), a.Rel G w e v → a.Rel G' w' e v
  | .undef, _, _ => trivial
  | .sym t x, v, h => CRel.mono hx.fz (show CRel G.Φ w t (x e) [v] from h)
  | .cb b, v, h => h
  | .nilsl, v, h => h
  | .full el t x, v, h => ⟨CRel.mono hx.fz (show CRel G.Φ w (.sl el t) (x e) [v] from h.1), h.2⟩
  | .own z k el t x, v, h => by
    obtain ⟨h1, hz, bo, h2, h3⟩ := h
    exact ⟨Nat.lt_of_lt_of_le h1 hx.nt, hz, bo, (hx.γ k h1 bo h2).1, by rw [hx.B]; exact h3.mono hx.fz (hx.γ k h1 bo h2).2⟩
  | .ptr b o, v, h => ⟨Nat.lt_of_lt_of_le h.1 hx.nb, by rw [hx.ρ b h.1]; exact h.2⟩
  | .np b o, v, h => h.imp id fun h => ⟨Nat.lt_of_lt_of_le h.1 hx.nb, by rw [hx.ρ b h.1]; exact h.2⟩
  | .nilp, v, h => h
  | .rp cs, v, h => by
    obtain ⟨g, o, hv, us, h1, h2⟩ := h
    exact ⟨g, o, hv, us, AV.Rels.mono hx cs us h1, fun i u hu => ⟨hx.fz.sub _ _ (h2 i u hu).1, (hx.fz.same _ _ (h2 i u hu).1).trans (h2 i u hu).2⟩⟩
  | .ag cs, v, h => by
    obtain ⟨us, hv, h1⟩ := h
    exact ⟨us, hv, AV.Rels.mono hx cs _ h1⟩
  | .tup cs, v, h => by
    obtain ⟨us, hv, h1⟩ := h
    exact ⟨us, hv, AV.Rels.mono hx cs _ h1⟩
  | .fn f cs, v, h => by
    obtain ⟨us, hv, h1⟩ := h
    exact ⟨us, hv, AV.Rels.mono hx cs _ h1⟩
  | .nilf, v, h => h
  | .mp b, v, h => ⟨Nat.lt_of_lt_of_le h.1 hx.nb, by rw [hx.ρ b h.1]; exact h.2⟩
  | .ents kd vd x, v, h => by
    obtain ⟨us, hv, h1⟩ := h
    exact ⟨us, hv, h1.mono hx.fz⟩
theorem AV.Rels.mono {E : Type} {G G' : Gh} {w w' : World} {e : E} (hx : GExt G w G' w') : ∀ (cs : List (AV E)) (us : List Value), AV.Rels G w e cs us → AV.Rels G' w' e cs us
  | [], _, h => h
  | c :: cs, us, h => by
    obtain ⟨u, r, hu, h1, h2⟩ := h
    exact ⟨u, r, hu, AV.Rel.mono hx c u h1, AV.Rels.mono hx cs r h2⟩
end
/-- One picture goes on in another one, but for the row of one token. -/
structure GExtK (k : Nat) (G : Gh) (w : World) (G' : Gh) (w' : World) : Prop where
  fz : FExt G.Φ w G'.Φ w'
  nb : G.nb ≤ G'.nb
  nt : G.nt ≤ G'.nt
  B : G'.B = G.B
  ρ : ∀ b, b < G.nb → G'.ρ b = G.ρ b
  γ : ∀ j, j < G.nt → j ≠ k → ∀ bo, G.γ j = some bo → G'.γ j = some bo ∧ ∀ g, bo = some g → w'.heap[g]? = w.heap[g]? ∧ ∀ i, G'.Φ g i → G.Φ g i
mutual
theorem AV.Rel.kill {E : Type} {k : Nat} {G G' : Gh} {w w' : World} {e : E} (hx : GExtK k G w G' w') : ∀ (a : AV E) (v : Value), a.Rel G w e v → (a.kill k).Rel G' w' e v
  | .undef, _, _ => trivial
  | .sym t x, v, h => CRel.mono hx.fz (show CRel G.Φ w t (x e) [v] from h)
  | .cb b, v, h => h
  | .nilsl, v, h => h
  | .full el t x, v, h => ⟨CRel.mono hx.fz (show CRel G.Φ w (.sl el t) (x e) [v] from h.1), h.2⟩
  | .own z j el t x, v, h => by
    unfold AV.kill
    by_cases hj : j = k
    · rw [if_pos hj]; trivial
    · rw [if_neg hj]
      obtain ⟨h1, hz, bo, h2, h3⟩ := h
      exact ⟨Nat.lt_of_lt_of_le h1 hx.nt, hz, bo, (hx.γ j h1 hj bo h2).1, by rw [hx.B]; exact h3.mono hx.fz (hx.γ j h1 hj bo h2).2⟩
  | .ptr b o, v, h => ⟨Nat.lt_of_lt_of_le h.1 hx.nb, by rw [hx.ρ b h.1]; exact h.2⟩
  | .np b o, v, h => h.imp id fun h => ⟨Nat.lt_of_lt_of_le h.1 hx.nb, by rw [hx.ρ b h.1]; exact h.2⟩
  | .nilp, v, h => h
  | .rp cs, v, h => by
    obtain ⟨g, o, hv, us, h1, h2⟩ := h
    exact ⟨g, o, hv, us, AV.Rels.kill hx cs us h1, fun i u hu => ⟨hx.fz.sub _ _ (h2 i u hu).1, (hx.fz.same _ _ (h2 i u hu).1).trans (h2 i u hu).2⟩⟩
  | .ag cs, v, h => by
    obtain ⟨us, hv, h1⟩ := h
    exact ⟨us, hv, AV.Rels.kill hx cs _ h1⟩
  | .tup cs, v, h => by
    obtain ⟨us, hv, h1⟩ := h
    exact ⟨us, hv, AV.Rels.kill hx cs _ h1⟩
  | .fn f cs, v, h => by
    obtain ⟨us, hv, h1⟩ := h
    exact ⟨us, hv, AV.Rels.kill hx cs _ h1⟩
  | .nilf, v, h => h
  | .mp b, v, h => ⟨Nat.lt_of_lt_of_le h.1 hx.nb, by rw [hx.ρ b h.1]; exact h.2⟩
  | .ents kd vd x, v, h => by
    obtain ⟨us, hv, h1⟩ := h
    exact ⟨us, hv, h1.mono hx.fz⟩
theorem AV.Rels.kill {E : Type} {k : Nat} {G G' : Gh} {w w' : World} {e : E} (hx : GExtK k G w G' w') : ∀ (cs : List (AV E)) (us : List Value), AV.Rels G w e cs us → AV.Rels G' w' e (AV.kills k cs) us
  | [], _, h => h
  | c :: cs, us, h => by
    obtain ⟨u, r, hu, h1, h2⟩ := h
    exact ⟨u, r, hu, AV.Rel.kill hx c u h1, AV.Rels.kill hx cs r h2⟩
end
mutual
theorem AV.Rel.comap {E E' : Type} {G : Gh} {w : World} {e : E'} {g : E' → E} : ∀ (a : AV E) (v : Value), (a.comap g).Rel G w e v ↔ a.Rel G w (g e) v
  | .undef, _ => Iff.rfl
  | .sym t x, v => Iff.rfl
  | .cb b, v => Iff.rfl
  | .nilsl, v => Iff.rfl
  | .full el t x, v => Iff.rfl
  | .own z k el t x, v => Iff.rfl
  | .ptr b o, v => Iff.rfl
  | .np b o, v => Iff.rfl
  | .nilp, v => Iff.rfl
  | .rp cs, v => by
    constructor
    · rintro ⟨g, o, hv, us, h1, h2⟩; exact ⟨g, o, hv, us, (AV.Rels.comap cs us).1 h1, h2⟩
    · rintro ⟨g, o, hv, us, h1, h2⟩; exact ⟨g, o, hv, us, (AV.Rels.comap cs us).2 h1, h2⟩
  | .ag cs, v => by
    constructor
    · rintro ⟨us, hv, h1⟩; exact ⟨us, hv, (AV.Rels.comap cs _).1 h1⟩
    · rintro ⟨us, hv, h1⟩; exact ⟨us, hv, (AV.Rels.comap cs _).2 h1⟩
  | .tup cs, v => by
    constructor
    · rintro ⟨us, hv, h1⟩; exact ⟨us, hv, (AV.Rels.comap cs _).1 h1⟩
    · rintro ⟨us, hv, h1⟩; exact ⟨us, hv, (AV.Rels.comap cs _).2 h1⟩
  | .fn f cs, v => by
    constructor
    · rintro ⟨us, hv, h1⟩; exact ⟨us, hv, (AV.Rels.comap cs _).1 h1⟩
    · rintro ⟨us, hv, h1⟩; exact ⟨us, hv, (AV.Rels.comap cs _).2 h1⟩
  | .nilf, v => Iff.rfl
  | .mp b, v => Iff.rfl
  | .ents kd vd x, v => Iff.rfl
theorem AV.Rels.comap {E E' : Type} {G : Gh} {w : World} {e : E'} {g : E' → E} : ∀ (cs : List (AV E)) (us : List Value), AV.Rels G w e (AV.comaps g cs) us ↔ AV.Rels G w (g e) cs us
  | [], _ => Iff.rfl
  | c :: cs, us => by
    constructor
    · rintro ⟨u, r, hu, h1, h2⟩; exact ⟨u, r, hu, (AV.Rel.comap c u).1 h1, (AV.Rels.comap cs r).1 h2⟩
    · rintro ⟨u, r, hu, h1, h2⟩; exact ⟨u, r, hu, (AV.Rel.comap c u).2 h1, (AV.Rels.comap cs r).2 h2⟩
end
/-! ### lists of values -/
section
variable {E : Type} {G : Gh} {w : World} {e : E}
theorem AV.Rels.length : ∀ {cs : List (AV E)} {us : List Value}, AV.Rels G w e cs us → us.length = cs.length
  | [], _, h => by rw [show _ = [] from h]; rfl
  | c :: cs, us, h => by obtain ⟨u, r, rfl, _, h2⟩ := h; simp [AV.Rels.length h2]
theorem AV.Rels.nil : AV.Rels G w e ([] : List (AV E)) [] := rfl
theorem AV.Rels.cons {c : AV E} {cs : List (AV E)} {u : Value} {us : List Value} (h : c.Rel G w e u) (k : AV.Rels G w e cs us) : AV.Rels G w e (c :: cs) (u :: us) := ⟨u, us, rfl, h, k⟩
theorem AV.Rels.append : ∀ {cs ds : List (AV E)} {us vs : List Value}, AV.Rels G w e cs us → AV.Rels G w e ds vs → AV.Rels G w e (cs ++ ds) (us ++ vs)
  | [], _, us, _, h, k => by rw [show us = [] from h]; exact k
  | c :: cs, _, us, _, h, k => by obtain ⟨u, r, rfl, h1, h2⟩ := h; exact ⟨u, _, rfl, h1, h2.append k⟩
theorem AV.Rels.split : ∀ {cs ds : List (AV E)} {us : List Value}, AV.Rels G w e (cs ++ ds) us → ∃ a b, us = a ++ b ∧ AV.Rels G w e cs a ∧ AV.Rels G w e ds b
  | [], ds, us, h => ⟨[], us, rfl, rfl, h⟩
  | c :: cs, ds, us, h => by
    obtain ⟨u, r, rfl, h1, h2⟩ := h
    obtain ⟨a, b, rfl, h3, h4⟩ := AV.Rels.split h2
    exact ⟨u :: a, b, rfl, .cons h1 h3, h4⟩
theorem AV.Rels.take : ∀ {cs : List (AV E)} {us : List Value} (n : Nat), AV.Rels G w e cs us → AV.Rels G w e (cs.take n) (us.take n)
  | _, _, 0, _ => by simp; exact rfl
  | [], us, n + 1, h => by rw [show us = [] from h]; exact rfl
  | c :: cs, us, n + 1, h => by obtain ⟨u, r, rfl, h1, h2⟩ := h; exact .cons h1 (h2.take n)
theorem AV.Rels.drop : ∀ {cs : List (AV E)} {us : List Value} (n : Nat), AV.Rels G w e cs us → AV.Rels G w e (cs.drop n) (us.drop n)
  | _, _, 0, h => h
  | [], us, n + 1, h => by rw [show us = [] from h]; exact rfl
  | c :: cs, us, n + 1, h => by obtain ⟨u, r, rfl, h1, h2⟩ := h; exact h2.drop n
theorem AV.Rels.get : ∀ {cs : List (AV E)} {us : List Value} {i : Nat} {c : AV E}, AV.Rels G w e cs us → cs[i]? = some c → ∃ u, us[i]? = some u ∧ c.Rel G w e u
  | c :: cs, us, 0, d, h, hi => by
    obtain ⟨u, r, rfl, h1, h2⟩ := h
    simp at hi; subst hi
    exact ⟨u, rfl, h1⟩
  | c :: cs, us, i + 1, d, h, hi => by
    obtain ⟨u, r, rfl, h1, h2⟩ := h
    simp at hi
    exact h2.get hi
theorem AV.Rels.set : ∀ {cs : List (AV E)} {us : List Value} (i : Nat) {c : AV E} {u : Value}, AV.Rels G w e cs us → c.Rel G w e u → AV.Rels G w e (cs.set i c) (us.set i u)
  | [], us, i, c, u, h, k => by rw [show us = [] from h]; exact rfl
  | d :: cs, us, 0, c, u, h, k => by obtain ⟨v, r, rfl, h1, h2⟩ := h; exact .cons k h2
  | d :: cs, us, i + 1, c, u, h, k => by obtain ⟨v, r, rfl, h1, h2⟩ := h; exact .cons h1 (h2.set i k)
end
end Go.Proofs.YtkjjegjafpefcaaDoor.R
