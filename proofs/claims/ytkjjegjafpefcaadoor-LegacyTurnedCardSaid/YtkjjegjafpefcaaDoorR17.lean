/- Joins and the heads of loops: a state that has a shape is told by its plain data. -/
import Derived.Test.YtkjjegjafpefcaaDoorR16
namespace Go.Proofs.YtkjjegjafpefcaaDoor.R
open Go Go.RowKit
set_option linter.unusedVariables false
set_option linter.unusedSimpArgs false
section
variable {E D : Type} {G G' : Gh} {w w0 : World} {Z : Fz} {e : E} {d : D} {P : Program} {s : St E} {a : Act} {acts : List (Array Value)}
/-- The same memory, told with other tokens. -/
structure Retold (G G' : Gh) : Prop where
  Φ : G'.Φ = G.Φ
  ρ : G'.ρ = G.ρ
  B : G'.B = G.B
def tokOf (G : Gh) : Option Nat → Option (Option Nat)
  | some k => G.γ k
  | none => some none
/-- The tokens of a part of the state have their places from k on. -/
def ToksAt (G G' : Gh) (ks : List (Option Nat)) (k : Nat) : Prop := ∀ m o, ks[m]? = some o → k + m < G'.nt ∧ G'.γ (k + m) = tokOf G o
def LeavesAt (leaf : (t : Ty) → Nat → D → t.den) (d : D) (e : E) (ls : List (Leaf E)) (i : Nat) : Prop := ∀ (m : Nat) (t : Ty) (x : E → t.den), ls[m]? = some ⟨t, x⟩ → leaf t (i + m) d = x e
theorem ToksAt.split {ks ls : List (Option Nat)} {k : Nat} (h : ToksAt G G' (ks ++ ls) k) : ToksAt G G' ks k ∧ ToksAt G G' ls (k + ks.length) :=
  ⟨fun m o hm => h m o (by rw [List.getElem?_append_left (List.getElem?_eq_some_iff.1 hm).1]; exact hm), fun m o hm => by
    have := h (ks.length + m) o (by rw [List.getElem?_append_right (by omega), Nat.add_sub_cancel_left]; exact hm)
    rw [← Nat.add_assoc] at this
    exact this⟩
theorem LeavesAt.split {leaf : (t : Ty) → Nat → D → t.den} {ks ls : List (Leaf E)} {k : Nat} (h : LeavesAt leaf d e (ks ++ ls) k) : LeavesAt leaf d e ks k ∧ LeavesAt leaf d e ls (k + ks.length) :=
  ⟨fun m t x hm => h m t x (by rw [List.getElem?_append_left (List.getElem?_eq_some_iff.1 hm).1]; exact hm), fun m t x hm => by
    have := h (ks.length + m) t x (by rw [List.getElem?_append_right (by omega), Nat.add_sub_cancel_left]; exact hm)
    rw [← Nat.add_assoc] at this
    exact this⟩
theorem crel_retold (hG : Retold G G') {t : Ty} {x : t.den} {us : List Value} (h : CRel G.Φ w t x us) : CRel G'.Φ w t x us := by rw [hG.Φ]; exact h
theorem ownrel_retold (hG : Retold G G') {el : TypeId} {t : Ty} {xs : List t.den} {v : Value} {bo : Option Nat} (h : OwnRel G.Φ w G.B el t xs v bo) : OwnRel G'.Φ w G'.B el t xs v bo := by rw [hG.Φ, hG.B]; exact h
/-- What a pattern takes, and makes anew. -/
structure TM (leaf : (t : Ty) → Nat → D → t.den) (G G' : Gh) (w : World) (d : D) (ls : List (Leaf E)) (ks : List (Option Nat)) (m : Made D (AV D)) (i k : Nat) (v : Value) : Prop where
  rel : m.val.Rel G' w d v
  i : m.i = i + ls.length
  k : m.k = k + ks.length
structure TMs (leaf : (t : Ty) → Nat → D → t.den) (G G' : Gh) (w : World) (d : D) (ls : List (Leaf E)) (ks : List (Option Nat)) (m : Made D (List (AV D))) (i k : Nat) (vs : List Value) : Prop where
  rel : AV.Rels G' w d m.val vs
  i : m.i = i + ls.length
  k : m.k = k + ks.length
mutual
theorem take_make (leaf : (t : Ty) → Nat → D → t.den) (hG : Retold G G') : ∀ (p : Pat) (av : AV E) (ls : List (Leaf E)) (i k : Nat) (v : Value), p.take av = some ls → p.ok G'.nb = true → av.Rel G w e v → LeavesAt leaf d e ls i → ToksAt G G' (p.toks av) k →
    TM leaf G G' w d ls (p.toks av) (p.make leaf i k) i k v
  | .undef, av, ls, i, k, v, h, _, hr, hl, ht => by
    simp only [Pat.take, Option.some.injEq] at h
    subst h
    have : Pat.toks .undef av = [] := by cases av <;> rfl
    rw [this]
    exact ⟨trivial, rfl, rfl⟩
  | .sym t, av, ls, i, k, v, h, _, hr, hl, ht => by
    simp only [Pat.take, Option.map_eq_some_iff] at h
    obtain ⟨x, hx, rfl⟩ := h
    have : Pat.toks (.sym t) av = [] := by cases av <;> rfl
    rw [this]
    refine ⟨?_, rfl, rfl⟩
    show CRel G'.Φ w t (leaf t i d) [v]
    rw [show leaf t i d = x e from hl 0 t x rfl]
    exact crel_retold hG (AV.to1_rel hx hr)
  | .cb b, av, ls, i, k, v, h, _, hr, hl, ht => by
    cases av with
    | cb b' =>
      simp only [Pat.take] at h
      split at h
      · rename_i hb
        obtain rfl := Option.some.inj h
        exact ⟨by rw [hb]; exact hr, rfl, rfl⟩
      · cases h
    | _ => simp [Pat.take] at h
  | .nilsl, av, ls, i, k, v, h, _, hr, hl, ht => by
    cases av with
    | nilsl => simp only [Pat.take, Option.some.injEq] at h; subst h; exact ⟨hr, rfl, rfl⟩
    | _ => simp [Pat.take] at h
  | .full el t, av, ls, i, k, v, h, _, hr, hl, ht => by
    cases av with
    | full el' t' x =>
      simp only [Pat.take, Option.map_eq_some_iff] at h
      obtain ⟨y, hy, rfl⟩ := h
      refine ⟨?_, rfl, rfl⟩
      refine ⟨?_, hr.2⟩
      rw [show leaf (.sl el t) i d = y e from hl 0 (.sl el t) y rfl]
      exact crel_retold hG (castTo_rel (t := .sl el' t') hy hr.1)
    | _ => simp [Pat.take] at h
  | .own z el t, av, ls, i, k, v, h, _, hr, hl, ht => by
    cases av with
    | own z' k' el' t' x =>
      simp only [Pat.take] at h
      split at h
      · cases h
      rename_i hzz
      rw [Option.map_eq_some_iff] at h
      obtain ⟨y, hy, rfl⟩ := h
      obtain ⟨h1, h2⟩ := ht 0 (some k') rfl
      obtain ⟨h3, hz, bo, h4, h5⟩ := hr
      obtain ⟨he, hy'⟩ := castTo_spec hy
      cases he
      rw [show y = x from hy'] at hl
      have hle : leaf (.sl el t) i d = x e := hl 0 (.sl el t) x rfl
      refine ⟨⟨h1, fun hzt hx => ?_, bo, h2.trans h4, ?_⟩, rfl, rfl⟩
      · refine hz ?_ (hle.symm.trans hx)
        rw [hzt] at hzz
        simpa using hzz
      · rw [hle]
        exact ownrel_retold hG h5
    | nilsl =>
      simp only [Pat.take, Option.some.injEq] at h
      subst h
      obtain ⟨h1, h2⟩ := ht 0 none rfl
      refine ⟨⟨h1, fun _ _ => hr, none, h2, ?_⟩, rfl, rfl⟩
      rw [show leaf (.sl el t) i d = [] from hl 0 (.sl el t) (fun _ => []) rfl, show v = _ from hr]
      exact ⟨rfl, [], World.ownsRow_nil w _ _ _, (fun j x hj => by simp at hj), (fun g hg => nomatch hg)⟩
    | _ => simp [Pat.take] at h
  | .ptr b o, av, ls, i, k, v, h, hok, hr, hl, ht => by
    cases av with
    | ptr b' o' =>
      simp only [Pat.take] at h
      split at h
      · rename_i hb
        simp only [Bool.and_eq_true, decide_eq_true_eq] at hb
        obtain ⟨rfl, rfl⟩ := hb
        obtain rfl := Option.some.inj h
        exact ⟨⟨by simpa [Pat.ok] using hok, by rw [hG.ρ]; exact hr.2⟩, rfl, rfl⟩
      · cases h
    | _ => simp [Pat.take] at h
  | .np b o, av, ls, i, k, v, h, hok, hr, hl, ht => by
    cases av with
    | nilp =>
      simp only [Pat.take, Option.some.injEq] at h
      subst h
      exact ⟨.inl hr, rfl, rfl⟩
    | ptr b' o' =>
      simp only [Pat.take] at h
      split at h
      · rename_i hb
        simp only [Bool.and_eq_true, decide_eq_true_eq] at hb
        obtain ⟨rfl, rfl⟩ := hb
        obtain rfl := Option.some.inj h
        exact ⟨.inr ⟨by simpa [Pat.ok] using hok, by rw [hG.ρ]; exact hr.2⟩, rfl, rfl⟩
      · cases h
    | np b' o' =>
      simp only [Pat.take] at h
      split at h
      · rename_i hb
        simp only [Bool.and_eq_true, decide_eq_true_eq] at hb
        obtain ⟨rfl, rfl⟩ := hb
        obtain rfl := Option.some.inj h
        exact ⟨hr.imp id fun hr => ⟨by simpa [Pat.ok] using hok, by rw [hG.ρ]; exact hr.2⟩, rfl, rfl⟩
      · cases h
    | _ => simp [Pat.take] at h
  | .nilp, av, ls, i, k, v, h, _, hr, hl, ht => by
    cases av with
    | nilp => simp only [Pat.take, Option.some.injEq] at h; subst h; exact ⟨hr, rfl, rfl⟩
    | _ => simp [Pat.take] at h
  | .ag ps, av, ls, i, k, v, h, hok, hr, hl, ht => by
    cases av with
    | ag cs =>
      obtain ⟨us, hv, h1⟩ := hr
      have := takes_make leaf hG ps cs ls i k us.toList (by simpa only [Pat.take] using h) (by simpa only [Pat.ok] using hok) h1 hl ht
      exact ⟨⟨us, hv, this.rel⟩, this.i, this.k⟩
    | _ => simp [Pat.take] at h
  | .mp b, av, ls, i, k, v, h, hok, hr, hl, ht => by
    cases av with
    | mp b' =>
      simp only [Pat.take] at h
      split at h
      · rename_i hb
        subst hb
        obtain rfl := Option.some.inj h
        exact ⟨⟨by simpa [Pat.ok] using hok, by rw [hG.ρ]; exact hr.2⟩, rfl, rfl⟩
      · cases h
    | _ => simp [Pat.take] at h
  | .ents kd vd, av, ls, i, k, v, h, hok, hr, hl, ht => by
    cases av with
    | ents kd' vd' x =>
      simp only [Pat.take, Option.map_eq_some_iff] at h
      obtain ⟨y, hy, rfl⟩ := h
      obtain ⟨hty, hyx⟩ := castTo_spec hy
      simp only [Ty.sl.injEq, Ty.pair.injEq, true_and] at hty
      obtain ⟨rfl, rfl⟩ := hty
      obtain rfl : y = x := hyx
      refine ⟨?_, rfl, rfl⟩
      obtain ⟨us, hv, h1⟩ := hr
      refine ⟨us, hv, ?_⟩
      rw [show leaf (.sl 0 (.pair kd' vd')) i d = y e from hl 0 (.sl 0 (.pair kd' vd')) y rfl, hG.Φ]
      exact h1
    | _ => simp [Pat.take] at h
  | .fn f ps, av, ls, i, k, v, h, hok, hr, hl, ht => by
    cases av with
    | fn g cs =>
      simp only [Pat.take] at h
      split at h
      · rename_i hf
        subst hf
        obtain ⟨us, hv, h1⟩ := hr
        have := takes_make leaf hG ps cs ls i k us.toList h (by simpa only [Pat.ok] using hok) h1 hl ht
        exact ⟨⟨us, hv, this.rel⟩, this.i, this.k⟩
      · cases h
    | _ => simp [Pat.take] at h
theorem takes_make (leaf : (t : Ty) → Nat → D → t.den) (hG : Retold G G') : ∀ (ps : List Pat) (cs : List (AV E)) (ls : List (Leaf E)) (i k : Nat) (vs : List Value), Pat.takes ps cs = some ls → Pat.oks G'.nb ps = true → AV.Rels G w e cs vs → LeavesAt leaf d e ls i → ToksAt G G' (Pat.tokss ps cs) k →
    TMs leaf G G' w d ls (Pat.tokss ps cs) (Pat.makes leaf ps i k) i k vs
  | [], cs, ls, i, k, vs, h, _, hr, hl, ht => by
    cases cs with
    | nil => simp only [Pat.takes, Option.some.injEq] at h; subst h; exact ⟨hr, rfl, rfl⟩
    | cons c cs => simp [Pat.takes] at h
  | p :: ps, cs, ls, i, k, vs, h, hok, hr, hl, ht => by
    cases cs with
    | nil => simp [Pat.takes] at h
    | cons c cs =>
      simp only [Pat.takes, Option.bind_eq_some_iff] at h
      obtain ⟨x, hx, y, hy, h⟩ := h
      obtain rfl := Option.some.inj h
      obtain ⟨u, r, rfl, h1, h2⟩ := hr
      simp only [Pat.oks, Bool.and_eq_true] at hok
      obtain ⟨l1, l2⟩ := hl.split
      obtain ⟨t1, t2⟩ := ht.split
      have a1 := take_make leaf hG p c x i k u hx hok.1 h1 l1 t1
      have a2 := takes_make leaf hG ps cs y (p.make leaf i k).i (p.make leaf i k).k r hy hok.2 h2 (by rw [a1.i]; exact l2) (by rw [a1.k]; exact t2)
      refine ⟨.cons a1.rel a2.rel, ?_, ?_⟩
      · show (Pat.makes leaf ps (p.make leaf i k).i (p.make leaf i k).k).i = _
        rw [a2.i, a1.i, List.length_append]; omega
      · show (Pat.makes leaf ps (p.make leaf i k).i (p.make leaf i k).k).k = _
        rw [a2.k, a1.k]
        show _ = k + (p.toks c ++ Pat.tokss ps cs).length
        rw [List.length_append]; omega
end
end
end Go.Proofs.YtkjjegjafpefcaaDoor.R
