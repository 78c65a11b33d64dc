/- Joins; the compiler is right -/
import Derived.Test.YtmmbedlegmbppaaDoorQ5
import Derived.OrdersHeld
import Derived.Scope
/- Joins and the heads of loops: a state that has a shape is told by its plain data. -/
namespace Go.Proofs.YtmmbedlegmbppaaDoor.R
open Go Go.RowKit
set_option linter.unusedVariables false
set_option linter.unusedSimpArgs false
section
variable {E D : Type} {G G' : Gh} {w w0 : World} {Z : Zf} {e : E} {d : D} {P : Program} {s : St E} {a : Act} {acts : List (Array Value)}
/-- The same memory, told with other tokens. -/
structure Retold (G G' : Gh) : Prop where
  Φ : G'.Φ = G.Φ
  ρ : G'.ρ = G.ρ
  B : G'.B = G.B
def tokOf (G : Gh) : Option Nat → Option (Option Nat)
  | some k => G.γ k
  | none => some none
/-- The tokens of a part of the state have their places from k on. -/
def ToksAt (G G' : Gh) (ks : List (Option Nat)) (k : Nat) : Prop := ∀ m o, ks[m]? = some o → k + m < G'.nt ∧ G'.γ (k + m) = tokOf G o
def LeavesAt (leaf : (t : Ty) → Nat → D → t.den) (d : D) (e : E) (ls : List (Leaf E)) (i : Nat) : Prop := ∀ (m : Nat) (t : Ty) (x : E → t.den), ls[m]? = some ⟨t, x⟩ → leaf t (i + m) d = x e
theorem ToksAt.split {ks ls : List (Option Nat)} {k : Nat} (h : ToksAt G G' (ks ++ ls) k) : ToksAt G G' ks k ∧ ToksAt G G' ls (k + ks.length) :=
  ⟨fun m o hm => h m o (by rw [List.getElem?_append_left (List.getElem?_eq_some_iff.1 hm).1]; exact hm), fun m o hm => by
    have := h (ks.length + m) o (by rw [List.getElem?_append_right (by omega), Nat.add_sub_cancel_left]; exact hm)
    rw [← Nat.add_assoc] at this
    exact this⟩
theorem LeavesAt.split {leaf : (t : Ty) → Nat → D → t.den} {ks ls : List (Leaf E)} {k : Nat} (h : LeavesAt leaf d e (ks ++ ls) k) : LeavesAt leaf d e ks k ∧ LeavesAt leaf d e ls (k + ks.length) :=
  ⟨fun m t x hm => h m t x (by rw [List.getElem?_append_left (List.getElem?_eq_some_iff.1 hm).1]; exact hm), fun m t x hm => by
    have := h (ks.length + m) t x (by rw [List.getElem?_append_right (by omega), Nat.add_sub_cancel_left]; exact hm)
    rw [← Nat.add_assoc] at this
    exact this⟩
theorem crel_retold (hG : Retold G G') {t : Ty} {x : t.den} {us : List Value} (h : CRel G.Φ w t x us) : CRel G'.Φ w t x us := by rw [hG.Φ]; exact h
theorem ownrel_retold (hG : Retold G G') {el : TypeId} {t : Ty} {xs : List t.den} {v : Value} {bo : Option Nat} (h : OwnRel G.Φ w G.B el t xs v bo) : OwnRel G'.Φ w G'.B el t xs v bo := by rw [hG.Φ, hG.B]; exact h
theorem mowrel_retold (hG : Retold G G') {el : TypeId} {t : Ty} {xs : List t.den} {v : Value} {bo : Option Nat} (h : MowRel G.Φ w G.B el t xs v bo) : MowRel G'.Φ w G'.B el t xs v bo := by rw [hG.Φ, hG.B]; exact h
/-- What a pattern takes, and makes anew. -/
structure TM (leaf : (t : Ty) → Nat → D → t.den) (G G' : Gh) (w : World) (d : D) (ls : List (Leaf E)) (ks : List (Option Nat)) (m : Made D (AV D)) (i k : Nat) (v : Value) : Prop where
  rel : m.val.Rel G' w d v
  i : m.i = i + ls.length
  k : m.k = k + ks.length
structure TMs (leaf : (t : Ty) → Nat → D → t.den) (G G' : Gh) (w : World) (d : D) (ls : List (Leaf E)) (ks : List (Option Nat)) (m : Made D (List (AV D))) (i k : Nat) (vs : List Value) : Prop where
  rel : AV.Rels G' w d m.val vs
  i : m.i = i + ls.length
  k : m.k = k + ks.length
mutual
theorem take_make (leaf : (t : Ty) → Nat → D → t.den) (hG : Retold G G') : ∀ (p : Pat) (av : AV E) (ls : List (Leaf E)) (i k : Nat) (v : Value), p.take av = some ls → p.ok G'.nb = true → av.Rel G w e v → LeavesAt leaf d e ls i → ToksAt G G' (p.toks av) k →
    TM leaf G G' w d ls (p.toks av) (p.make leaf i k) i k v
  | .undef, av, ls, i, k, v, h, _, hr, hl, ht => by
    simp only [Pat.take, Option.some.injEq] at h
    subst h
    have : Pat.toks .undef av = [] := by cases av <;> rfl
    rw [this]
    exact ⟨trivial, rfl, rfl⟩
  | .sym t, av, ls, i, k, v, h, _, hr, hl, ht => by
    simp only [Pat.take, Option.map_eq_some_iff] at h
    obtain ⟨x, hx, rfl⟩ := h
    have : Pat.toks (.sym t) av = [] := by cases av <;> rfl
    rw [this]
    refine ⟨?_, rfl, rfl⟩
    show CRel G'.Φ w t (leaf t i d) [v]
    rw [show leaf t i d = x e from hl 0 t x rfl]
    exact crel_retold hG (AV.to1_rel hx hr)
  | .cb b, av, ls, i, k, v, h, _, hr, hl, ht => by
    cases av with
    | cb b' =>
      simp only [Pat.take] at h
      split at h
      · rename_i hb
        obtain rfl := Option.some.inj h
        exact ⟨by rw [hb]; exact hr, rfl, rfl⟩
      · cases h
    | _ => simp [Pat.take] at h
  | .nilsl, av, ls, i, k, v, h, _, hr, hl, ht => by
    cases av with
    | nilsl => simp only [Pat.take, Option.some.injEq] at h; subst h; exact ⟨hr, rfl, rfl⟩
    | _ => simp [Pat.take] at h
  | .full el t, av, ls, i, k, v, h, _, hr, hl, ht => by
    cases av with
    | full el' t' x =>
      simp only [Pat.take, Option.map_eq_some_iff] at h
      obtain ⟨y, hy, rfl⟩ := h
      refine ⟨?_, rfl, rfl⟩
      refine ⟨?_, hr.2⟩
      rw [show leaf (.sl el t) i d = y e from hl 0 (.sl el t) y rfl]
      exact crel_retold hG (castTo_rel (t := .sl el' t') hy hr.1)
    | _ => simp [Pat.take] at h
  | .own z el t, av, ls, i, k, v, h, _, hr, hl, ht => by
    cases av with
    | own z' k' el' t' x =>
      simp only [Pat.take] at h
      split at h
      · cases h
      rename_i hzz
      rw [Option.map_eq_some_iff] at h
      obtain ⟨y, hy, rfl⟩ := h
      obtain ⟨h1, h2⟩ := ht 0 (some k') rfl
      obtain ⟨h3, hz, bo, h4, h5⟩ := hr
      obtain ⟨he, hy'⟩ := castTo_spec hy
      cases he
      rw [show y = x from hy'] at hl
      have hle : leaf (.sl el t) i d = x e := hl 0 (.sl el t) x rfl
      refine ⟨⟨h1, fun hzt hx => ?_, bo, h2.trans h4, ?_⟩, rfl, rfl⟩
      · refine hz ?_ (hle.symm.trans hx)
        rw [hzt] at hzz
        simpa using hzz
      · rw [hle]
        exact ownrel_retold hG h5
    | nilsl =>
      simp only [Pat.take, Option.some.injEq] at h
      subst h
      obtain ⟨h1, h2⟩ := ht 0 none rfl
      refine ⟨⟨h1, fun _ _ => hr, none, h2, ?_⟩, rfl, rfl⟩
      rw [show leaf (.sl el t) i d = [] from hl 0 (.sl el t) (fun _ => []) rfl, show v = _ from hr]
      exact ⟨rfl, [], World.ownsRow_nil w _ _ _, (fun j x hj => by simp at hj), (fun g hg => nomatch hg)⟩
    | _ => simp [Pat.take] at h
  | .mow z el t, av, ls, i, k, v, h, _, hr, hl, ht => by
    cases av with
    | mow z' k' el' t' x =>
      simp only [Pat.take] at h
      split at h
      · cases h
      rename_i hzz
      rw [Option.map_eq_some_iff] at h
      obtain ⟨y, hy, rfl⟩ := h
      obtain ⟨h1, h2⟩ := ht 0 (some k') rfl
      obtain ⟨h3, hz, bo, h4, h5⟩ := hr
      obtain ⟨he, hy'⟩ := castTo_spec hy
      cases he
      rw [show y = x from hy'] at hl
      have hle : leaf (.sl el t) i d = x e := hl 0 (.sl el t) x rfl
      refine ⟨⟨h1, fun hzt hx => ?_, bo, h2.trans h4, ?_⟩, rfl, rfl⟩
      · refine hz ?_ (hle.symm.trans hx)
        rw [hzt] at hzz
        simpa using hzz
      · rw [hle]
        exact mowrel_retold hG h5
    | nilsl =>
      simp only [Pat.take, Option.some.injEq] at h
      subst h
      obtain ⟨h1, h2⟩ := ht 0 none rfl
      refine ⟨⟨h1, fun _ _ => hr, none, h2, ?_⟩, rfl, rfl⟩
      rw [show leaf (.sl el t) i d = [] from hl 0 (.sl el t) (fun _ => []) rfl, show v = _ from hr]
      exact ⟨rfl, [], World.ownsRow_nil w _ _ _, (fun j x hj => by simp at hj), (fun g hg => nomatch hg)⟩
    | _ => simp [Pat.take] at h
  | .nili, av, ls, i, k, v, h, _, hr, hl, ht => by
    cases av with
    | nili => simp only [Pat.take, Option.some.injEq] at h; subst h; exact ⟨hr, rfl, rfl⟩
    | _ => simp [Pat.take] at h
  | .ptr b o, av, ls, i, k, v, h, hok, hr, hl, ht => by
    cases av with
    | ptr b' o' =>
      simp only [Pat.take] at h
      split at h
      · rename_i hb
        simp only [Bool.and_eq_true, decide_eq_true_eq] at hb
        obtain ⟨rfl, rfl⟩ := hb
        obtain rfl := Option.some.inj h
        exact ⟨⟨by simpa [Pat.ok] using hok, by rw [hG.ρ]; exact hr.2⟩, rfl, rfl⟩
      · cases h
    | _ => simp [Pat.take] at h
  | .bsl b o n, av, ls, i, k, v, h, hok, hr, hl, ht => by
    cases av with
    | bsl b' o' n' =>
      simp only [Pat.take] at h
      split at h
      · rename_i hb
        simp only [Bool.and_eq_true, decide_eq_true_eq] at hb
        obtain ⟨⟨rfl, rfl⟩, rfl⟩ := hb
        obtain rfl := Option.some.inj h
        obtain ⟨q1, c, q2, q3⟩ := hr
        exact ⟨⟨by simpa [Pat.ok] using hok, c, q2, by rw [hG.ρ]; exact q3⟩, rfl, rfl⟩
      · cases h
    | _ => simp [Pat.take] at h
  | .np b o, av, ls, i, k, v, h, hok, hr, hl, ht => by
    cases av with
    | nilp =>
      simp only [Pat.take, Option.some.injEq] at h
      subst h
      exact ⟨.inl hr, rfl, rfl⟩
    | ptr b' o' =>
      simp only [Pat.take] at h
      split at h
      · rename_i hb
        simp only [Bool.and_eq_true, decide_eq_true_eq] at hb
        obtain ⟨rfl, rfl⟩ := hb
        obtain rfl := Option.some.inj h
        exact ⟨.inr ⟨by simpa [Pat.ok] using hok, by rw [hG.ρ]; exact hr.2⟩, rfl, rfl⟩
      · cases h
    | np b' o' =>
      simp only [Pat.take] at h
      split at h
      · rename_i hb
        simp only [Bool.and_eq_true, decide_eq_true_eq] at hb
        obtain ⟨rfl, rfl⟩ := hb
        obtain rfl := Option.some.inj h
        exact ⟨hr.imp id fun hr => ⟨by simpa [Pat.ok] using hok, by rw [hG.ρ]; exact hr.2⟩, rfl, rfl⟩
      · cases h
    | _ => simp [Pat.take] at h
  | .nilp, av, ls, i, k, v, h, _, hr, hl, ht => by
    cases av with
    | nilp => simp only [Pat.take, Option.some.injEq] at h; subst h; exact ⟨hr, rfl, rfl⟩
    | _ => simp [Pat.take] at h
  | .ag ps, av, ls, i, k, v, h, hok, hr, hl, ht => by
    cases av with
    | ag cs =>
      obtain ⟨us, hv, h1⟩ := hr
      have := takes_make leaf hG ps cs ls i k us.toList (by simpa only [Pat.take] using h) (by simpa only [Pat.ok] using hok) h1 hl ht
      exact ⟨⟨us, hv, this.rel⟩, this.i, this.k⟩
    | _ => simp [Pat.take] at h
  | .mp b, av, ls, i, k, v, h, hok, hr, hl, ht => by
    cases av with
    | mp b' =>
      simp only [Pat.take] at h
      split at h
      · rename_i hb
        subst hb
        obtain rfl := Option.some.inj h
        exact ⟨⟨by simpa [Pat.ok] using hok, by rw [hG.ρ]; exact hr.2⟩, rfl, rfl⟩
      · cases h
    | _ => simp [Pat.take] at h
  | .ents kd vd, av, ls, i, k, v, h, hok, hr, hl, ht => by
    cases av with
    | ents kd' vd' x =>
      simp only [Pat.take, Option.map_eq_some_iff] at h
      obtain ⟨y, hy, rfl⟩ := h
      obtain ⟨hty, hyx⟩ := castTo_spec hy
      simp only [Ty.sl.injEq, Ty.pair.injEq, true_and] at hty
      obtain ⟨rfl, rfl⟩ := hty
      obtain rfl : y = x := hyx
      refine ⟨?_, rfl, rfl⟩
      obtain ⟨us, hv, h1⟩ := hr
      refine ⟨us, hv, ?_⟩
      rw [show leaf (.sl 0 (.pair kd' vd')) i d = y e from hl 0 (.sl 0 (.pair kd' vd')) y rfl, hG.Φ]
      exact h1
    | _ => simp [Pat.take] at h
  | .fn f ps, av, ls, i, k, v, h, hok, hr, hl, ht => by
    cases av with
    | fn g cs =>
      simp only [Pat.take] at h
      split at h
      · rename_i hf
        subst hf
        obtain ⟨us, hv, h1⟩ := hr
        have := takes_make leaf hG ps cs ls i k us.toList h (by simpa only [Pat.ok] using hok) h1 hl ht
        exact ⟨⟨us, hv, this.rel⟩, this.i, this.k⟩
      · cases h
    | _ => simp [Pat.take] at h
theorem takes_make (leaf : (t : Ty) → Nat → D → t.den) (hG : Retold G G') : ∀ (ps : List Pat) (cs : List (AV E)) (ls : List (Leaf E)) (i k : Nat) (vs : List Value), Pat.takes ps cs = some ls → Pat.oks G'.nb ps = true → AV.Rels G w e cs vs → LeavesAt leaf d e ls i → ToksAt G G' (Pat.tokss ps cs) k →
    TMs leaf G G' w d ls (Pat.tokss ps cs) (Pat.makes leaf ps i k) i k vs
  | [], cs, ls, i, k, vs, h, _, hr, hl, ht => by
    cases cs with
    | nil => simp only [Pat.takes, Option.some.injEq] at h; subst h; exact ⟨hr, rfl, rfl⟩
    | cons c cs => simp [Pat.takes] at h
  | p :: ps, cs, ls, i, k, vs, h, hok, hr, hl, ht => by
    cases cs with
    | nil => simp [Pat.takes] at h
    | cons c cs =>
      simp only [Pat.takes, Option.bind_eq_some_iff] at h
      obtain ⟨x, hx, y, hy, h⟩ := h
      obtain rfl := Option.some.inj h
      obtain ⟨u, r, rfl, h1, h2⟩ := hr
      simp only [Pat.oks, Bool.and_eq_true] at hok
      obtain ⟨l1, l2⟩ := hl.split
      obtain ⟨t1, t2⟩ := ht.split
      have a1 := take_make leaf hG p c x i k u hx hok.1 h1 l1 t1
      have a2 := takes_make leaf hG ps cs y (p.make leaf i k).i (p.make leaf i k).k r hy hok.2 h2 (by rw [a1.i]; exact l2) (by rw [a1.k]; exact t2)
      refine ⟨.cons a1.rel a2.rel, ?_, ?_⟩
      · show (Pat.makes leaf ps (p.make leaf i k).i (p.make leaf i k).k).i = _
        rw [a2.i, a1.i, List.length_append]; omega
      · show (Pat.makes leaf ps (p.make leaf i k).i (p.make leaf i k).k).k = _
        rw [a2.k, a1.k]
        show _ = k + (p.toks c ++ Pat.tokss ps cs).length
        rw [List.length_append]; omega
end
end
end Go.Proofs.YtmmbedlegmbppaaDoor.R
/- A state that has a shape is told by its plain data: the whole state. -/
namespace Go.Proofs.YtmmbedlegmbppaaDoor.R
open Go Go.RowKit
set_option linter.unusedVariables false
set_option linter.unusedSimpArgs false
section
variable {E D : Type} {G G' : Gh} {w w0 : World} {Z : Zf} {e : E} {d : D} {P : Program} {s : St E} {a : Act} {acts : List (Array Value)}
theorem env_make (leaf : (t : Ty) → Nat → D → t.den) (hG : Retold G G') {env : Env E} {t : Array Value} (hr : EnvRel G w e env t) : ∀ (ps : List (Nat × Pat)) (ls : List (Leaf E)) (i k : Nat), env.takes ps = some ls → (ps.all fun p => p.2.ok G'.nb) = true → LeavesAt leaf d e ls i → ToksAt G G' (env.tokss ps) k →
    EnvRel G' w d (Env.makes leaf ps i k).val t ∧ (Env.makes leaf ps i k).i = i + ls.length ∧ (Env.makes leaf ps i k).k = k + (env.tokss ps).length
  | [], ls, i, k, h, _, hl, ht => by
    simp only [Env.takes, Option.some.injEq] at h
    subst h
    exact ⟨fun u => trivial, rfl, rfl⟩
  | (u, p) :: ps, ls, i, k, h, hok, hl, ht => by
    simp only [Env.takes, Option.bind_eq_some_iff] at h
    obtain ⟨x, hx, y, hy, h⟩ := h
    obtain rfl := Option.some.inj h
    rw [List.all_cons, Bool.and_eq_true] at hok
    obtain ⟨l1, l2⟩ := hl.split
    obtain ⟨t1, t2⟩ := ht.split
    have a1 := take_make leaf hG p (env.get u) x i k _ hx hok.1 (hr u) l1 t1
    obtain ⟨a2, a3, a4⟩ := env_make leaf hG hr ps y (p.make leaf i k).i (p.make leaf i k).k hy hok.2 (by rw [a1.i]; exact l2) (by rw [a1.k]; exact t2)
    refine ⟨fun v => ?_, ?_, ?_⟩
    · show (Env.get ((u, (p.make leaf i k).val) :: (Env.makes leaf ps (p.make leaf i k).i (p.make leaf i k).k).val) v).Rel G' w d _
      unfold Env.get
      by_cases hv : u = v
      · subst hv; rw [if_pos rfl]; exact a1.rel
      · rw [if_neg hv]; exact a2 v
    · show (Env.makes leaf ps (p.make leaf i k).i (p.make leaf i k).k).i = _
      rw [a3, a1.i, List.length_append]; omega
    · show (Env.makes leaf ps (p.make leaf i k).i (p.make leaf i k).k).k = _
      rw [a4, a1.k]
      show _ = k + (p.toks (env.get u) ++ env.tokss ps).length
      rw [List.length_append]; omega
theorem stack_make (leaf : (t : Ty) → Nat → D → t.den) (hG : Retold G G') : ∀ (ss : List (Env E)) (ts : List (Array Value)) (ps : List (List (Nat × Pat))) (ls : List (Leaf E)) (i k : Nat), StkRel G w e ss ts → stackTakes ss ps = some ls → (ps.all fun l => l.all fun p => p.2.ok G'.nb) = true → LeavesAt leaf d e ls i → ToksAt G G' (stackToks ss ps) k →
    StkRel G' w d (stackMakes leaf ps i k).val ts ∧ (stackMakes leaf ps i k).i = i + ls.length ∧ (stackMakes leaf ps i k).k = k + (stackToks ss ps).length
  | [], ts, ps, ls, i, k, hr, h, _, hl, ht => by
    cases ps with
    | nil => simp only [stackTakes, Option.some.injEq] at h; subst h; exact ⟨hr, rfl, rfl⟩
    | cons p ps => simp [stackTakes] at h
  | s :: ss, ts, ps, ls, i, k, hr, h, hok, hl, ht => by
    cases ps with
    | nil => simp [stackTakes] at h
    | cons p ps =>
      obtain ⟨t, ts', rfl, h1, h2⟩ := hr
      simp only [stackTakes, Option.bind_eq_some_iff] at h
      obtain ⟨x, hx, y, hy, h⟩ := h
      obtain rfl := Option.some.inj h
      rw [List.all_cons, Bool.and_eq_true] at hok
      obtain ⟨l1, l2⟩ := hl.split
      obtain ⟨t1, t2⟩ := ht.split
      obtain ⟨a1, a2, a3⟩ := env_make leaf hG h1 p x i k hx hok.1 l1 t1
      obtain ⟨b1, b2, b3⟩ := stack_make leaf hG ss ts' ps y (Env.makes leaf p i k).i (Env.makes leaf p i k).k h2 hy hok.2 (by rw [a2]; exact l2) (by rw [a3]; exact t2)
      refine ⟨⟨t, ts', rfl, a1, b1⟩, ?_, ?_⟩
      · show (stackMakes leaf ps (Env.makes leaf p i k).i (Env.makes leaf p i k).k).i = _
        rw [b2, a2, List.length_append]; omega
      · show (stackMakes leaf ps (Env.makes leaf p i k).i (Env.makes leaf p i k).k).k = _
        rw [b3, a3]
        show _ = k + (s.tokss p ++ stackToks ss ps).length
        rw [List.length_append]; omega
theorem blk_make (leaf : (t : Ty) → Nat → D → t.den) (hG : Retold G G') : ∀ (bs : List (Blk E)) (b0 : Nat) (ps : List (Option (BK × List Pat))) (ls : List (Leaf E)) (i k : Nat), (∀ b B, bs[b]? = some B → BlkRel G w e (b0 + b) B) → blkTakes bs ps = some ls →
    (ps.all fun b => match b with | none => true | some (_, q) => Pat.oks G'.nb q) = true → LeavesAt leaf d e ls i → ToksAt G G' (blkToks bs ps) k →
    (∀ b B, (blkMakes leaf ps i k).val[b]? = some B → BlkRel G' w d (b0 + b) B ∧ (Live (blkMakes leaf ps i k).val b → Live bs b)) ∧ (blkMakes leaf ps i k).val.length = ps.length ∧ (blkMakes leaf ps i k).i = i + ls.length ∧ (blkMakes leaf ps i k).k = k + (blkToks bs ps).length
  | bs, b0, [], ls, i, k, hr, h, _, hl, ht => by
    have : ls = [] := by cases bs <;> simp [blkTakes] at h <;> exact h
    subst this
    refine ⟨fun b B hB => by simp [blkMakes] at hB, rfl, rfl, ?_⟩
    cases bs with
    | nil => rfl
    | cons b bs => cases b <;> rfl
  | [], b0, p :: ps, ls, i, k, hr, h, _, hl, ht => by cases p <;> simp [blkTakes] at h
  | b :: bs, b0, none :: ps, ls, i, k, hr, h, hok, hl, ht => by
    have htk : blkToks (b :: bs) (none :: ps) = blkToks bs ps := by cases b <;> rfl
    have htt : blkTakes (b :: bs) (none :: ps) = blkTakes bs ps := by cases b <;> rfl
    rw [htk] at ht ⊢
    rw [htt] at h
    rw [List.all_cons, Bool.and_eq_true] at hok
    obtain ⟨a1, a2, a3, a4⟩ := blk_make leaf hG bs (b0 + 1) ps ls i k (fun b' B hB => by
      have := hr (b' + 1) B (by simpa using hB)
      rw [show b0 + (b' + 1) = b0 + 1 + b' by omega] at this
      exact this) h hok.2 hl ht
    refine ⟨fun b' B hB => ?_, by show (blkMakes leaf ps i k).val.length + 1 = _; rw [a2]; rfl, a3, a4⟩
    cases b' with
    | zero =>
      have : B = .dead := by simpa [blkMakes] using hB.symm
      subst this
      exact ⟨trivial, fun ⟨el, cs, hh⟩ => by simp [blkMakes] at hh⟩
    | succ b' =>
      have hB' : (blkMakes leaf ps i k).val[b']? = some B := by simpa [blkMakes] using hB
      obtain ⟨h1, h2⟩ := a1 b' B hB'
      rw [show b0 + 1 + b' = b0 + (b' + 1) by omega] at h1
      refine ⟨h1, fun ⟨el, cs, hh⟩ => ?_⟩
      obtain ⟨el', cs', h3⟩ := h2 ⟨el, cs, by simpa [blkMakes] using hh⟩
      exact ⟨el', cs', by simpa using h3⟩
  | b :: bs, b0, some (el, q) :: ps, ls, i, k, hr, h, hok, hl, ht => by
    cases b with
    | dead => simp [blkTakes] at h
    | cells el' cs =>
      simp only [blkTakes] at h
      split at h
      · rename_i hel
        subst hel
        simp only [Option.bind_eq_some_iff] at h
        obtain ⟨x, hx, y, hy, h⟩ := h
        obtain rfl := Option.some.inj h
        rw [List.all_cons, Bool.and_eq_true] at hok
        obtain ⟨l1, l2⟩ := hl.split
        obtain ⟨t1, t2⟩ := ht.split
        obtain ⟨us, hu, hus, hno⟩ := hr 0 _ rfl
        have c1 := takes_make leaf hG q cs x i k us hx hok.1 hus l1 t1
        obtain ⟨a1, a2, a3, a4⟩ := blk_make leaf hG bs (b0 + 1) ps y (Pat.makes leaf q i k).i (Pat.makes leaf q i k).k (fun b' B hB => by
          have := hr (b' + 1) B (by simpa using hB)
          rw [show b0 + (b' + 1) = b0 + 1 + b' by omega] at this
          exact this) hy hok.2 (by rw [c1.i]; exact l2) (by rw [c1.k]; exact t2)
        refine ⟨fun b' B hB => ?_, by show (blkMakes leaf ps _ _).val.length + 1 = _; rw [a2]; rfl, ?_, ?_⟩
        · cases b' with
          | zero =>
            have : B = .cells el' (Pat.makes leaf q i k).val := by simpa [blkMakes] using hB.symm
            subst this
            exact ⟨⟨us, by rw [hG.ρ]; exact hu, c1.rel, by rw [hG.ρ, hG.Φ]; exact hno⟩, fun _ => ⟨el', cs, rfl⟩⟩
          | succ b' =>
            have hB' : (blkMakes leaf ps (Pat.makes leaf q i k).i (Pat.makes leaf q i k).k).val[b']? = some B := by simpa [blkMakes] using hB
            obtain ⟨h1, h2⟩ := a1 b' B hB'
            rw [show b0 + 1 + b' = b0 + (b' + 1) by omega] at h1
            refine ⟨h1, fun ⟨el2, cs2, hh⟩ => ?_⟩
            obtain ⟨el3, cs3, h3⟩ := h2 ⟨el2, cs2, by simpa [blkMakes] using hh⟩
            exact ⟨el3, cs3, by simpa using h3⟩
        · show (blkMakes leaf ps (Pat.makes leaf q i k).i (Pat.makes leaf q i k).k).i = _
          rw [a3, c1.i, List.length_append]; omega
        · show (blkMakes leaf ps (Pat.makes leaf q i k).i (Pat.makes leaf q i k).k).k = _
          rw [a4, c1.k]
          show _ = k + (Pat.tokss q cs ++ blkToks bs ps).length
          rw [List.length_append]; omega
      · split at h
        · rename_i mt ks kd vd hne
          simp only [Option.bind_eq_some_iff] at h
          obtain ⟨x, hx, y, hy, h⟩ := h
          obtain rfl := Option.some.inj h
          rw [List.all_cons, Bool.and_eq_true] at hok
          have htk : blkToks (.cells (.smap mt ks) cs :: bs) (some (.dmap, [.ents kd vd]) :: ps) = blkToks bs ps := by
            cases cs <;> simp [blkToks, Pat.tokss, Pat.toks]
          rw [htk] at ht ⊢
          obtain ⟨us, ⟨ens, clk, hm, hks, rfl, hbo⟩, hus, hno⟩ := hr 0 _ rfl
          have hmi := MapIs.of_keys hx hks hus
          obtain ⟨l1, l2⟩ := LeavesAt.split (ks := [⟨.sl 0 (.pair kd vd), x⟩]) (ls := y) hl
          obtain ⟨a1, a2, a3, a4⟩ := blk_make leaf hG bs (b0 + 1) ps y (i + 1) k (fun b' B hB => by
            have := hr (b' + 1) B (by simpa using hB)
            rw [show b0 + (b' + 1) = b0 + 1 + b' by omega] at this
            exact this) hy hok.2 l2 ht
          refine ⟨fun b' B hB => ?_, by show (blkMakes leaf ps (i + 1) k).val.length + 1 = _; rw [a2]; rfl, ?_, ?_⟩
          · cases b' with
            | zero =>
              have : B = .cells .dmap [.ents kd vd (leaf (.sl 0 (.pair kd vd)) i)] := by simpa [blkMakes, Pat.makes, Pat.make] using hB.symm
              subst this
              refine ⟨⟨[.agg (ens.map fun en => .agg #[en.key, en.val])], by rw [hG.ρ]; exact ⟨ens, clk, hm, rfl, hbo⟩, .cons ⟨_, rfl, ?_⟩ .nil, by rw [hG.ρ, hG.Φ]; exact hno⟩, fun _ => ⟨_, _, rfl⟩⟩
              rw [show leaf (.sl 0 (.pair kd vd)) i d = x e from l1 0 (.sl 0 (.pair kd vd)) x rfl, hG.Φ, Array.toList_map]
              exact hmi.ents
            | succ b' =>
              have hB' : (blkMakes leaf ps (i + 1) k).val[b']? = some B := by simpa [blkMakes, Pat.makes, Pat.make] using hB
              obtain ⟨h1, h2⟩ := a1 b' B hB'
              rw [show b0 + 1 + b' = b0 + (b' + 1) by omega] at h1
              refine ⟨h1, fun ⟨el2, cs2, hh⟩ => ?_⟩
              obtain ⟨el3, cs3, h3⟩ := h2 ⟨el2, cs2, by simpa [blkMakes, Pat.makes, Pat.make] using hh⟩
              exact ⟨el3, cs3, by simpa using h3⟩
          · show (blkMakes leaf ps (i + 1) k).i = _
            rw [a3, List.length_cons]; omega
          · exact a4
        · cases h
/-! ### tokens -/
mutual
theorem toks_lt : ∀ (p : Pat) (av : AV E) (v : Value), av.Rel G w e v → ∀ k, some k ∈ p.toks av → k < G.nt ∧ ∃ bo, G.γ k = some bo
  | .own z el t, av, v, hr, k, hk => by
    cases av with
    | own z' k' el' t' x =>
      simp only [Pat.toks, List.mem_singleton, Option.some.injEq] at hk
      subst hk
      obtain ⟨h1, _, bo, h2, _⟩ := hr
      exact ⟨h1, bo, h2⟩
    | _ => simp [Pat.toks] at hk
  | .mow z el t, av, v, hr, k, hk => by
    cases av with
    | mow z' k' el' t' x =>
      simp only [Pat.toks, List.mem_singleton, Option.some.injEq] at hk
      subst hk
      obtain ⟨h1, _, bo, h2, _⟩ := hr
      exact ⟨h1, bo, h2⟩
    | _ => simp [Pat.toks] at hk
  | .nili, av, v, hr, k, hk => by cases av <;> simp [Pat.toks] at hk
  | .ag ps, av, v, hr, k, hk => by
    cases av with
    | ag cs => obtain ⟨us, _, h⟩ := hr; exact tokss_lt ps cs us.toList h k hk
    | _ => simp [Pat.toks] at hk
  | .fn f ps, av, v, hr, k, hk => by
    cases av with
    | fn g cs => obtain ⟨us, _, h⟩ := hr; exact tokss_lt ps cs us.toList h k hk
    | _ => simp [Pat.toks] at hk
  | .undef, av, v, hr, k, hk => by cases av <;> simp [Pat.toks] at hk
  | .sym t, av, v, hr, k, hk => by cases av <;> simp [Pat.toks] at hk
  | .cb b, av, v, hr, k, hk => by cases av <;> simp [Pat.toks] at hk
  | .nilsl, av, v, hr, k, hk => by cases av <;> simp [Pat.toks] at hk
  | .full el t, av, v, hr, k, hk => by cases av <;> simp [Pat.toks] at hk
  | .ptr b o, av, v, hr, k, hk => by cases av <;> simp [Pat.toks] at hk
  | .bsl b o n, av, v, hr, k, hk => by cases av <;> simp [Pat.toks] at hk
  | .nilp, av, v, hr, k, hk => by cases av <;> simp [Pat.toks] at hk
  | .mp b, av, v, hr, k, hk => by cases av <;> simp [Pat.toks] at hk
  | .ents kd vd, av, v, hr, k, hk => by cases av <;> simp [Pat.toks] at hk
theorem tokss_lt : ∀ (ps : List Pat) (cs : List (AV E)) (vs : List Value), AV.Rels G w e cs vs → ∀ k, some k ∈ Pat.tokss ps cs → k < G.nt ∧ ∃ bo, G.γ k = some bo
  | [], cs, vs, hr, k, hk => by cases cs <;> simp [Pat.tokss] at hk
  | p :: ps, [], vs, hr, k, hk => by simp [Pat.tokss] at hk
  | p :: ps, c :: cs, vs, hr, k, hk => by
    obtain ⟨u, r, rfl, h1, h2⟩ := hr
    rw [Pat.tokss, List.mem_append] at hk
    rcases hk with hk | hk
    · exact toks_lt p c u h1 k hk
    · exact tokss_lt ps cs r h2 k hk
end
theorem env_toks_lt {env : Env E} {t : Array Value} (hr : EnvRel G w e env t) : ∀ (ps : List (Nat × Pat)) (k : Nat), some k ∈ env.tokss ps → k < G.nt ∧ ∃ bo, G.γ k = some bo
  | [], k, hk => by simp [Env.tokss] at hk
  | (u, p) :: ps, k, hk => by
    rw [Env.tokss, List.mem_append] at hk
    rcases hk with hk | hk
    · exact toks_lt p _ _ (hr u) k hk
    · exact env_toks_lt hr ps k hk
theorem stack_toks_lt : ∀ (ss : List (Env E)) (ts : List (Array Value)) (ps : List (List (Nat × Pat))), StkRel G w e ss ts → ∀ k, some k ∈ stackToks ss ps → k < G.nt ∧ ∃ bo, G.γ k = some bo
  | [], ts, ps, hr, k, hk => by cases ps <;> simp [stackToks] at hk
  | s :: ss, ts, [], hr, k, hk => by simp [stackToks] at hk
  | s :: ss, ts, p :: ps, hr, k, hk => by
    obtain ⟨t, ts', rfl, h1, h2⟩ := hr
    rw [stackToks, List.mem_append] at hk
    rcases hk with hk | hk
    · exact env_toks_lt h1 p k hk
    · exact stack_toks_lt ss ts' ps h2 k hk
theorem blk_toks_lt : ∀ (bs : List (Blk E)) (b0 : Nat) (ps : List (Option (BK × List Pat))), (∀ b B, bs[b]? = some B → BlkRel G w e (b0 + b) B) → ∀ k, some k ∈ blkToks bs ps → k < G.nt ∧ ∃ bo, G.γ k = some bo
  | [], b0, ps, hr, k, hk => by cases ps with
    | nil => simp [blkToks] at hk
    | cons p ps => cases p <;> simp [blkToks] at hk
  | b :: bs, b0, [], hr, k, hk => by cases b <;> simp [blkToks] at hk
  | b :: bs, b0, none :: ps, hr, k, hk => by
    have htk : blkToks (b :: bs) (none :: ps) = blkToks bs ps := by cases b <;> rfl
    rw [htk] at hk
    exact blk_toks_lt bs (b0 + 1) ps (fun b' B hB => by
      have := hr (b' + 1) B (by simpa using hB)
      rw [show b0 + (b' + 1) = b0 + 1 + b' by omega] at this
      exact this) k hk
  | .dead :: bs, b0, some (el, q) :: ps, hr, k, hk => by simp [blkToks] at hk
  | .cells el' cs :: bs, b0, some (el, q) :: ps, hr, k, hk => by
    obtain ⟨us, hu, hus, hno⟩ := hr 0 _ rfl
    rw [blkToks, List.mem_append] at hk
    rcases hk with hk | hk
    · exact tokss_lt q cs us hus k hk
    · exact blk_toks_lt bs (b0 + 1) ps (fun b' B hB => by
        have := hr (b' + 1) B (by simpa using hB)
        rw [show b0 + (b' + 1) = b0 + 1 + b' by omega] at this
        exact this) k hk
end
end Go.Proofs.YtmmbedlegmbppaaDoor.R
/- A state that has a shape is told by its plain data: the end. -/
namespace Go.Proofs.YtmmbedlegmbppaaDoor.R
open Go Go.RowKit
set_option linter.unusedVariables false
set_option linter.unusedSimpArgs false
section
variable {E D : Type} {G G' : Gh} {w w0 : World} {Z : Zf} {e : E} {d : D} {P : Program} {s : St E} {a : Act} {acts : List (Array Value)}
theorem getTup_cast {u t : Ty} {x : u.den} {y : t.den} {f : E → u.den} {g : E → t.den} (h : castTo u t f = some g) : (if h : t = u then (h ▸ g e : u.den) else u.dft) = f e := by
  obtain ⟨ht, hg⟩ := castTo_spec h
  subst ht
  rw [show g = f from hg]
  simp
theorem mkTup_get : ∀ {l : List Ty} {ls : List (Leaf E)} {lv : E → Tup l}, mkTup l ls = some lv → ∀ (i : Nat) (t : Ty) (x : E → t.den), ls[i]? = some ⟨t, x⟩ → getTup l t i (lv e) = x e
  | [], ls, lv, h, i, t, x, hi => by
    cases ls with
    | nil => simp at hi
    | cons c ls => simp [mkTup] at h
  | [u], ls, lv, h, i, t, x, hi => by
    match ls, h with
    | [], h => simp [mkTup] at h
    | [⟨v, y⟩], h =>
      cases i with
      | zero =>
        simp only [List.getElem?_cons_zero, Option.some.injEq] at hi
        cases hi
        have hc : castTo t u x = some lv := by simpa only [mkTup] using h
        obtain ⟨ht, hg⟩ := castTo_spec hc
        subst ht
        rw [show lv = x from hg]
        simp [getTup]
      | succ i => simp at hi
    | _ :: _ :: _, h => simp [mkTup] at h
  | u :: v :: r, ls, lv, h, i, t, x, hi => by
    match ls, h with
    | [], h => simp [mkTup] at h
    | ⟨v', y⟩ :: ls, h =>
      simp only [mkTup, Option.bind_eq_some_iff] at h
      obtain ⟨p, hp, q, hq, h⟩ := h
      obtain rfl := Option.some.inj h
      cases i with
      | zero =>
        simp only [List.getElem?_cons_zero, Option.some.injEq] at hi
        cases hi
        obtain ⟨ht, hg⟩ := castTo_spec hp
        subst ht
        rw [show p = x from hg]
        simp [getTup]
      | succ i =>
        have := mkTup_get hq i t x (by simpa using hi)
        simpa only [getTup] using this
theorem someToks_mem : ∀ {ks : List (Option Nat)} {m k : Nat}, ks[m]? = some (some k) → k ∈ someToks ks
  | none :: ks, m, k, h => by
    cases m with
    | zero => simp at h
    | succ m => exact someToks_mem (ks := ks) (m := m) (by simpa using h)
  | some j :: ks, m, k, h => by
    cases m with
    | zero => simp at h; subst h; exact List.mem_cons_self ..
    | succ m => exact List.mem_cons_of_mem _ (someToks_mem (ks := ks) (m := m) (by simpa using h))
theorem distinct_inj : ∀ {ks : List (Option Nat)} {m m' k : Nat}, distinct (someToks ks) = true → ks[m]? = some (some k) → ks[m']? = some (some k) → m = m'
  | none :: ks, m, m', k, hd, h, h' => by
    cases m with
    | zero => simp at h
    | succ m =>
      cases m' with
      | zero => simp at h'
      | succ m' => exact congrArg (· + 1) (distinct_inj (ks := ks) (k := k) hd (by simpa using h) (by simpa using h'))
  | some j :: ks, m, m', k, hd, h, h' => by
    simp only [someToks, distinct, Bool.and_eq_true, Bool.not_eq_true'] at hd
    cases m with
    | zero =>
      simp at h; subst h
      cases m' with
      | zero => rfl
      | succ m' =>
        have := someToks_mem (ks := ks) (m := m') (by simpa using h')
        have hc : (someToks ks).contains j = true := List.contains_iff_mem.2 this
        rw [hd.1] at hc; cases hc
    | succ m =>
      cases m' with
      | zero =>
        simp at h'; subst h'
        have := someToks_mem (ks := ks) (m := m) (by simpa using h)
        have hc : (someToks ks).contains j = true := List.contains_iff_mem.2 this
        rw [hd.1] at hc; cases hc
      | succ m' => exact congrArg (· + 1) (distinct_inj (ks := ks) (k := k) hd.2 (by simpa using h) (by simpa using h'))
theorem take_sound {S : Shp} {size : Nat} {lv : E → S.V} (h : S.take size s = some lv) (hr : RelG Z w0 s e acts a w G) : ∃ G' : Gh, RelG Z w0 (S.make size) (lv e) acts a w G' ∧ FExt G.Φ w G'.Φ w := by
  unfold Shp.take at h
  split at h
  rotate_left
  · cases h
  rename_i hck
  rw [Bool.and_eq_true, decide_eq_true_eq] at hck
  obtain ⟨hsize, hok⟩ := hck
  simp only [Shp.ok, Bool.and_eq_true] at hok
  obtain ⟨⟨ok1, ok2⟩, ok3⟩ := hok
  simp only [Option.bind_eq_some_iff] at h
  obtain ⟨x, hx, y, hy, z, hz, h⟩ := h
  split at h
  rotate_left
  · cases h
  rename_i hdist
  generalize hks : s.tmps.tokss S.tmps ++ (stackToks s.stack S.stack ++ blkToks s.blocks S.blocks) = ks at hdist
  let G' : Gh := { G with γ := fun m => (ks[m]?).bind (tokOf G), nb := S.blocks.length, nt := ks.length }
  have hG : Retold G G' := ⟨rfl, rfl, rfl⟩
  have htoks : ToksAt G G' ks 0 := fun m o hm => ⟨by rw [Nat.zero_add]; exact (List.getElem?_eq_some_iff.1 hm).1, by show (ks[0 + m]?).bind (tokOf G) = _; rw [Nat.zero_add, hm]; rfl⟩
  have hleaf : LeavesAt (fun (t : Ty) (i : Nat) (v : S.V) => getTup S.tys t i v) (lv e) e (x ++ (y ++ z)) 0 := fun m t f hm => by rw [Nat.zero_add]; exact mkTup_get h m t f hm
  rw [← hks] at htoks
  obtain ⟨t1, t23⟩ := htoks.split
  obtain ⟨t2, t3⟩ := t23.split
  obtain ⟨l1, l23⟩ := hleaf.split
  obtain ⟨l2, l3⟩ := l23.split
  obtain ⟨a1, a2, a3⟩ := env_make (fun (t : Ty) (i : Nat) (v : S.V) => getTup S.tys t i v) hG hr.tm S.tmps x 0 0 hx ok1 l1 t1
  obtain ⟨b1, b2, b3⟩ := stack_make (fun (t : Ty) (i : Nat) (v : S.V) => getTup S.tys t i v) hG s.stack acts S.stack y (Env.makes (fun (t : Ty) (i : Nat) (v : S.V) => getTup S.tys t i v) S.tmps 0 0).i (Env.makes (fun (t : Ty) (i : Nat) (v : S.V) => getTup S.tys t i v) S.tmps 0 0).k hr.stk hy ok2 (by rw [a2]; exact l2) (by rw [a3]; exact t2)
  obtain ⟨c1, c2, c3, c4⟩ := blk_make (fun (t : Ty) (i : Nat) (v : S.V) => getTup S.tys t i v) hG s.blocks 0 S.blocks z (stackMakes (fun (t : Ty) (i : Nat) (v : S.V) => getTup S.tys t i v) S.stack (Env.makes (fun (t : Ty) (i : Nat) (v : S.V) => getTup S.tys t i v) S.tmps 0 0).i (Env.makes (fun (t : Ty) (i : Nat) (v : S.V) => getTup S.tys t i v) S.tmps 0 0).k).i (stackMakes (fun (t : Ty) (i : Nat) (v : S.V) => getTup S.tys t i v) S.stack (Env.makes (fun (t : Ty) (i : Nat) (v : S.V) => getTup S.tys t i v) S.tmps 0 0).i (Env.makes (fun (t : Ty) (i : Nat) (v : S.V) => getTup S.tys t i v) S.tmps 0 0).k).k (fun b B hB => by rw [Nat.zero_add]; exact hr.blk b B hB) hz ok3 (by rw [b2, a2]; exact l3) (by rw [b3, a3]; exact t3)
  have hlt : ∀ k, some k ∈ ks → k < G.nt := by
    intro k hk
    rw [← hks, List.mem_append, List.mem_append] at hk
    rcases hk with hk | hk | hk
    · exact (env_toks_lt hr.tm _ k hk).1
    · exact (stack_toks_lt _ _ _ hr.stk k hk).1
    · exact (blk_toks_lt s.blocks 0 _ (fun b B hB => by rw [Nat.zero_add]; exact hr.blk b B hB) k hk).1
  have hγ : ∀ m g, G'.γ m = some (some g) → ∃ k, ks[m]? = some (some k) ∧ k < G.nt ∧ G.γ k = some (some g) := by
    intro m g hm
    have hm' : (ks[m]?).bind (tokOf G) = some (some g) := hm
    rw [Option.bind_eq_some_iff] at hm'
    obtain ⟨o, ho, hg⟩ := hm'
    cases o with
    | none => cases hg
    | some k => exact ⟨k, ho, hlt k (List.mem_of_getElem? ho), hg⟩
  have hlive : ∀ b, Live (S.make size).blocks b → Live s.blocks b := by
    rintro b ⟨el, cs, hb⟩
    exact (c1 b _ hb).2 ⟨el, cs, hb⟩
  refine ⟨G', ⟨hr.B, hr.bel, hr.defers, hr.size.trans hsize, c2.symm, ?_, hr.fz, a1, b1, fun b B hB => ?_, fun b hl => hr.lo b (hlive b hl), fun b b' hl hl' => hr.inj b b' (hlive b hl) (hlive b' hl'), fun k g _ hg => ?_, fun k k' g _ _ hg hg' => ?_, hr.zz⟩, .refl _ _⟩
  · show ks.length = _
    have : (S.make size).nt = (blkMakes (fun (t : Ty) (i : Nat) (v : S.V) => getTup S.tys t i v) S.blocks (stackMakes (fun (t : Ty) (i : Nat) (v : S.V) => getTup S.tys t i v) S.stack (Env.makes (fun (t : Ty) (i : Nat) (v : S.V) => getTup S.tys t i v) S.tmps 0 0).i (Env.makes (fun (t : Ty) (i : Nat) (v : S.V) => getTup S.tys t i v) S.tmps 0 0).k).i (stackMakes (fun (t : Ty) (i : Nat) (v : S.V) => getTup S.tys t i v) S.stack (Env.makes (fun (t : Ty) (i : Nat) (v : S.V) => getTup S.tys t i v) S.tmps 0 0).i (Env.makes (fun (t : Ty) (i : Nat) (v : S.V) => getTup S.tys t i v) S.tmps 0 0).k).k).k := rfl
    rw [this, c4, b3, a3, ← hks, List.length_append, List.length_append]
    omega
  · have := (c1 b B hB).1
    rw [Nat.zero_add] at this
    exact this
  · obtain ⟨j, _, h2, h3⟩ := hγ k g hg
    obtain ⟨p1, p2, p3⟩ := hr.tlo j g h2 h3
    exact ⟨p1, p2, fun b hl => p3 b (hlive b hl)⟩
  · obtain ⟨j, h1, h2, h3⟩ := hγ k g hg
    obtain ⟨j', h1', h2', h3'⟩ := hγ k' g hg'
    obtain rfl := hr.tinj j j' g h2 h2' h3 h3'
    exact distinct_inj hdist h1 h1'
end
end Go.Proofs.YtmmbedlegmbppaaDoor.R
/- One operation, and the operations of a region in their order, do what the compiler says. -/
namespace Go.Proofs.YtmmbedlegmbppaaDoor.R
open Go Go.RowKit
set_option linter.unusedVariables false
set_option linter.unusedSimpArgs false
/-- The compiler goes on from here. -/
def After0 {R : Type} (Z : Zf) (w0 : World) (acts : List (Array Value)) (K : Kont R) (r : R) (a' : Act) (w' : World) : Prop :=
  ∃ (E' : Type) (s' : St E') (e' : E') (F' : E' → Option R) (G' : Gh), K E' s' = some F' ∧ F' e' = some r ∧ RelG Z w0 s' e' acts a' w' G'
theorem After.to0 {R : Type} {w0 : World} {Z : Zf} {acts : List (Array Value)} {K : Kont R} {r : R} {G : Gh} {w : World} {a' : Act} {w' : World} (h : After Z w0 acts K r G w a' w') : After0 Z w0 acts K r a' w' := by
  obtain ⟨E', s', e', F', G', h1, h2, h3, _⟩ := h
  exact ⟨E', s', e', F', G', h1, h2, h3⟩
/-- From wherever the compiler goes on, this holds. -/
def KOK {R : Type} (Z : Zf) (w0 : World) (acts : List (Array Value)) (r : R) (K : Kont R) (Q : Act → World → Prop) : Prop := ∀ a w, After0 Z w0 acts K r a w → Q a w
/-- An inlined call does what it should. -/
def InlOK {R : Type} (P : Program) (Z : Zf) (w0 : World) (acts : List (Array Value)) (r : R) (inl : Inl R) : Prop :=
  ∀ (E : Type) (s : St E) (f : FuncId) (args : List (AV E)) (dst : Option Tmp) (K : Kont R) (F : E → Option R) (e : E) (a : Act) (w : World) (G : Gh) (vs : Array Value), inl E s f args dst K = some F → F e = some r → RelG Z w0 s e acts a w G → dstOk' s dst → AV.Rels G w e args vs.toList →
    Calls P f vs w fun en w' => ∃ v, en = .returned v ∧ After0 Z w0 acts K r (a.put dst v) w'
section
variable {E : Type} {G : Gh} {w w0 : World} {Z : Zf} {e : E} {P : Program} {s : St E} {a : Act} {acts : List (Array Value)} {R : Type} {K : Kont R} {r : R}
theorem chgmut_sound {mu : Bool} {o : Oper} {F : E → Option R} (h : (if isMut mu s o.op = true then mutate P mu s o K else change P s o K) = some F) (hF : F e = some r) (hr : RelG Z w0 s e acts a w G) (hd : dstOk' s o.dst) :
    ∃ nx v w', (execOp a.eval o).run P w = .ok nx w' ∧ (nx = .value v ∨ (nx = .skip ∧ v = undef)) ∧ After Z w0 acts K r G w (a.put o.dst v) w' := by
  split at h
  · exact mutate_sound h hF hr hd
  · exact change_sound h hF hr hd
theorem callable_run {g : FuncId} (h : callable P g = true) (args : Array Value) (w : World) : (callFunc g args).run P w = .ok (.enter g args) w := by
  unfold callable at h
  split at h
  · rename_i fn hf
    rw [Bool.and_eq_true] at h
    have hb : fn.body.isNone = false := by cases hh : fn.body with
      | none => rw [hh] at h; simp at h
      | some c => rfl
    have hn : (fn.name == "runtime.NumGoroutine") = false := by simpa using h.2
    unfold callFunc
    simp only [Sem.run_bind, run_program, Result.andThen_ok, hf, hn, hb, Bool.false_eq_true, if_false]
    rfl
  · cases h
theorem upTo_get {α : Type} {f : Nat → Option α} : ∀ {n m : Nat} {l : List α}, upTo f m n = some l → ∀ (i : Nat) (v : α), l[i]? = some v → i < n ∧ f (m + i) = some v
  | 0, m, l, h, i, v, hi => by
    simp only [upTo, Option.some.injEq] at h
    subst h
    simp at hi
  | n + 1, m, l, h, i, v, hi => by
    simp only [upTo, Option.bind_eq_some_iff] at h
    obtain ⟨x, hx, y, hy, h⟩ := h
    obtain rfl := Option.some.inj h
    cases i with
    | zero =>
      simp only [List.getElem?_cons_zero, Option.some.injEq] at hi
      subst hi
      exact ⟨Nat.zero_lt_succ _, hx⟩
    | succ i =>
      obtain ⟨h1, h2⟩ := upTo_get hy i v (by simpa using hi)
      exact ⟨Nat.succ_lt_succ h1, by rw [← h2]; congr 1; omega⟩
theorem caseK_spec {dst : Option Tmp} {j : E → Int} : ∀ {vs : List (AV E)} {m : Nat} {F : E → Option R}, caseK s dst K j m vs = some F → F e = some r → ∃ (i : Nat) (v : AV E) (f : E → Option R), vs[i]? = some v ∧ j e = ((m + i : Nat) : Int) ∧ K E (s.put dst v) = some f ∧ f e = some r
  | [], m, F, h, hF => by
    simp only [caseK, Option.some.injEq] at h
    subst h
    cases hF
  | v :: l, m, F, h, hF => by
    unfold caseK at h
    obtain ⟨f, g, hf, hg, rfl⟩ := splitB_spec h
    simp only [ifO] at hF
    split at hF
    · rename_i hj
      exact ⟨0, v, f, rfl, by simpa [eqI] using hj, hf, hF⟩
    · obtain ⟨i, u, f1, h1, h2, h3, h4⟩ := caseK_spec hg hF
      exact ⟨i + 1, u, f1, by simpa using h1, by rw [h2]; congr 1; omega, h3, h4⟩
theorem caseOut_run {o : Oper} {j : E → Int} {vs : List (AV E)} (h : caseOut P s o.op = some (j, vs)) (ht : EnvRel G w e s.tmps a.tmps) (i : Nat) (av : AV E) (hi : vs[i]? = some av) (hj : j e = (i : Int)) :
    ∃ v, av.Rel G w e v ∧ (execOp a.eval o).run P w = .ok (.value v) w := by
  have ev := ev_rel ht
  obtain ⟨dst, op, type, pos, after, guard⟩ := o
  unfold caseOut at h
  split at h
  · rename_i t x n0 hop
    simp only at hop
    subst hop
    split at h
    · rename_i cs j' hx hj'
      split at h
      · rename_i n el hu
        rw [Option.map_eq_some_iff] at h
        obtain ⟨vs', hvs, h⟩ := h
        obtain ⟨rfl, rfl⟩ := Prod.mk.inj h
        obtain ⟨hlt, hp⟩ := upTo_get hvs i av hi
        rw [Nat.zero_add] at hp
        have hxr := ev x
        rw [hx] at hxr
        obtain ⟨us, hus, hrs⟩ := hxr
        obtain ⟨k, hk⟩ := int_rel hj' (ev n0)
        obtain ⟨v, hv, hrun⟩ := part_run hp hrs
        refine ⟨v, hv, ?_⟩
        have hun : (P.underlying el).isNone = false := by
          unfold partOut at hp
          split at hp
          · cases hp
          · rename_i hh; exact Bool.eq_false_iff.2 hh
        have hsz := sizeT_run hun w
        have h1 : (i : Int) < (n : Int) := by omega
        simp [execOp, hus, hk, Instr.index, asIntOf, run_underlying hu, hj, hlt, hsz, hrun]
      · cases h
    · cases h
  · rename_i t x n0 hop
    simp only at hop
    subst hop
    split at h
    · rename_i b p j' hx hj'
      split at h
      · rename_i n el hu
        split at h
        · rename_i hinf
          rw [Option.map_eq_some_iff] at h
          obtain ⟨vs', hvs, h⟩ := h
          obtain ⟨rfl, rfl⟩ := Prod.mk.inj h
          obtain ⟨hlt, hp⟩ := upTo_get hvs i av hi
          rw [Nat.zero_add] at hp
          obtain rfl := Option.some.inj hp
          have hxr := ev x
          rw [hx] at hxr
          obtain ⟨hb, hus⟩ := hxr
          obtain ⟨k, hk⟩ := int_rel hj' (ev n0)
          refine ⟨.pointer (some ⟨G.ρ b, p + i * sizeT P el, none⟩), ⟨hb, rfl⟩, ?_⟩
          have h1 : (i : Int) < (n : Int) := by omega
          simp [execOp, hus, hk, Instr.indexAt, asIntOf, Instr.sureAddr, run_underlying hu, hj, hlt, size_run rfl hinf, add_cell]
        · cases h
      · cases h
    · rename_i b p n j' hx hj'
      split at h
      · rename_i el hu
        split at h
        · rename_i hinf
          rw [Option.map_eq_some_iff] at h
          obtain ⟨vs', hvs, h⟩ := h
          obtain ⟨rfl, rfl⟩ := Prod.mk.inj h
          obtain ⟨hlt, hp⟩ := upTo_get hvs i av hi
          rw [Nat.zero_add] at hp
          obtain rfl := Option.some.inj hp
          have hxr := ev x
          rw [hx] at hxr
          obtain ⟨hb, c, hc, hus⟩ := hxr
          obtain ⟨k, hk⟩ := int_rel hj' (ev n0)
          refine ⟨.pointer (some ⟨G.ρ b, p + i * sizeT P el, none⟩), ⟨hb, rfl⟩, ?_⟩
          have h1 : (i : Int) < (n : Int) := by omega
          simp [execOp, hus, hk, Instr.indexAt, asIntOf, Instr.sureAddr, run_underlying hu, hj, hlt, size_run rfl hinf, add_cell]
        · cases h
      · cases h
    · cases h
  · cases h
theorem ofBytes_empty : ofBytes [] = ByteArray.empty := rfl
theorem isNP_rel {b : Nat} {c : AV E} {v : Value} (h : isNP b c = true) (hr : c.Rel G w e v) : v = .pointer none ∨ v = .pointer (some ⟨G.ρ b, 0, none⟩) := by
  cases c with
  | nilp => exact .inl hr
  | ptr b' o =>
    simp only [isNP, Bool.and_eq_true, decide_eq_true_eq] at h
    obtain ⟨rfl, rfl⟩ := h
    exact .inr hr.2
  | np b' o =>
    simp only [isNP, Bool.and_eq_true, decide_eq_true_eq] at h
    obtain ⟨rfl, rfl⟩ := h
    exact hr.imp id (·.2)
  | _ => simp [isNP] at h
theorem callX_sound {X : Spx} {f : FuncId} {args : List (AV E)} {dst : Option Tmp} {F : E → Option R} (hX : X.OK P f) (h : callX X args s dst K = some F) (hF : F e = some r) (hr : RelG Z w0 s e acts a w G) (hd : dstOk' s dst) {vs : Array Value} (hargs : AV.Rels G w e args vs.toList) :
    Calls P f vs w fun en w' => ∃ v, en = .returned v ∧ After Z w0 acts K r G w (a.put dst v) w' ∧ ((∀ T, X ≠ .copy T) → AfterK Z w0 acts K r G (Live s.blocks) w (a.put dst v) w') := by
  unfold callX at h
  split at h
  rotate_left
  · cases h
  rename_i b
  split at h
  rotate_left
  · cases h
  rename_i el c0 c1 hb
  split at h
  rotate_left
  · cases h
  rename_i hnp
  obtain ⟨u, us1, hvs, hu, hus1⟩ := hargs
  obtain rfl : us1 = [] := hus1
  obtain ⟨hbn, rfl⟩ := hu
  have hvs' : vs = #[.pointer (some ⟨G.ρ b, 0, none⟩)] := by apply Array.ext'; exact hvs
  subst hvs'
  obtain ⟨us, hheap, hus, hno⟩ := hr.blk b _ hb
  obtain ⟨v0, r0, h0, hc0, v1, r1, rfl, hc1, hr1⟩ := hus
  obtain rfl : r1 = [] := hr1
  have hus' : us = [v0, v1] := h0
  subst hus'
  replace hheap : w.heap[G.ρ b]? = some (.cells #[v0, v1] _ (0, 0)) := hheap
  have hn0 := isNP_rel hnp hc0
  have hlive : Live s.blocks b := ⟨_, _, hb⟩
  split at h
  · rename_i T
    split at h
    rotate_left
    · cases h
    rename_i hel
    subst hel
    refine (hX w (G.ρ b) v0 v1 hheap hn0).mono ?_
    rintro en w' ⟨rfl, hos, htp, hout, hsz, hother, hthis⟩
    obtain ⟨q1, q2⟩ := hr.turn (K' := .row el) (us' := [.pointer (some ⟨G.ρ b, 0, none⟩), v1]) (vs := [.ptr b 0, c1]) hb hos htp hout hsz hother hthis ⟨_, _, rfl, ⟨hbn, rfl⟩, _, _, rfl, hc1, rfl⟩
    refine ⟨_, rfl, ⟨E, _, e, F, _, h, hF, q1.put (s := { s with blocks := s.blocks.set b (.cells (.row el) [.ptr b 0, c1]) }) hd (av := .tup []) ⟨#[], rfl, rfl⟩, q2⟩, fun hne => absurd rfl (hne el)⟩
  · rename_i T eb
    split at h
    rotate_left
    · cases h
    rename_i hel
    subst hel
    split at h
    · obtain rfl : v1 = _ := hc1
      refine (hX w (G.ρ b) 0 v0 (.slice none 0 0) [] hheap (World.ownsRow_nil w _ _ _) (fun _ => rfl)).mono ?_
      rintro en w' ⟨rfl, hos, htp, hout, hsz, hother, _⟩
      have hbel : Below w.heap.size w w' := ⟨hos, htp, hout, hsz, fun k hk => hother k hk (by simp [Value.ownBlock])⟩
      have hx : GExt G w G w' := ⟨⟨fun _ _ h => h, fun c i hc => hbel.cell (p := ⟨c, i, none⟩) (hr.fz c i hc)⟩, Nat.le_refl _, Nat.le_refl _, rfl, fun _ _ => rfl, fun k hk bo hbo => ⟨hbo, fun g hg => by
        subst hg
        exact ⟨hbel.block g (hr.tlo k g hk hbo).2.1, fun i hi => hi⟩⟩⟩
      have hr2 : RelG Z w0 s e acts a w' G := hr.ext hx (hr.bel.trans (hbel.mono hr.bel.size)) rfl rfl (fun c i hc => Nat.lt_of_lt_of_le (hr.fz c i hc) hsz) (fun c hl => ⟨hbel.block _ (hr.live_lt hl).2, fun i hi => by
        obtain ⟨el', cs', hl'⟩ := id hl
        obtain ⟨us', _, _, hn⟩ := hr.blk c _ hl'
        exact hn i hi⟩) hsz (fun _ _ => rfl) (fun c i _ hi => hi)
      have hk : AfterK Z w0 acts K r G (Live s.blocks) w (a.put dst (.string (ofBytes []))) w' := ⟨E, _, e, F, G, h, hF, hr2.put hd (av := .sym .str fun _ => ByteArray.empty) rfl, hx.fz, rfl, (fun c => by rw [put_blocks]), fun c hl => hbel.block _ (hr.live_lt hl).2⟩
      exact ⟨_, rfl, hk.to, fun _ => hk⟩
    · rename_i k e' x
      split at h
      rotate_left
      · cases h
      rename_i he'
      subst he'
      obtain ⟨hk1, hz, bo, hbo, hown⟩ := hc1
      obtain ⟨hob, us, hrow, hreps, hΦ⟩ := hown
      subst hob
      have hsz1 : (Ty.int IntKind.u8).size = 1 := rfl
      rw [hsz1] at hrow
      have hul : us.length = (x e).length := by simpa using hrow.1
      have hus : us = (x e).map fun n => Value.int .u8 n := by
        apply List.ext_getElem?
        intro j
        rw [List.getElem?_map]
        by_cases hj : j < (x e).length
        · have h1 : CRel G.Φ w (.int .u8) (x e)[j] ((us.drop (j * 1)).take 1) := hreps j _ (List.getElem?_eq_getElem hj)
          rw [Nat.mul_one] at h1
          have hj' : j < us.length := by omega
          rw [List.drop_eq_getElem_cons hj', List.take_succ_cons, List.take_zero] at h1
          have h2 := (List.cons.inj (show [us[j]] = [Value.int .u8 (x e)[j]] from h1)).1
          rw [List.getElem?_eq_getElem hj', List.getElem?_eq_getElem hj, h2]
          rfl
        · rw [List.getElem?_eq_none (by omega), List.getElem?_eq_none (by omega)]
          rfl
      rw [hus] at hrow
      refine (hX w (G.ρ b) G.B v0 v1 (x e) hheap hrow (fun hx => hz rfl hx)).mono ?_
      rintro en w' ⟨rfl, hos, htp, hout, hsz, hother, hcell⟩
      obtain ⟨q1, q2, _, _⟩ := hr.grow (tok := some k) (w' := w') (bo := none) (L := 0) hos htp hout hsz (fun j hj => by cases hj; exact hk1)
        (fun c hc hne => hother c hc (fun hh => hne k rfl (by rw [hbo, hh]))) (fun g hg => nomatch hg)
        (fun j g hj hjg i hi => by cases hj; rw [hbo] at hjg; exact hcell g i (Option.some.inj hjg)) (fun _ _ _ _ hh => nomatch hh)
      have hlv : ∀ c, Live s.blocks c → w'.heap[G.ρ c]? = w.heap[G.ρ c]? := fun c hl => hother _ (hr.live_lt hl).2 (fun hh => (hr.tlo k _ hk1 (by rw [hbo, hh])).2.2 c hl rfl)
      have hk : AfterK Z w0 acts K r G (Live s.blocks) w (a.put dst (.string (ofBytes (x e)))) w' := ⟨E, _, e, F, _, h, hF, q1.put (dstOk'_drop (k := some k) hd) (av := .sym .str fun e => ofBytes (x e)) rfl, q2, rfl, (fun c => by rw [put_blocks]; exact drop_live), hlv⟩
      exact ⟨_, rfl, hk.to, fun _ => hk⟩
    · cases h
theorem step_sound {k : Nat} {L : Specs} {T : World → Prop} {inl : Inl R} {o : Oper} {F : E → Option R} {Q : Exit → Act → World → Prop} (hL : ∀ f S, L.get f = some S → S.OK P T f) (hT : ∀ w, BelX Z.op w0.heap.size w0 w → T w) (hinl : InlOK P Z w0 acts r inl)
    (h : step P k L inl o E s K = some F) (hF : F e = some r) (hr : RelG Z w0 s e acts a w G) : o.wp P a w (fun a' w' => After0 Z w0 acts K r a' w') Q := by
  unfold step at h
  split at h
  · cases h
  rename_i hd0
  have hd := dstOk_spec (s := s) (o := o) (by simpa using hd0)
  split at h
  · -- quiet
    rename_i c hq
    obtain ⟨f, hK, hc, hf⟩ := guardIf_spec h hF
    obtain ⟨v, hv, hy⟩ := quiet_sound (n := fun _ => True) (o := o) (a := a) hq hc hr.tm hr.blk (fun _ _ _ => trivial)
    unfold Oper.wp
    rw [hy w (.refl _ _ _)]
    exact ⟨E, _, e, f, G, hK, hf, hr.put hd hv⟩
  · rename_i hq
    have chg : (if isMut (marked L) s o.op = true then mutate P (marked L) s o K else change P s o K) = some F → o.wp P a w (fun a' w' => After0 Z w0 acts K r a' w') Q := by
      intro h
      obtain ⟨nx, v, w', hrun, hnx, haft⟩ := chgmut_sound h hF hr hd
      unfold Oper.wp
      rw [hrun]
      rcases hnx with rfl | ⟨rfl, rfl⟩
      · exact haft.to0
      · exact haft.to0
    split at h
    · rename_i j vs hcs
      obtain ⟨i, av, f, h1, h2, h3, h4⟩ := caseK_spec h hF
      rw [Nat.zero_add] at h2
      obtain ⟨v, hv, hrun⟩ := caseOut_run hcs hr.tm i av h1 h2
      unfold Oper.wp
      rw [hrun]
      exact ⟨E, _, e, f, G, h3, h4, hr.put hd hv⟩
    split at h
    · rename_i kd y ks vs z hcs
      obtain ⟨v, av, f, hrun, hv, h3, h4⟩ := lookCase_sound hcs h hF hr.tm hr.blk
      unfold Oper.wp
      rw [hrun]
      exact ⟨E, _, e, f, G, h3, h4, hr.put hd hv⟩
    split at h
    · rename_i c hop
      split at h
      · rename_i f hcal
        unfold callOut at h
        have hf := ev_rel hr.tm f
        split at h
        · rename_i g caps hfn
          rw [hfn] at hf
          obtain ⟨us, hfv, hus⟩ := hf
          split at h
          · rename_i hcl
            have hargs : AV.Rels G w e (c.args.toList.map s.ev ++ caps) ((c.args.map a.eval ++ us).toList) := by
              rw [Array.toList_append, Array.toList_map]
              exact (evs_rel hr.tm _).append hus
            have hrun : (execOp a.eval o).run P w = .ok (.enter g (c.args.map a.eval ++ us)) w := by
              have h1 := callable_run hcl (c.args.map a.eval ++ us) w
              unfold execOp
              simp only [hop, resolve, hcal, hfv, Deferred.ofValue, Sem.run_bind, Sem.run_pure, Result.andThen_ok, invoke, Array.empty_append, h1]
            unfold Oper.wp
            rw [hrun, Oper.upon_enter]
            split at h
            · rename_i S hS
              refine (callSpec_sound (show S.Sound P T g from hL g (.fn S) hS) h hF hr (hT w hr.bel) hd hargs).mono ?_
              rintro en w' ⟨v, rfl, haft⟩
              exact haft.to0
            · rename_i X hXs
              refine (callX_sound (show X.OK P g from hL g (.x X) hXs) h hF hr hd hargs).mono ?_
              rintro en w' ⟨v, rfl, haft, _⟩
              exact haft.to0
            · rename_i S hS
              refine (callRef_sound (show S.Sound P T g from hL g (.ref S) hS) h hF hr hT hd hargs).mono ?_
              rintro en w' ⟨v, rfl, haft⟩
              exact haft.to0
            · cases h
            · cases h
            · refine (hinl E s g _ o.dst K F e a w G _ h hF hr hd hargs).mono ?_
              rintro en w' ⟨v, rfl, haft⟩
              exact haft
          · cases h
        · cases h
      · exact chg h
    · exact chg h
/-! ### regions in their order -/
theorem yielded_of {ops : Array Oper} {j d : Nat} {t : Array Value} (hd : (ops[j]?).bind (·.dst) = some d) : yielded ops t j = match t.getD d undef with | .bool b => some b | _ => none := by
  unfold yielded
  rw [hd]
  simp only [Option.bind_some]
  rw [Array.getD_eq_getD_getElem?]
  cases t[d]? with
  | none => simp [undef]
  | some v => cases v <;> simp
theorem RelG.refine (hr : RelG Z w0 s e acts a w G) {d : Nat} {av : AV E} (hv : av.Rel G w e (a.tmps.getD d undef)) : RelG Z w0 (s.put (some d) av) e acts a w G :=
  ⟨hr.B, hr.bel, hr.defers, hr.size, hr.nb, hr.nt, hr.fz, (fun u => by
    show (Env.get (s.tmps.set d av) u).Rel G w e _
    rw [Env.get_set]
    by_cases hu : u = d
    · rw [if_pos hu, hu]; exact hv
    · rw [if_neg hu]; exact hr.tm u), hr.stk, hr.blk, hr.lo, hr.inj, hr.tlo, hr.tinj, hr.zz⟩
theorem stepList_sound {stp : Nat → Oper → Kont R → Kont R} {ops : Array Oper} {Q : Exit → Act → World → Prop}
    (hst : ∀ i o (K : Kont R) (E : Type) (s : St E) (F : E → Option R) (e : E) (a : Act) (w : World) (G : Gh), stp i o K E s = some F → F e = some r → RelG Z w0 s e acts a w G → o.wp P a w (fun a' w' => After0 Z w0 acts K r a' w') Q) :
    ∀ (l : List Oper) (i : Nat) (K : Kont R) (E : Type) (s : St E) (F : E → Option R) (e : E) (a : Act) (w : World) (G : Gh), stepList stp ops i l K E s = some F → F e = some r → RelG Z w0 s e acts a w G → KOK Z w0 acts r K (Q .normal) → wpList P ops Q l a w
  | [], i, K, E, s, F, e, a, w, G, h, hF, hr, hK => hK a w ⟨E, s, e, F, G, h, hF, hr⟩
  | o :: l, i, K, E, s, F, e, a, w, G, h, hF, hr, hK => by
    have next : ∀ a' w', After0 Z w0 acts (stepList stp ops (i + 1) l K) r a' w' → wpList P ops Q l a' w' := by
      rintro a' w' ⟨E', s', e', F', G', h1, h2, h3⟩
      exact stepList_sound hst l (i + 1) K E' s' F' e' a' w' G' h1 h2 h3 hK
    have go : ∀ (s : St E) (F : E → Option R), stp i o (stepList stp ops (i + 1) l K) E s = some F → F e = some r → RelG Z w0 s e acts a w G → ∀ K' : Act → World → Prop, (∀ a w, wpList P ops Q l a w → K' a w) → o.wp P a w K' Q :=
      fun s F h hF hr K' hK' => Oper.wp_mono (fun a' w' haft => hK' a' w' (next a' w' haft)) (hst i o _ E s F e a w G h hF hr)
    have skip : ∀ (s : St E) (F : E → Option R), dstOk s o = true → stepList stp ops (i + 1) l K E (s.put o.dst (.tup [])) = some F → F e = some r → RelG Z w0 s e acts a w G → wpList P ops Q l (a.put o.dst undef) w :=
      fun s F hd h hF hr => next _ _ ⟨E, _, e, F, G, h, hF, hr.put (dstOk_spec hd) ⟨#[], rfl, rfl⟩⟩
    refine wpList_step fun K' hK' => ?_
    unfold stepList at h
    cases hg : o.guard with
    | none =>
      simp only [hg] at h
      rw [if_pos (by simp [Region.wanted, hg])]
      exact go s F h hF hr K' hK'
    | some jw =>
      obtain ⟨j, want⟩ := jw
      simp only [hg] at h
      split at h
      · cases h
      · rename_i d hd
        have hy := yielded_of (t := a.tmps) hd
        have hwant : Region.wanted o (yielded ops a.tmps) = (yielded ops a.tmps j == some want) := by simp [Region.wanted, hg]
        rw [hwant, hy]
        have hv := hr.tm d
        split at h
        · rename_i b hb
          rw [hb] at hv
          rw [show a.tmps.getD d undef = .bool b from hv]
          simp only
          split at h
          · rename_i hbw
            rw [if_pos (by simp [hbw])]
            exact go s F h hF hr K' hK'
          · rename_i hbw
            rw [if_neg (by simpa using hbw)]
            split at h
            · rename_i hdo
              exact hK' _ _ (skip s F hdo h hF hr)
            · cases h
        · rename_i x hx
          rw [hx] at hv
          have hv' : a.tmps.getD d undef = .bool (x e) := (List.cons.inj hv).1
          rw [hv']
          simp only
          split at h
          · cases h
          · rename_i hdo
            have hdo' : dstOk s o = true := by simpa using hdo
            unfold splitB at h
            split at h
            · rename_i f g hf hgg
              obtain rfl := Option.some.inj h
              simp only [ifO] at hF
              have br : ∀ (b : Bool) (F1 : E → Option R), (if b = want then stp i o (stepList stp ops (i + 1) l K) E (s.put (some d) (.cb b)) else stepList stp ops (i + 1) l K E ((s.put (some d) (.cb b)).put o.dst (.tup []))) = some F1 → F1 e = some r → x e = b → if (some (x e) == some want) = true then o.wp P a w K' Q else K' (a.put o.dst undef) w := by
                intro b F1 h1 hF1 hxb
                have hr1 : RelG Z w0 (s.put (some d) (.cb b)) e acts a w G := hr.refine (by rw [hv', hxb]; rfl)
                split at h1
                · rename_i hbw
                  rw [if_pos (by simp [hxb, hbw])]
                  exact go _ F1 h1 hF1 hr1 K' hK'
                · rename_i hbw
                  rw [if_neg (by simp [hxb, hbw])]
                  refine hK' _ _ (skip _ F1 ?_ h1 hF1 hr1)
                  unfold dstOk at hdo' ⊢
                  cases hd2 : o.dst with
                  | none => rfl
                  | some d2 => rw [hd2] at hdo'; exact (show decide (d2 < s.size) = true from hdo')
              by_cases hxe : x e = true
              · rw [if_pos hxe] at hF
                exact br true f hf hF hxe
              · rw [if_neg hxe] at hF
                exact br false g hgg hF (by simpa using hxe)
            · cases h
        · rename_i hx
          rw [hx] at hv
          obtain ⟨us, hus, hre⟩ := hv
          rw [hus]
          simp only
          split at h
          · rename_i hdo
            rw [if_neg (by simp)]
            exact hK' _ _ (skip s F hdo h hF hr)
          · cases h
        · cases h
end
end Go.Proofs.YtmmbedlegmbppaaDoor.R
/- Regions whose operations may come in another order. -/
namespace Go.Proofs.YtmmbedlegmbppaaDoor.R
open Go Go.RowKit
set_option linter.unusedVariables false
set_option linter.unusedSimpArgs false
section
variable {E : Type} {G : Gh} {w w0 : World} {Z : Zf} {e : E} {P : Program} {s : St E} {a : Act} {acts : List (Array Value)} {R : Type} {K : Kont R} {r : R} {ops : Array Oper}
theorem gst_yes {o : Oper} (h : gst ops s o = .yes) (hr : EnvRel G w e s.tmps a.tmps) : Region.wanted o (yielded ops a.tmps) = true := by
  unfold gst at h
  split at h
  · rename_i hg; simp [Region.wanted, hg]
  · rename_i j want hg
    split at h
    · cases h
    · rename_i d hd
      have hv := hr d
      split at h
      · rename_i b hb
        split at h
        · rename_i hbw
          rw [hb] at hv
          have hw : Region.wanted o (yielded ops a.tmps) = (yielded ops a.tmps j == some want) := by simp [Region.wanted, hg]
          rw [hw, yielded_of hd, show a.tmps.getD d undef = .bool b from hv]
          simp [hbw]
        · cases h
      · cases h
      · cases h
      · cases h
theorem gst_no {o : Oper} (h : gst ops s o = .no) (hr : EnvRel G w e s.tmps a.tmps) : Region.wanted o (yielded ops a.tmps) = false := by
  unfold gst at h
  split at h
  · cases h
  · rename_i j want hg
    have hw : Region.wanted o (yielded ops a.tmps) = (yielded ops a.tmps j == some want) := by simp [Region.wanted, hg]
    split at h
    · cases h
    · rename_i d hd
      have hv := hr d
      split at h
      · rename_i b hb
        split at h
        · cases h
        · rename_i hbw
          rw [hb] at hv
          rw [hw, yielded_of hd, show a.tmps.getD d undef = .bool b from hv]
          simpa using hbw
      · rename_i hb
        rw [hb] at hv
        obtain ⟨us, hus, _⟩ := hv
        rw [hw, yielded_of hd, hus]
        simp
      · cases h
      · cases h
theorem gst_ask {o : Oper} {d : Nat} {x : E → Bool} (h : gst ops s o = .ask d x) (hr : EnvRel G w e s.tmps a.tmps) : a.tmps.getD d undef = .bool (x e) := by
  unfold gst at h
  split at h
  · cases h
  · split at h
    · cases h
    · rename_i d' hd
      have hv := hr d'
      split at h
      · split at h <;> cases h
      · cases h
      · rename_i y hy
        rw [hy] at hv
        cases h
        exact (List.cons.inj hv).1
      · cases h
theorem quietD_quiet {keep : Bool} {o : Op} {c : Option (E → Bool) × AV E} (h : quietD P keep s o = some c) : quiet P s o = some c ∧ (readsOwn s o = true → keep = true) := by
  unfold quietD at h
  split at h
  · rename_i t x
    split at h
    · rename_i b o hx
      split at h
      · rename_i hk
        refine ⟨?_, fun _ => hk⟩
        show loadOut P s t (s.ev x) = some c
        rw [hx]; exact h
      · cases h
    · rename_i hx
      refine ⟨h, fun hp => ?_⟩
      cases hv : s.ev x <;> simp [readsOwn, hv] at hp
      exact absurd hv (hx _ _)
  · rename_i t x k two
    split at h
    · rename_i hk
      exact ⟨h, fun _ => hk⟩
    · cases h
  · rename_i hx hx2
    refine ⟨h, fun hp => ?_⟩
    unfold readsOwn at hp
    split at hp
    · rename_i t x; exact absurd rfl (hx t x)
    · rename_i t x k two; exact absurd rfl (hx2 t x k two)
    · cases hp
theorem wpAnyH_mono {md : Region.Mode} {Q : Exit → Act → World → Prop} {S S' : World → Prop} (hS : ∀ w, S' w → S w) : ∀ (f : Nat) (l : Array Bool) (a : Act) (w : World), wpAnyH P md ops Q S' f l a w → wpAnyH P md ops Q S f l a w
  | 0, _, _, _, h => h
  | f + 1, l, a, w, h => ⟨h.1, fun i hi => wpOp_mono (fun a' w' h' => ⟨hS _ h'.1, wpAnyH_mono hS f _ a' w' h'.2⟩) (h.2 i hi)⟩
def prem (P : Program) (L : Specs) (ops : Array Oper) (l0 l : Array Bool) : Prop := ∀ j, changes P L ops j = true → l.getD j true = l0.getD j true
theorem prem_set {P : Program} {L : Specs} {ops : Array Oper} {l0 l : Array Bool} {i : Nat} (hi : changes P L ops i = false) : prem P L ops l0 (l.setIfInBounds i true) ↔ prem P L ops l0 l := by
  refine ⟨fun h j hj => ?_, fun h j hj => ?_⟩
  · have hne : i ≠ j := by rintro rfl; rw [hi] at hj; cases hj
    rw [← h j hj, getD_set_ne true hne]
  · have hne : i ≠ j := by rintro rfl; rw [hi] at hj; cases hj
    rw [getD_set_ne true hne]; exact h j hj
theorem prem_set' {P : Program} {L : Specs} {ops : Array Oper} {l0 l : Array Bool} {i : Nat} (hi : changes P L ops i = false) : prem P L ops (l0.setIfInBounds i true) l ↔ prem P L ops l0 l := by
  refine ⟨fun h j hj => ?_, fun h j hj => ?_⟩
  · have hne : i ≠ j := by rintro rfl; rw [hi] at hj; cases hj
    rw [h j hj, getD_set_ne true hne]
  · have hne : i ≠ j := by rintro rfl; rw [hi] at hj; cases hj
    rw [getD_set_ne true hne]; exact h j hj
theorem prem_no {P : Program} {L : Specs} {ops : Array Oper} {l l' : Array Bool} {j : Nat} (hj : changes P L ops j = true) (h0 : l.getD j true = false) (h1 : l'.getD j true = true) : ¬ prem P L ops l l' := fun h => by
  have := h j hj
  rw [h0, h1] at this
  cases this
theorem lateOK_spec {P : Program} {L : Specs} {ops : Array Oper} {l : Array Bool} {i j : Nat} {oj : Oper} (h : lateOK P L ops l i = true) (hj : changes P L ops j = true) (ho : ops[j]? = some oj) (hp : l.getD j true = false) : ∃ e ∈ oj.after, Region.binds .any e = true ∧ e.on = i := by
  unfold lateOK at h
  have := List.all_eq_true.1 h j (List.mem_range.2 (Array.getElem?_eq_some_iff.1 ho).1)
  rw [hj, hp] at this
  simp only [Bool.not_true, Bool.false_or, waits, ho] at this
  obtain ⟨n, hn, hx⟩ := Array.any_eq_true.1 this
  rw [Bool.and_eq_true, beq_iff_eq] at hx
  exact ⟨_, Array.getElem_mem hn, hx.1, hx.2⟩
theorem take_L {L : Specs} {keep : Bool} {Q : Exit → Act → World → Prop} {n : Nat → Prop} {i : Nat} {oi : Oper} {v : Value} {f : Nat} {l : Array Bool} {a : Act} {w : World} (hi : ops[i]? = some oi)
    (hs : Region.noSelect ops = true) (hf : Region.free .any ops l i = true) (hr : (Region.ready .any ops l).contains i = true)
    (hQ : ∀ c a w, Q (.panic c) (a.put oi.dst v) w → Q (.panic c) a w) (hkb : keep = true → changes P L ops i = false)
    (hy : ((keep && lateOK P L ops l i) = true ∧ YieldsIf P ops (Same G (fun b => keep = true ∧ n b) w) oi v a) ∨ YieldsIf P ops (Same G (fun _ => False) w) oi v a)
    (h : wpAnyL P ops Q (fun l' w' => Same G (fun b => (keep = true ∧ prem P L ops (l.setIfInBounds i true) l') ∧ n b) w w') f (l.setIfInBounds i true) (a.put oi.dst v) w) :
    wpAnyL P ops Q (fun l' w' => Same G (fun b => (keep = true ∧ prem P L ops l l') ∧ n b) w w') (f + 1) l a w := by
  have h' := wpAnyL_mono (S := fun l' w' => Same G (fun b => (keep = true ∧ prem P L ops l l') ∧ n b) w w') _ _ _ _ (fun l'' w2 _ _ h3 => ⟨h3.cell, fun b hb => h3.blk b ⟨⟨hb.1.1, (prem_set' (hkb hb.1.1)).2 hb.1.2⟩, hb.2⟩⟩) h
  have hSS : ∀ (l' : Array Bool) (w' : World), Same G (fun b => (keep = true ∧ prem P L ops l (l'.setIfInBounds i true)) ∧ n b) w w' → Same G (fun b => (keep = true ∧ prem P L ops l l') ∧ n b) w w' := fun l' w' hS => ⟨hS.cell, fun b hb => hS.blk b ⟨⟨hb.1.1, (prem_set (hkb hb.1.1)).2 hb.1.2⟩, hb.2⟩⟩
  rcases hy with ⟨hl, hy⟩ | hy
  · rw [Bool.and_eq_true] at hl
    refine wpAnyL_first (T := Same G (fun b => keep = true ∧ n b) w) (C := fun l' => prem P L ops l l') hi (Region.noSelect_spec hs) hQ ?_ ?_ hSS f l a w (Region.free_spec hi hf) (by simpa using hr) hy (fun _ _ => rfl) (.refl _ _ _) (.refl _ _ _) h'
    · intro l' j oj hc hoj hji hjun hno
      cases hch : changes P L ops j with
      | false => exact (prem_set hch).2 hc
      | true =>
        obtain ⟨e, he, hb, hon⟩ := lateOK_spec hl.2 hch hoj (by rw [← hc j hch]; exact hjun)
        exact absurd hon (hno e he hb)
    · intro l' w' hc hS
      exact ⟨hS.cell, fun b hb => hS.blk b ⟨⟨hb.1, (prem_set (hkb hb.1)).2 hc⟩, hb.2⟩⟩
  · exact wpAnyL_first (T := Same G (fun _ => False) w) (C := fun _ => True) hi (Region.noSelect_spec hs) hQ (fun _ _ _ _ _ _ _ _ => trivial) (fun l' w' _ hS => ⟨hS.cell, fun _ h => h.elim⟩) hSS f l a w (Region.free_spec hi hf) (by simpa using hr) hy trivial (.refl _ _ _) (.refl _ _ _) h'
theorem drawGo_sound {k : Nat} {L : Specs} {T : World → Prop} {keep : Bool} {Q : Exit → Act → World → Prop} (hL : ∀ f S, L.get f = some S → S.OK P T f) (hT : ∀ w, BelX Z.op w0.heap.size w0 w → T w) (hs : Region.noSelect ops = true) (hQ : ∀ c a w, ¬ Q (.panic c) a w) (hK : KOK Z w0 acts r K (Q .normal)) :
    ∀ (n f : Nat) (l : Array Bool) (E : Type) (s : St E) (F : E → Option R) (e : E) (a : Act) (w : World) (G : Gh), drawGo P k L keep ops n f l K E s = some F → F e = some r → RelG Z w0 s e acts a w G →
      wpAnyL P ops Q (fun l' w' => Same G (fun b => (keep = true ∧ prem P L ops l l') ∧ Live s.blocks b) w w') f l a w := by
  intro n
  induction n with
  | zero => intro f l E s F e a w G h; cases h
  | succ n ih =>
    intro f l E s F e a w G h hF hr
    unfold drawGo at h
    simp only at h
    split at h
    · rename_i hrs
      exact wpAnyL_done (List.isEmpty_iff.1 hrs) (hK a w ⟨E, s, e, F, G, h, hF, hr⟩) f
    · rename_i hrs
      split at h
      · cases h
      · rename_i f'
        split at h
        · -- one that may be taken first
          rename_i i hfind
          have hi := List.mem_of_find?_eq_some hfind
          have he := List.find?_some hfind
          have hcont : (Region.ready .any ops l).contains i = true := List.contains_iff_mem.2 hi
          unfold easy at he
          split at h
          · rename_i o ho
            simp only [ho, Bool.and_eq_true] at he
            obtain ⟨⟨⟨he1, he2⟩, he3⟩, he4⟩ := he
            have hkb : keep = true → changes P L ops i = false := fun hk => by
              unfold changes
              rw [ho]
              rw [hk] at he4
              simpa using he4
            have hd := dstOk_spec (s := s) (o := o) he3
            split at h
            · rename_i hg
              have hw := gst_yes hg hr.tm
              split at h
              · rename_i c hq
                obtain ⟨hq1, hq2⟩ := quietD_quiet hq
                obtain ⟨fn, hK1, hc, hf⟩ := guardIf_spec h hF
                have hy : ∃ v, c.2.Rel G w e v ∧ (((keep && lateOK P L ops l i) = true ∧ YieldsIf P ops (Same G (fun b => keep = true ∧ Live s.blocks b) w) o v a) ∨ YieldsIf P ops (Same G (fun _ => False) w) o v a) := by
                  by_cases hlo : (keep && lateOK P L ops l i) = true
                  · obtain ⟨v, hv, hy⟩ := quiet_sound (n := fun b => keep = true ∧ Live s.blocks b) (o := o) (a := a) hq1 hc hr.tm hr.blk (fun _ b hb => ⟨(Bool.and_eq_true _ _ ▸ hlo).1, hb⟩)
                    exact ⟨v, hv, .inl ⟨hlo, .inl ⟨hw, hy⟩⟩⟩
                  · obtain ⟨v, hv, hy⟩ := quiet_sound (n := fun _ => False) (o := o) (a := a) hq1 hc hr.tm hr.blk (fun h1 => absurd (hq2 h1) hlo)
                    exact ⟨v, hv, .inr (.inl ⟨hw, hy⟩)⟩
                obtain ⟨v, hv, hy⟩ := hy
                refine take_L ho hs he2 hcont (fun c a w h => absurd h (hQ c _ w)) hkb hy ?_
                have := ih f' _ E _ fn e _ w G hK1 hf (hr.put hd hv)
                rw [put_blocks] at this
                exact this
              · cases h
            · rename_i hg
              have hg' : gst ops s o = .no := by
                cases hgg : gst ops s o with
                | yes => exact absurd hgg hg
                | no => rfl
                | ask d x => rw [hgg] at he1; simp at he1
                | bad => rw [hgg] at he1; simp at he1
              have hw := gst_no hg' hr.tm
              refine take_L (v := undef) ho hs he2 hcont (fun c a w h => absurd h (hQ c _ w)) hkb (.inr (.inr ⟨hw, rfl⟩)) ?_
              have := ih f' _ E _ F e _ w G h hF (hr.put (v := undef) hd ⟨#[], rfl, rfl⟩)
              rw [put_blocks] at this
              exact this
          · cases h
        · split at h
          · -- one whose guard is asked
            rename_i d x hask
            obtain ⟨i, hi, hx⟩ := List.exists_of_findSome?_eq_some hask
            have hv : a.tmps.getD d undef = .bool (x e) := by
              unfold asks at hx
              split at hx
              · cases hx
              · rename_i o ho
                split at hx
                · rename_i d' x' hg
                  cases hx
                  exact gst_ask hg hr.tm
                · cases hx
            unfold splitB at h
            split at h
            · rename_i fa fb ha hb
              obtain rfl := Option.some.inj h
              simp only [ifO] at hF
              by_cases hxe : x e = true
              · rw [if_pos hxe] at hF
                have := ih (f' + 1) l E _ fa e a w G ha hF (hr.refine (av := .cb true) (by rw [hv, hxe]; rfl))
                rw [put_blocks] at this
                exact this
              · rw [if_neg hxe] at hF
                have := ih (f' + 1) l E _ fb e a w G hb hF (hr.refine (av := .cb false) (by rw [hv, Bool.eq_false_iff.2 hxe]; rfl))
                rw [put_blocks] at this
                exact this
            · cases h
          · -- all that are ready, in any order
            split at h
            · cases h
            refine wpAnyL_all rfl (fun h0 => hrs (by rw [h0]; rfl)) (fun j hj => ?_)
            have hjr : j ∈ Region.ready .any ops l := hj
            obtain ⟨F, h, hF⟩ := allO_spec _ h hF _ (List.mem_map_of_mem hj)
            have hjun : l.getD j true = false := (mem_ready.1 hjr).1
            · split at h
              · rename_i o ho
                split at h
                · rename_i hg
                  have hw := gst_yes hg hr.tm
                  split at h
                  · cases h
                  · rename_i hkeep
                    unfold wpOp
                    simp only [ho, hw, if_true]
                    refine .inl ?_
                    have hset : (l.setIfInBounds j true).getD j true = true := by
                      by_cases hs' : j < l.size
                      · simp [Array.getD, hs']
                      · simp [Array.getD, hs']
                    have hcj : changes P L ops j = !keepsBlocks P L o.op := by unfold changes; rw [ho]
                    have cont : ∀ a' w', After Z w0 acts (drawGo P k L keep ops n f' (l.setIfInBounds j true) K) r G w a' w' → (keep = true → keepsBlocks P L o.op = true → AfterK Z w0 acts (drawGo P k L keep ops n f' (l.setIfInBounds j true) K) r G (Live s.blocks) w a' w') → Same G (fun b => (keep = true ∧ prem P L ops l (l.setIfInBounds j true)) ∧ Live s.blocks b) w w' ∧ wpAnyL P ops Q (fun l' w' => Same G (fun b => (keep = true ∧ prem P L ops l l') ∧ Live s.blocks b) w w') f' (l.setIfInBounds j true) a' w' := by
                      intro a' w' h1 h2
                      by_cases hk : keep = true ∧ keepsBlocks P L o.op = true
                      · have hcf : changes P L ops j = false := by rw [hcj, hk.2]; rfl
                        obtain ⟨E', s', e', F', G', q1, q2, q3, q4, q5, q6, q7⟩ := h2 hk.1 hk.2
                        refine ⟨⟨q4.same, fun b hb => q7 b hb.2⟩, wpAnyL_mono f' _ a' w' (fun l2 w2 _ _ h3 => ⟨fun b i hb => (h3.cell b i (q4.sub b i hb)).trans (q4.same b i hb), fun b hb => ?_⟩) (ih f' _ E' s' F' e' a' w' G' q1 q2 q3)⟩
                        have := h3.blk b ⟨⟨hb.1.1, (prem_set' hcf).2 hb.1.2⟩, (q6 b).2 hb.2⟩
                        rw [q5] at this
                        exact this.trans (q7 b hb.2)
                      · obtain ⟨E', s', e', F', G', q1, q2, q3, q4⟩ := h1
                        have hno : ∀ l2 : Array Bool, l2.getD j true = true → ¬ (keep = true ∧ prem P L ops l l2) := fun l2 h2' hb => by
                          have hch : changes P L ops j = true := by
                            rw [hcj]
                            cases hx : keepsBlocks P L o.op with
                            | false => rfl
                            | true => exact absurd ⟨hb.1, hx⟩ hk
                          exact prem_no hch hjun h2' hb.2
                        exact ⟨⟨q4.same, fun b hb => absurd hb.1 (hno _ hset)⟩, wpAnyL_mono f' _ a' w' (fun l2 w2 _ hsub h3 => ⟨fun b i hb => (h3.cell b i (q4.sub b i hb)).trans (q4.same b i hb), fun b hb => absurd hb.1 (hno _ (hsub j hset))⟩) (ih f' _ E' s' F' e' a' w' G' q1 q2 q3)⟩
                    unfold step at h
                    split at h
                    · cases h
                    rename_i hd0
                    have hd := dstOk_spec (s := s) (o := o) (by simpa using hd0)
                    have chg : ∀ {F : E → Option R}, ¬ (keep = true ∧ keepsBlocks P L o.op = true) → (if isMut (marked L) s o.op = true then mutate P (marked L) s o (drawGo P k L keep ops n f' (l.setIfInBounds j true) K) else change P s o (drawGo P k L keep ops n f' (l.setIfInBounds j true) K)) = some F → F e = some r → o.wp P a w (fun a' w' => Same G (fun b => (keep = true ∧ prem P L ops l (l.setIfInBounds j true)) ∧ Live s.blocks b) w w' ∧ wpAnyL P ops Q (fun l' w' => Same G (fun b => (keep = true ∧ prem P L ops l l') ∧ Live s.blocks b) w w') f' (l.setIfInBounds j true) a' w') Q := by
                      intro F hk h hF
                      obtain ⟨nx, v, w', hrun, hnx, haft⟩ := chgmut_sound h hF hr hd
                      unfold Oper.wp
                      rw [hrun]
                      rcases hnx with rfl | ⟨rfl, rfl⟩
                      · exact cont _ _ haft (fun hk' hk2 => absurd ⟨hk', hk2⟩ hk)
                      · exact cont _ _ haft (fun hk' hk2 => absurd ⟨hk', hk2⟩ hk)
                    split at h
                    · rename_i c hq
                      obtain ⟨fn, hK1, hc, hf⟩ := guardIf_spec h hF
                      obtain ⟨v, hv, hy⟩ := quiet_sound (n := fun _ => True) (o := o) (a := a) hq hc hr.tm hr.blk (fun _ _ _ => trivial)
                      unfold Oper.wp
                      rw [hy w (.refl _ _ _)]
                      have hk : AfterK Z w0 acts (drawGo P k L keep ops n f' (l.setIfInBounds j true) K) r G (Live s.blocks) w (a.put o.dst v) w := ⟨E, _, e, fn, G, hK1, hf, hr.put hd hv, .refl _ _, rfl, (fun b => by rw [put_blocks]), fun b _ => rfl⟩
                      exact cont _ _ hk.to (fun _ _ => hk)
                    · split at h
                      · rename_i j2 vs hcs
                        obtain ⟨i, av, f2, h1, h2, h3, h4⟩ := caseK_spec h hF
                        rw [Nat.zero_add] at h2
                        obtain ⟨v, hv, hrun⟩ := caseOut_run hcs hr.tm i av h1 h2
                        unfold Oper.wp
                        rw [hrun]
                        have hk : AfterK Z w0 acts (drawGo P k L keep ops n f' (l.setIfInBounds j true) K) r G (Live s.blocks) w (a.put o.dst v) w := ⟨E, _, e, f2, G, h3, h4, hr.put hd hv, .refl _ _, rfl, (fun b => by rw [put_blocks]), fun b _ => rfl⟩
                        exact cont _ _ hk.to (fun _ _ => hk)
                      split at h
                      · rename_i kd y ks vs z hcs
                        obtain ⟨v, av, f2, hrun, hv, h3, h4⟩ := lookCase_sound hcs h hF hr.tm hr.blk
                        unfold Oper.wp
                        rw [hrun]
                        have hk : AfterK Z w0 acts (drawGo P k L keep ops n f' (l.setIfInBounds j true) K) r G (Live s.blocks) w (a.put o.dst v) w := ⟨E, _, e, f2, G, h3, h4, hr.put hd hv, .refl _ _, rfl, (fun b => by rw [put_blocks]), fun b _ => rfl⟩
                        exact cont _ _ hk.to (fun _ _ => hk)
                      split at h
                      · rename_i c hop
                        split at h
                        · rename_i fo hcal
                          unfold callOut at h
                          have hfr := ev_rel hr.tm fo
                          split at h
                          · rename_i g caps hfn
                            rw [hfn] at hfr
                            obtain ⟨us, hfv, hus⟩ := hfr
                            split at h
                            · rename_i hcl
                              have hargs : AV.Rels G w e (c.args.toList.map s.ev ++ caps) ((c.args.map a.eval ++ us).toList) := by
                                rw [Array.toList_append, Array.toList_map]
                                exact (evs_rel hr.tm _).append hus
                              have hrun : (execOp a.eval o).run P w = .ok (.enter g (c.args.map a.eval ++ us)) w := by
                                have h1 := callable_run hcl (c.args.map a.eval ++ us) w
                                unfold execOp
                                simp only [hop, resolve, hcal, hfv, Deferred.ofValue, Sem.run_bind, Sem.run_pure, Result.andThen_ok, invoke, Array.empty_append, h1]
                              unfold Oper.wp
                              rw [hrun, Oper.upon_enter]
                              split at h
                              · rename_i S hS
                                refine (callSpec_soundK (show S.Sound P T g from hL g (.fn S) hS) h hF hr (hT w hr.bel) hd hargs).mono ?_
                                rintro en w' ⟨v, rfl, haft⟩
                                exact cont _ _ haft.to (fun _ _ => haft)
                              · rename_i X hXs
                                refine (callX_sound (show X.OK P g from hL g (.x X) hXs) h hF hr hd hargs).mono ?_
                                rintro en w' ⟨v, rfl, haft, hk⟩
                                refine cont _ _ haft (fun hkt hk2 => hk fun T hT' => hkeep ?_)
                                subst hT'
                                rw [hkt, hk2]
                                simp [isCopy, hop, hcal, hfn, hXs]
                              · rename_i S hS
                                refine (callRef_sound (show S.Sound P T g from hL g (.ref S) hS) h hF hr hT hd hargs).mono ?_
                                rintro en w' ⟨v, rfl, haft⟩
                                exact cont _ _ haft (fun _ hk2 => by rw [keeps_ref hop hcal hfn hS] at hk2; cases hk2)
                              · cases h
                              · cases h
                              · cases h
                            · cases h
                          · cases h
                        · rename_i hncal
                          refine chg (fun hk => hkeep ?_) h hF
                          rw [hk.1, hk.2, Bool.true_and, Bool.true_and, Bool.or_eq_true]
                          refine .inl ?_
                          cases hcc : c.callee with
                          | value fo => exact absurd hcc (hncal fo)
                          | invoke x m => simp [isCallV, hop, hcc]
                          | builtin b => simp [isCallV, hop, hcc]
                      · rename_i hnop
                        refine chg (fun hk => hkeep ?_) h hF
                        rw [hk.1, hk.2, Bool.true_and, Bool.true_and, Bool.or_eq_true]
                        refine .inl ?_
                        cases hoo : o.op with
                        | call c => exact absurd hoo (hnop c)
                        | _ => simp [isCallV]
                · cases h
              · cases h
end
end Go.Proofs.YtmmbedlegmbppaaDoor.R
/- The compiler is right: what a function's plain form tells, the function returns. -/
namespace Go.Proofs.YtmmbedlegmbppaaDoor.R
open Go Go.RowKit
set_option linter.unusedVariables false
set_option linter.unusedSimpArgs false
/-- A loop that so many rounds end. -/
theorem wp_loop_rounds {P : Program} {Q : Exit → Act → World → Prop} {c : Code} (J : Nat → Act → World → Prop) {k : Nat} {a : Act} {w : World} (h0 : J k a w)
    (round : ∀ j a w, J j a w → c.wp P (Exit.then (fun a' w' => ∃ j', j' < j ∧ J j' a' w') Q) a w) : (Code.loop c).wp P Q a w := by
  have least : ∀ (p : Nat → Prop) (n : Nat), p n → ∃ m, p m ∧ ∀ i, i < m → ¬ p i := by
    intro p n
    induction n using Nat.strongRecOn with
    | _ n ih =>
      intro hp
      by_cases h : ∃ i, i < n ∧ p i
      · obtain ⟨i, hi, hpi⟩ := h; exact ih i hi hpi
      · exact ⟨n, hp, fun i hi hpi => h ⟨i, hi, hpi⟩⟩
  have ex : ∀ a w, ∃ m, (∃ j, J j a w) → J m a w ∧ ∀ i, i < m → ¬ J i a w := by
    intro a w
    by_cases h : ∃ j, J j a w
    · obtain ⟨j, hj⟩ := h
      obtain ⟨m, h1, h2⟩ := least (fun j => J j a w) j hj
      exact ⟨m, fun _ => ⟨h1, h2⟩⟩
    · exact ⟨0, fun h' => absurd h' h⟩
  refine wp_loop (fun a w => ∃ j, J j a w) (fun a w => Classical.choose (ex a w)) ⟨k, h0⟩ fun a w hI => ?_
  obtain ⟨h1, h2⟩ := Classical.choose_spec (ex a w) hI
  refine wp_mono (round _ a w h1) fun en a' w' hq => ?_
  cases en with
  | normal =>
    obtain ⟨j', hj, hJ⟩ := hq
    refine ⟨⟨j', hJ⟩, ?_⟩
    obtain ⟨g1, g2⟩ := Classical.choose_spec (ex a' w') ⟨j', hJ⟩
    rcases Nat.lt_or_ge j' (Classical.choose (ex a' w')) with h | h
    · exact absurd hJ (g2 j' h)
    · omega
  | _ => exact hq
section
variable {P : Program} {w0 : World} {Z : Zf} {R : Type} {r : R}
theorem iter_succ {V : Type} {f : (V → Option R) → V → Option R} {k : Nat} {v : V} (h : iter f k v = some r) : ∃ j, k = j + 1 ∧ f (iter f j) v = some r := by
  cases k with
  | zero => cases h
  | succ j => exact ⟨j, rfl, h⟩
theorem lookup_kok {acts : List (Array Value)} {Kx : List (Nat × Kont R)} {id : Nat} {K : Kont R} {Q : Exit → Act → World → Prop} (hx : ∀ j K, Kx.lookup j = some K → KOK Z w0 acts r K (Q (.exit j))) (hn : KOK Z w0 acts r K (Q .normal)) :
    ∀ j K', ((id, K) :: Kx).lookup j = some K' → KOK Z w0 acts r K' (Exit.inBlock id Q (.exit j)) := by
  intro j K' h
  rw [List.lookup_cons] at h
  split at h
  · rename_i hj
    have hj' : j = id := by simpa using hj
    cases h
    subst hj'
    intro a w ha
    simp only [Exit.inBlock, if_true]
    exact hn a w ha
  · rename_i hj
    have hj' : ¬ j = id := by simpa using hj
    intro a w ha
    simp only [Exit.inBlock, if_neg hj']
    exact hx j K' h a w ha
/-- One result. -/
def resStep (t : Array Value) : ResultVar → Sem Value
  | .tmp u => pure (t.getD u undef)
  | .cell u ty => do loadVar ty (← asAddr (t.getD u undef))
theorem results_eq (fn : Func) (t : Array Value) : results fn t = (fn.results.mapM (resStep t) >>= fun vs => pure (if h : vs.size = 1 then vs[0] else .tuple vs)) := by
  unfold results
  congr 1
/-- What a function hands back. -/
theorem res_run {E : Type} {G : Gh} {w : World} {e : E} {s : St E} {t : Array Value} (ht : EnvRel G w e s.tmps t) (hb : BlksRel G w e s.blocks) : ∀ (l : List ResultVar) (rs : List (AV E)), resOf P s l = some rs →
    ∃ vs, AV.Rels G w e rs vs ∧ (l.mapM (resStep t)).run P w = Result.ok vs w
  | [], rs, h => by
    simp only [resOf, Option.some.injEq] at h
    subst h
    exact ⟨[], rfl, by simp⟩
  | .tmp u :: l, rs, h => by
    simp only [resOf, Option.map_eq_some_iff] at h
    obtain ⟨rs', h1, rfl⟩ := h
    obtain ⟨vs, h2, h3⟩ := res_run ht hb l rs' h1
    refine ⟨t.getD u undef :: vs, .cons (ht u) h2, ?_⟩
    rw [List.mapM_cons]
    simp only [resStep, Sem.run_bind, Sem.run_pure, Result.andThen_ok, h3]
  | .cell u ty :: l, rs, h => by
    simp only [resOf, Option.bind_eq_some_iff] at h
    obtain ⟨c, hc, rs', h1, h⟩ := h
    obtain rfl := Option.some.inj h
    obtain ⟨vs, h2, h3⟩ := res_run ht hb l rs' h1
    obtain ⟨v, hv, hrun⟩ := load_run (n := fun _ => True) hc (ht u) hb (fun _ _ _ _ _ => trivial)
    have hrun' := hrun w (.refl _ _ _)
    have hp : ∃ ad, t.getD u undef = .pointer (some ad) := by
      have hu := ht u
      unfold loadOut at hc
      split at hc
      · rename_i b o hx; rw [hx] at hu; exact ⟨_, hu.2⟩
      · rename_i cs hx; rw [hx] at hu; obtain ⟨g, o, hg, _⟩ := hu; exact ⟨_, hg⟩
      · cases hc
    obtain ⟨ad, had⟩ := hp
    have hl : (loadVar ty ad).run P w = .ok v w := by
      rw [had] at hrun'
      simpa [Instr.loadAt, Instr.sureAddr] using hrun'
    refine ⟨v :: vs, .cons hv h2, ?_⟩
    rw [List.mapM_cons]
    simp only [resStep, Sem.run_bind, Sem.run_pure, Result.andThen_ok, had, asAddr, hl, h3]
theorem results_run {E : Type} {G : Gh} {w : World} {e : E} {s : St E} {t : Array Value} (ht : EnvRel G w e s.tmps t) (hb : BlksRel G w e s.blocks) {fn : Func} {rs : List (AV E)} (h : resOf P s fn.results.toList = some rs) :
    ∃ vs, AV.Rels G w e rs vs ∧ (results fn t).run P w = .ok (packV vs) w := by
  obtain ⟨vs, h1, h2⟩ := res_run ht hb _ rs h
  refine ⟨vs, h1, ?_⟩
  have h3 : (fn.results.mapM (resStep t)).run P w = .ok vs.toArray w := by
    rw [Array.mapM_eq_mapM_toList]
    show (List.toArray <$> (fn.results.toList.mapM (resStep t)) : Sem (Array Value)).run P w = _
    simp only [Sem.run_map, h2]
    rfl
  rw [results_eq]
  simp only [Sem.run_bind, h3, Result.andThen_ok, Sem.run_pure]
  congr 1
  match vs with
  | [] => rfl
  | [v] => rfl
  | v :: u :: vs => simp [packV]
theorem argEnv_get {E : Type} {G : Gh} {w : World} {e : E} : ∀ (args : List (AV E)) (i : Nat) (vs : List Value) (t : Array Value), AV.Rels G w e args vs → (∀ j v, vs[j]? = some v → t.getD (i + j) undef = v) → EnvRel G w e (argEnv i args) t
  | [], i, vs, t, h, ht => fun u => trivial
  | c :: args, i, vs, t, h, ht => by
    obtain ⟨v, q, rfl, h1, h2⟩ := h
    intro u
    unfold argEnv Env.get
    by_cases hu : i = u
    · subst hu
      rw [if_pos rfl]
      have := ht 0 v rfl
      rw [Nat.add_zero] at this
      rw [this]; exact h1
    · rw [if_neg hu]
      exact argEnv_get args (i + 1) q t h2 (fun j v hj => by
        have := ht (j + 1) v (by simpa using hj)
        rw [show i + (j + 1) = i + 1 + j by omega] at this
        exact this) u
theorem Env.get_without {E : Type} (c : List Nat) : ∀ (l : Env E) (t : Nat), (l.without c).get t = if t ∈ c then .undef else l.get t
  | [], t => by simp [Env.without, Env.get]
  | (u, v) :: l, t => by
    unfold Env.without
    split
    · rename_i hu
      rw [Env.get_without c l t]
      by_cases ht : t ∈ c
      · rw [if_pos ht, if_pos ht]
      · rw [if_neg ht, if_neg ht]
        have : ¬ u = t := fun h => ht (by rw [← h]; simpa using hu)
        conv => rhs; unfold Env.get
        rw [if_neg this]
    · rename_i hu
      unfold Env.get
      by_cases hut : u = t
      · rw [if_pos hut, if_pos hut, if_neg (by rw [← hut]; simpa using hu)]
      · rw [if_neg hut, if_neg hut, Env.get_without c l t]
theorem fragK_sound {E : Type} {G : Gh} {w : World} {e : E} {s : St E} {a : Act} {acts : List (Array Value)} {K : Kont R} {k : Nat} {S : FSpec} {T : World → Prop} {c : Code} {F : E → Option R} (hS : S.Sound P T) (h : fragK k S c s K = some F) (hF : F e = some r)
    (hr : RelG Z w0 s e acts a w G) (hT : T w) {Q : Exit → Act → World → Prop} (hK : KOK Z w0 acts r K (Q .normal)) : ∃ c1 c2 c3, c = .seq c1 (.seq c2 c3) ∧ c1.wp P (Exit.then (c2.wp P (Exit.then (c3.wp P Q) Q)) Q) a w := by
  unfold fragK at h
  split at h
  · rename_i hsz
    rw [Bool.and_eq_true, decide_eq_true_eq, decide_eq_true_eq] at hsz
    split at h
    · rename_i b hm
      split at h
      · rename_i kd vd x hbk
        split at h
        · rename_i h1
          split at h
          · rename_i h2
            subst h1
            subst h2
            rw [Option.map_eq_some_iff] at h
            obtain ⟨f, hf, rfl⟩ := h
            have hF2 : fragO c (.seq S.code (.seq S.then_ S.last_)) (bindO (S.F k (x e)) fun y => f (e, y)) = some r := hF
            clear hF
            obtain ⟨hcc, hF3⟩ := fragO_some hF2
            clear hF2
            subst hcc
            simp only [bindO, Option.bind_eq_some_iff] at hF3
            obtain ⟨y, hy, hF⟩ := hF3
            have hv := hr.tm S.m
            rw [hm] at hv
            obtain ⟨_, hmv⟩ := hv
            obtain ⟨us, ⟨ens, clk, hmm, rfl, hbo⟩, hus, hno⟩ := hr.blk b _ hbk
            obtain ⟨u, r', hu, ⟨us', hv', h1'⟩, _⟩ := hus
            obtain ⟨rfl, _⟩ := List.cons.inj hu
            simp only [Value.agg.injEq] at hv'
            rw [← hv', Array.toList_map] at h1'
            refine ⟨_, _, _, rfl, ?_⟩
            refine hS k (x e) y hy G.Φ a w (G.ρ b) ens clk Q hT hr.fz hr.defers (hr.size.trans hsz.1) hmv hmm (MapIs.of_ents h1') hbo ?_
            intro a' w' v Φ' g1 g2 g3 g4 hb q1 q2 q3 q4
            refine hK a' w' ⟨E × S.res.den, _, (e, y), f, { G with Φ := Φ' }, hf, hF, ?_⟩
            have hfz : FExt G.Φ w Φ' w' := ⟨q1, fun b i hbi => hb.cell (p := ⟨b, i, none⟩) (hr.fz b i hbi)⟩
            have hx : GExt G w { G with Φ := Φ' } w' := ⟨hfz, Nat.le_refl _, Nat.le_refl _, rfl, fun _ _ => rfl, fun j hj bo hbo => ⟨hbo, fun g hg => by
              subst hg
              have hlt := (hr.tlo j g hj hbo).2.1
              exact ⟨hb.block g hlt, fun i hi => q2 g i hlt hi⟩⟩⟩
            have hlive : ∀ b, Live s.blocks b → G.ρ b < w.heap.size := by
              rintro b ⟨el, cs, hl⟩
              obtain ⟨us, hk, _⟩ := hr.blk b _ hl
              obtain ⟨ob, hh⟩ := hk.some
              exact (Array.getElem?_eq_some_iff.1 hh).1
            have hr1 : RelG Z w0 s e acts a w' { G with Φ := Φ' } := hr.ext hx (hr.bel.trans (hb.mono (hr.bel.size))) rfl rfl q3 (fun b hl => ⟨hb.block _ (hlive b hl), fun i hi => by
              obtain ⟨el, cs, hl'⟩ := id hl
              obtain ⟨us, _, _, hn⟩ := hr.blk b _ hl'
              exact hn i (q2 _ i (hlive b hl) hi)⟩) hb.size (fun _ _ => rfl) (fun b i hb0 hi => q2 b i (Nat.lt_of_lt_of_le hb0 hr.bel.size) hi)
            have hr2 : RelG Z w0 { s with tmps := s.tmps.without (S.d :: S.clob) } e acts a' w' { G with Φ := Φ' } := ⟨hr1.B, hr1.bel, g1, g2.trans hr1.size, hr1.nb, hr1.nt, hr1.fz, fun t => by
              show ((s.tmps.without (S.d :: S.clob)).get t).Rel _ _ _ _
              rw [Env.get_without]
              by_cases ht : t ∈ S.d :: S.clob
              · rw [if_pos ht]; trivial
              · rw [if_neg ht, g3 t ht]; exact hr1.tm t, hr1.stk, hr1.blk, hr1.lo, hr1.inj, hr1.tlo, hr1.tinj, hr1.zz⟩
            have hr3 : RelG Z w0 (({ s with tmps := s.tmps.without (S.d :: S.clob) } : St E).comap (Prod.fst : E × S.res.den → E)) (e, y) acts a' w' { G with Φ := Φ' } := RelG.comap hr2
            refine ⟨hr3.B, hr3.bel, hr3.defers, hr3.size, hr3.nb, hr3.nt, hr3.fz, fun t => ?_, hr3.stk, hr3.blk, hr3.lo, hr3.inj, hr3.tlo, hr3.tinj, hr3.zz⟩
            show ((Env.set _ S.d (.sym S.res Prod.snd)).get t).Rel _ _ _ _
            rw [Env.get_set]
            by_cases ht : t = S.d
            · rw [if_pos ht, ht, g4]; exact q4
            · rw [if_neg ht]; exact hr3.tm t
          · cases h
        · cases h
      · cases h
    · cases h
  · cases h
theorem partK_sound {E : Type} {G : Gh} {w : World} {e : E} {s : St E} {a : Act} {acts : List (Array Value)} {K : Kont R} {k : Nat} {S : GSpec} {T : World → Prop} {c : Code} {F : E → Option R} (hS : S.Sound P T) (h : partK k S c s K = some F) (hF : F e = some r)
    (hr : RelG Z w0 s e acts a w G) (hT : T w) {Q : Exit → Act → World → Prop} (hK : KOK Z w0 acts r K (Q .normal)) : ∃ c1 c2, c = .seq c1 c2 ∧ c1.wp P (Exit.then (c2.wp P Q) Q) a w := by
  unfold partK at h
  split at h
  · rename_i hsz
    rw [Bool.and_eq_true, decide_eq_true_eq, decide_eq_true_eq] at hsz
    obtain ⟨x, hx0, h⟩ := Option.bind_eq_some_iff.1 h
    rw [Option.map_eq_some_iff] at h
    obtain ⟨f, hf, rfl⟩ := h
    have hF2 : fragO c (.seq S.code S.then_) (bindO (S.F k (x e)) fun y => f (e, y)) = some r := hF
    clear hF
    obtain ⟨hcc, hF3⟩ := fragO_some hF2
    clear hF2
    subst hcc
    simp only [bindO, Option.bind_eq_some_iff] at hF3
    obtain ⟨y, hy, hF⟩ := hF3
    have hv := AV.to1_rel hx0 (hr.tm S.m)
    refine ⟨_, _, rfl, ?_⟩
    refine hS k (x e) y hy G.Φ a w Q hT hr.fz hr.defers (hr.size.trans hsz.1) hv ?_
    intro a' w' v Φ' g1 g2 g3 g4 hb q1 q2 q3 q4
    refine hK a' w' ⟨E × S.res.den, _, (e, y), f, { G with Φ := Φ' }, hf, hF, ?_⟩
    have hfz : FExt G.Φ w Φ' w' := ⟨q1, fun b i hbi => hb.cell (p := ⟨b, i, none⟩) (hr.fz b i hbi)⟩
    have hx : GExt G w { G with Φ := Φ' } w' := ⟨hfz, Nat.le_refl _, Nat.le_refl _, rfl, fun _ _ => rfl, fun j hj bo hbo => ⟨hbo, fun g hg => by
      subst hg
      have hlt := (hr.tlo j g hj hbo).2.1
      exact ⟨hb.block g hlt, fun i hi => q2 g i hlt hi⟩⟩⟩
    have hlive : ∀ b, Live s.blocks b → G.ρ b < w.heap.size := by
      rintro b ⟨el, cs, hl⟩
      obtain ⟨us, hk, _⟩ := hr.blk b _ hl
      obtain ⟨ob, hh⟩ := hk.some
      exact (Array.getElem?_eq_some_iff.1 hh).1
    have hr1 : RelG Z w0 s e acts a w' { G with Φ := Φ' } := hr.ext hx (hr.bel.trans (hb.mono (hr.bel.size))) rfl rfl q3 (fun b hl => ⟨hb.block _ (hlive b hl), fun i hi => by
      obtain ⟨el, cs, hl'⟩ := id hl
      obtain ⟨us, _, _, hn⟩ := hr.blk b _ hl'
      exact hn i (q2 _ i (hlive b hl) hi)⟩) hb.size (fun _ _ => rfl) (fun b i hb0 hi => q2 b i (Nat.lt_of_lt_of_le hb0 hr.bel.size) hi)
    have hr2 : RelG Z w0 { s with tmps := s.tmps.without (S.d :: S.clob) } e acts a' w' { G with Φ := Φ' } := ⟨hr1.B, hr1.bel, g1, g2.trans hr1.size, hr1.nb, hr1.nt, hr1.fz, fun t => by
      show ((s.tmps.without (S.d :: S.clob)).get t).Rel _ _ _ _
      rw [Env.get_without]
      by_cases ht : t ∈ S.d :: S.clob
      · rw [if_pos ht]; trivial
      · rw [if_neg ht, g3 t ht]; exact hr1.tm t, hr1.stk, hr1.blk, hr1.lo, hr1.inj, hr1.tlo, hr1.tinj, hr1.zz⟩
    have hr3 : RelG Z w0 (({ s with tmps := s.tmps.without (S.d :: S.clob) } : St E).comap (Prod.fst : E × S.res.den → E)) (e, y) acts a' w' { G with Φ := Φ' } := RelG.comap hr2
    refine ⟨hr3.B, hr3.bel, hr3.defers, hr3.size, hr3.nb, hr3.nt, hr3.fz, fun t => ?_, hr3.stk, hr3.blk, hr3.lo, hr3.inj, hr3.tlo, hr3.tinj, hr3.zz⟩
    show ((Env.set _ S.d (.sym S.res Prod.snd)).get t).Rel _ _ _ _
    rw [Env.get_set]
    by_cases ht : t = S.d
    · rw [if_pos ht, ht, g4]; exact q4
    · rw [if_neg ht]; exact hr3.tm t
  · cases h
theorem comp_sound {k : Nat} {L : Specs} {T : World → Prop} (hL : ∀ f S, L.get f = some S → S.OK P T f) (hT : ∀ w, BelX Z.op w0.heap.size w0 w → T w) :
    ∀ (n : Nat) (h : H) (c : Code) (E : Type) (s : St E) (Kn Kr : Kont R) (Kx : List (Nat × Kont R)) (F : E → Option R) (e : E) (acts : List (Array Value)) (a : Act) (w : World) (G : Gh) (Q : Exit → Act → World → Prop),
      comp P k L n h c E s Kn Kr Kx = some F → F e = some r → RelG Z w0 s e acts a w G → (∀ ch a w, ¬ Q (.panic ch) a w) → KOK Z w0 acts r Kn (Q .normal) → KOK Z w0 acts r Kr (Q .ret) → (∀ id K, Kx.lookup id = some K → KOK Z w0 acts r K (Q (.exit id))) → c.wp P Q a w := by
  intro n
  induction n with
  | zero => intro h c E s Kn Kr Kx F e acts a w G Q hc; cases hc
  | succ n ih =>
    intro h c E s Kn Kr Kx F e acts a w G Q hc hF hr hQ hn hre hx
    unfold comp at hc
    split at hc
    · obtain rfl := Option.some.inj hc
      cases hF
    rename_i hns
    clear hns
    split at hc
    · rename_i ha hb _
      unfold orE at hc
      split at hc
      · rename_i F0 h0
        obtain rfl := Option.some.inj hc
        exact ih ha c E s Kn Kr Kx _ e acts a w G Q h0 hF hr hQ hn hre hx
      · exact ih hb c E s Kn Kr Kx _ e acts a w G Q hc hF hr hQ hn hre hx
    rename_i hna
    clear hna
    split at hc
    · exact wp_skip (hn a w ⟨E, s, e, F, G, hc, hF, hr⟩)
    · exact wp_ret (hre a w ⟨E, s, e, F, G, hc, hF, hr⟩)
    · rename_i id
      rw [Option.bind_eq_some_iff] at hc
      obtain ⟨K, hK, hc⟩ := hc
      exact wp_exit (hx id K hK a w ⟨E, s, e, F, G, hc, hF, hr⟩)
    · -- a region
      rename_i rid ops draw
      have hinl : ∀ i, InlOK P Z w0 acts r (inlGo P (fun h' body E s back => comp P k L n h' body E s back back []) h i) := by
        intro i
        intro E s g args dst K F e a w G vs h4 h5 h6 h7 h8
        unfold inlGo at h4
        split at h4
        · rename_i h' fn hh hfn
          split at h4
          · rename_i body hbody
            split at h4
            · rename_i hlen
              refine calls_of_wp hfn hbody ?_
              have hvl := h8.length
              rw [Array.length_toList] at hvl
              have hr2 : RelG Z w0 { s with tmps := argEnv 0 args, size := fn.ntmps, stack := s.tmps :: s.stack } e (a.tmps :: acts) { tmps := vs ++ Array.replicate (fn.ntmps - vs.size) undef, defers := [] } w G :=
                ⟨h6.B, h6.bel, rfl, by simp; omega, h6.nb, h6.nt, h6.fz, argEnv_get args 0 vs.toList _ h8 (fun j v hj => by
                  rw [Array.getElem?_toList] at hj
                  have hjl := (Array.getElem?_eq_some_iff.1 hj).1
                  rw [Nat.zero_add, Array.getD_eq_getD_getElem?, Array.getElem?_append_left hjl, hj]; rfl), ⟨a.tmps, acts, rfl, h6.tm, h6.stk⟩, h6.blk, h6.lo, h6.inj, h6.tlo, h6.tinj, h6.zz⟩
              have hback : ∀ (Q' : Act → World → Prop), (∀ a' w', a'.defers = [] → (∃ v, (results fn a'.tmps).run P w' = .ok v w' ∧ After0 Z w0 acts K r (a.put dst v) w') → Q' a' w') →
                  KOK Z w0 (a.tmps :: acts) r (fun E' s' => match resOf P s' fn.results.toList, s'.stack with
                    | some rs, top :: rest => K E' ({ s' with tmps := top, size := s.size, stack := rest }.put dst (oneOrTup rs))
                    | _, _ => none) Q' := by
                intro Q' hQ' a' w' haft
                obtain ⟨E', s', e', F', G', q1, q2, q3⟩ := haft
                simp only at q1
                split at q1
                · rename_i rs top rest hrs hst
                  obtain ⟨vs', r1, r2⟩ := results_run q3.tm q3.blk hrs
                  refine hQ' a' w' q3.defers ⟨_, r2, E', _, e', F', G', q1, q2, ?_⟩
                  have hstk := q3.stk
                  rw [hst] at hstk
                  obtain ⟨t, ts, ht, g1, g2⟩ := hstk
                  simp only [List.cons.injEq] at ht
                  obtain ⟨rfl, rfl⟩ := ht
                  have hr3 : RelG Z w0 { s' with tmps := top, size := s.size, stack := rest } e' acts a w' G' := ⟨q3.B, q3.bel, h6.defers, h6.size, q3.nb, q3.nt, q3.fz, g1, g2, q3.blk, q3.lo, q3.inj, q3.tlo, q3.tinj, q3.zz⟩
                  exact hr3.put h7 (packs_rel r1)
                · cases q1
              refine ih h' body E _ _ _ _ F e (a.tmps :: acts) _ w G _ h4 h5 hr2 ?_ (hback _ ?_) (hback _ ?_) (fun id K' hk => by simp at hk)
              · rintro ch a' w' ⟨_, v, hv, _⟩; cases hv
              · rintro a' w' hd ⟨v, hv, haft⟩
                exact ⟨hd, v, hv, v, rfl, haft⟩
              · rintro a' w' hd ⟨v, hv, haft⟩
                exact ⟨hd, v, hv, v, rfl, haft⟩
            · cases h4
          · cases h4
        · cases h4
      split at hc
      · rename_i hdraw
        split at hc
        · rename_i hck
          rw [Bool.and_eq_true] at hck
          rw [hdraw]
          have hxd : GExt G w G { w with drawn := w.drawn + 1 } := ⟨⟨fun _ _ h => h, fun _ _ _ => rfl⟩, Nat.le_refl _, Nat.le_refl _, rfl, fun _ _ => rfl, fun _ _ _ h => ⟨h, fun _ _ => ⟨rfl, fun _ h => h⟩⟩⟩
          have hr' : RelG Z w0 s e acts a { w with drawn := w.drawn + 1 } G := ⟨hr.B, hr.bel.trans ⟨rfl, rfl, rfl, Nat.le_refl _, fun _ _ => rfl⟩, hr.defers, hr.size, hr.nb, hr.nt, hr.fz, hr.tm.mono hxd, hr.stk.mono hxd, (fun b B hB => by
            have h0 := hr.blk b B hB
            cases B with
            | dead => trivial
            | cells el cs => obtain ⟨us, h1, h2, h3⟩ := h0; exact ⟨us, h1, AV.Rels.mono hxd _ _ h2, h3⟩), hr.lo, hr.inj, hr.tlo, hr.tinj, hr.zz⟩
          split at hc
          · -- the last one is inlined
            rename_i o hlast
            obtain ⟨ho, hgd, hsk, hpos⟩ : ops[ops.size - 1]? = some o ∧ o.guard = none ∧ sinkOK ops = true ∧ 0 < ops.size := by
              unfold lastInl at hlast
              split at hlast
              · rename_i o' ho'
                split at hlast
                · rename_i hh
                  obtain rfl := Option.some.inj hlast
                  simp only [Bool.and_eq_true, decide_eq_true_eq, Option.isNone_iff_eq_none] at hh
                  exact ⟨ho', hh.1.1.1, hh.1.2, hh.2⟩
                · cases hlast
              · cases hlast
            have hK := sinkOK_spec hsk hpos
            let Q' : Exit → Act → World → Prop := fun x a' w' => match x with
              | .normal => wpAny P .any ops Q 1 ((lastJ ops).map not) a' w'
              | x => Q x a' w'
            refine wp_region_any hck.2 ?_
            have h1 := wpAny_of_L _ _ _ _ (drawGo_sound (Q := Q') hL hT hck.1 hQ (fun a' w' hA => by
              obtain ⟨E', s', e', F', G', q1, q2, q3⟩ := hA
              obtain ⟨G1, hr1, _⟩ := RelG.frees (AV.opens (toShut L s' o.op)) q3
              exact wpAny_one hK ho hgd (Oper.wp_mono (fun a'' w'' h => hn a'' w'' h) (step_sound hL hT (hinl _) q1 q2 hr1))) _ _ _ E s F e a _ G hc hF hr')
            have h2 := wpAny_last (Q := Q) (Q' := Q') hK (fun _ _ _ h => h) (fun h => h) (fun _ _ h => h) (ops.size - 1) (Array.replicate ops.size false) (lastJ ops) a _ (by simp) (lastJ_size hpos) (fun i hi => by
              rw [lastJ_get hpos hi]
              simp [Array.getD, hi]) (by simp [Array.getD]; omega) (fun i o ho hd => by
              have := (Array.getElem?_eq_some_iff.1 ho).1
              simp [Array.getD, this] at hd) h1
            rwa [Nat.sub_add_cancel hpos] at h2
          rename_i hnlast
          clear hnlast
          split at hc
          · rename_i hsp
            rw [Bool.and_eq_true, Bool.and_eq_true] at hsp
            obtain ⟨⟨hsp1, _⟩, hsp3⟩ := hsp
            have hJ := splitOK_spec hsp1
            have hsz : heads (tailOf P L ops) + tails (tailOf P L ops) = ops.size := by simpa using hsp3
            let Q' : Exit → Act → World → Prop := fun x a' w' => match x with
              | .normal => wpAny P .any ops Q (tails (tailOf P L ops)) ((tailOf P L ops).map not) a' w'
              | x => Q x a' w'
            refine wp_region_any hck.2 ?_
            have h1 := wpAny_of_L _ _ _ _ (drawGo_sound (Q := Q') hL hT hck.1 hQ (fun a' w' hA => by
              obtain ⟨E', s', e', F', G', q1, q2, q3⟩ := hA
              exact wpAny_of_L _ _ _ _ (drawGo_sound hL hT hck.1 hQ hn _ _ _ E' s' F' e' a' w' G' q1 q2 q3)) _ _ _ E s F e a _ G hc hF hr')
            have h2 := wpAny_split (Q := Q) (Q' := Q') hJ (fun _ _ _ h => h) (fun h => h) (tails (tailOf P L ops)) (fun _ _ h => h) (heads (tailOf P L ops)) (Array.replicate ops.size false) (tailOf P L ops) a _ (by simp) hJ.size (fun i hi => by
              rw [getD_in (by rw [hJ.size]; exact hi) true false]; simp [Array.getD, hi]) (fun i hi _ => by simp [Array.getD, hi]) h1
            rwa [hsz] at h2
          · exact wp_region_any hck.2 (wpAny_of_L _ _ _ _ (drawGo_sound hL hT hck.1 hQ hn _ _ _ E s F e a _ G hc hF hr'))
        · cases hc
      · rename_i hdraw
        rw [Bool.eq_false_iff.2 hdraw]
        refine wp_region_list ?_
        refine stepList_sound (fun i o K E s F e a w G h1 h2 h3 => ?_) ops.toList 0 Kn E s F e a w G hc hF hr hn
        obtain ⟨G1, hr1, _⟩ := RelG.frees (AV.opens (toShut L s o.op)) h3
        exact step_sound hL hT (hinl i) h1 h2 hr1
    · -- a block
      rename_i id body
      refine wp_block (ih h body E s Kn Kr _ F e acts a w G _ hc hF hr (fun ch a w => hQ ch a w) (fun a w ha => hn a w ha) (fun a w ha => hre a w ha) (lookup_kok hx hn))
    · -- one behind the other
      rename_i c1 c2
      have back : ∀ (Kn' : Kont R), KOK Z w0 acts r Kn' (c2.wp P Q) → ∀ ha, comp P k L n ha c1 E s Kn' Kr Kx = some F → (Code.seq c1 c2).wp P Q a w := by
        intro Kn' hk ha h1
        exact wp_seq (ih ha c1 E s Kn' Kr Kx F e acts a w G _ h1 hF hr (fun ch a w => hQ ch a w) hk (fun a w h => hre a w h) (fun id K hK a w h => hx id K hK a w h))
      split at hc
      · rename_i ha hb
        refine back _ ?_ ha hc
        rintro a' w' ⟨E', s', e', F', G', q1, q2, q3⟩
        exact ih hb c2 E' s' Kn Kr Kx F' e' acts a' w' G' Q q1 q2 q3 hQ hn hre hx
      · rename_i S ha hb
        refine back _ ?_ ha hc
        rintro a' w' ⟨E', s', e', F', G', q1, q2, q3⟩
        rw [Option.map_eq_some_iff] at q1
        obtain ⟨lv, t1, rfl⟩ := q1
        obtain ⟨G2, t2, _⟩ := take_sound t1 q3
        simp only [jn] at q2
        cases hB : comp P k L n hb c2 S.V (S.make s.size) Kn Kr Kx with
        | none => rw [hB] at q2; cases q2
        | some B =>
          rw [hB] at q2
          exact ih hb c2 S.V (S.make s.size) Kn Kr Kx B (lv e') acts a' w' G2 Q hB q2 t2 hQ hn hre hx
      · -- a part that is told by hand
        rename_i f ha
        split at hc
        · rename_i S hS
          split at hc
          · rename_i b1 b2 b3
            obtain ⟨d1, d2, d3, he, h1⟩ := fragK_sound (Q := Exit.then (b3.wp P Q) Q) (hL f (.frag S) hS) hc hF hr (hT w hr.bel) (fun a' w' haft => by
              obtain ⟨E', s', e', F', G', q1, q2, q3⟩ := haft
              exact ih ha b3 E' s' Kn Kr Kx F' e' acts a' w' G' Q q1 q2 q3 hQ hn hre hx)
            cases he
            refine wp_seq (wp_mono h1 ?_)
            intro x a' w' h
            cases x with
            | normal =>
              refine wp_seq (wp_mono (show b1.wp P _ a' w' from h) ?_)
              intro x a' w' h
              cases x with
              | normal => exact wp_seq h
              | _ => exact h
            | _ => exact h
          · cases hc
        · rename_i S hS
          split at hc
          · rename_i b1 b2
            obtain ⟨d1, d2, he, h1⟩ := partK_sound (Q := Exit.then (b2.wp P Q) Q) (hL f (.part S) hS) hc hF hr (hT w hr.bel) (fun a' w' haft => by
              obtain ⟨E', s', e', F', G', q1, q2, q3⟩ := haft
              exact ih ha b2 E' s' Kn Kr Kx F' e' acts a' w' G' Q q1 q2 q3 hQ hn hre hx)
            cases he
            refine wp_seq (wp_mono h1 ?_)
            intro x a' w' h
            cases x with
            | normal => exact wp_seq h
            | _ => exact h
          · cases hc
        · cases hc
      · cases hc
    · -- a choice
      rename_i x c1 c2
      split at hc
      · rename_i ha hb
        have hv := ev_rel hr.tm x
        split at hc
        · rename_i hx1
          rw [hx1] at hv
          exact wp_cond_true hv (ih ha c1 E s Kn Kr Kx F e acts a w G Q hc hF hr hQ hn hre hx)
        · rename_i hx1
          rw [hx1] at hv
          exact wp_cond_false hv (ih hb c2 E s Kn Kr Kx F e acts a w G Q hc hF hr hQ hn hre hx)
        · rename_i y hx1
          rw [hx1] at hv
          have hv' : a.eval x = .bool (y e) := (List.cons.inj hv).1
          unfold splitB at hc
          split at hc
          · rename_i f g hf hg
            obtain rfl := Option.some.inj hc
            simp only [ifO] at hF
            by_cases hy : y e = true
            · rw [if_pos hy] at hF
              rw [hy] at hv'
              exact wp_cond_true hv' (ih ha c1 E s Kn Kr Kx f e acts a w G Q hf hF hr hQ hn hre hx)
            · rw [if_neg hy] at hF
              rw [Bool.eq_false_iff.2 hy] at hv'
              exact wp_cond_false hv' (ih hb c2 E s Kn Kr Kx g e acts a w G Q hg hF hr hQ hn hre hx)
          · cases hc
        · cases hc
      · cases hc
    · -- a loop
      rename_i body
      split at hc
      · rename_i S h'
        rw [Option.map_eq_some_iff] at hc
        obtain ⟨lv, t1, rfl⟩ := hc
        obtain ⟨G2, t2, _⟩ := take_sound t1 hr
        have hF1 : iter (fun again => gets (comp P k L n h' body S.V (S.make s.size) (fun _ s' => (S.take s.size s').map fun lv e => again (lv e)) Kr Kx)) k (lv e) = some r := hF
        generalize hf : (fun (again : S.V → Option R) => gets (comp P k L n h' body S.V (S.make s.size) (fun _ s' => (S.take s.size s').map fun lv e => again (lv e)) Kr Kx)) = f at hF1
        refine wp_loop_rounds (fun j a w => ∃ v G, iter f j v = some r ∧ RelG Z w0 (S.make s.size) v acts a w G) (k := k) ⟨lv e, G2, hF1, t2⟩ ?_
        rintro j a' w' ⟨v, G3, hi, hr3⟩
        obtain ⟨j', rfl, hi'⟩ := iter_succ hi
        have hi2 := hi'
        rw [← hf] at hi2
        simp only at hi2
        rw [hf] at hi2
        cases hB : comp P k L n h' body S.V (S.make s.size) (fun _ s' => (S.take s.size s').map fun lv e => iter f j' (lv e)) Kr Kx with
        | none => rw [hB] at hi2; cases hi2
        | some B =>
          rw [hB] at hi2
          refine ih h' body S.V (S.make s.size) _ Kr Kx B v acts a' w' G3 _ hB hi2 hr3 (fun ch a w => hQ ch a w) ?_ (fun a w h => hre a w h) (fun id K hK a w h => hx id K hK a w h)
          rintro a2 w2 ⟨E', s', e', F', G', q1, q2, q3⟩
          rw [Option.map_eq_some_iff] at q1
          obtain ⟨lv', t3, rfl⟩ := q1
          obtain ⟨G4, t4, _⟩ := take_sound t3 q3
          exact ⟨j', Nat.lt_succ_self _, lv' e', G4, q2, t4⟩
      · cases hc
    · cases hc
      cases hF
    · exact wp_label (hn a w ⟨E, s, e, F, G, hc, hF, hr⟩)
    · rename_i c1
      exact wp_scope_straight (ih h c1 E s Kn Kr Kx F e acts a w G (Exit.noGoto Q) hc hF hr (fun ch a w => hQ ch a w) (fun a w hh => hn a w hh) (fun a w hh => hre a w hh) (fun id K hK a w hh => hx id K hK a w hh))
    · cases hc
end
/-- A function's plain form is right. -/
theorem mkSpec_sound {P : Program} {T : World → Prop} {L : Specs} {n : Nat} {h : H} {f : FuncId} {args res : List Ty} (hL : ∀ f S, L.get f = some S → S.OK P T f) (hT : ∀ w w', T w → Below w.heap.size w w' → T w') : (mkSpec P L n h f args res).Sound P T f := by
  intro k x r hF Φ w vs hTw hfz hargs
  simp only [mkSpec, fnF] at hF
  cases hfn : P.funcs[f]? with
  | none => rw [hfn] at hF; cases hF
  | some fn =>
    rw [hfn] at hF
    cases hb : fn.body with
    | none => simp only [Option.bind_some, hb, Option.bind_none] at hF; cases hF
    | some c =>
      simp only [Option.bind_some, hb] at hF
      split at hF
      · rename_i hlen
        cases hB : comp P k L n h c (Tup args) (fnSt args fn.ntmps) (fnRet P res fn.results.toList) (fnRet P res fn.results.toList) [] with
        | none => rw [hB] at hF; cases hF
        | some F0 =>
          rw [hB] at hF
          replace hF : F0 x = some r := hF
          have hvl := hargs.length
          rw [Array.length_toList] at hvl
          refine calls_of_wp hfn hb ?_
          let G0 : Gh := { Φ := Φ, ρ := fun _ => 0, γ := fun _ => none, nb := 0, nt := 0, B := w.heap.size }
          have hrels : AV.Rels G0 w x (ofTup args fun e => e) vs.toList := ofTup_rel (x := fun e => e) hargs
          have hr : RelG ⟨Φ, fun _ => False⟩ w (fnSt args fn.ntmps) x [] { tmps := vs ++ Array.replicate (fn.ntmps - vs.size) undef, defers := [] } w G0 :=
            ⟨rfl, BelX.refl _ _ _, rfl, by simp only [Array.size_append, Array.size_replicate]; show _ = fn.ntmps; have : (mkSpec P L n h f args res).args.length = args.length := rfl; omega, rfl, rfl, hfz, argEnv_get _ 0 vs.toList _ hrels (fun j v hj => by
              rw [Array.getElem?_toList] at hj
              have hjl := (Array.getElem?_eq_some_iff.1 hj).1
              rw [Nat.zero_add, Array.getD_eq_getD_getElem?, Array.getElem?_append_left hjl, hj]; rfl), rfl, (fun b B hB => by simp [fnSt] at hB), (fun b ⟨el, cs, hB⟩ => by simp [fnSt] at hB), (fun b b' ⟨el, cs, hB⟩ => by simp [fnSt] at hB), (fun k g hk => absurd hk (Nat.not_lt_zero _)), (fun k k' g hk => absurd hk (Nat.not_lt_zero _)), ⟨fun _ _ h => h, fun _ _ _ h => h⟩⟩
          have hret : ∀ (Q' : Act → World → Prop), (∀ a' w', a'.defers = [] → (∃ v, (results fn a'.tmps).run P w' = .ok v w' ∧ ∃ Φ' : Fz, Below w.heap.size w w' ∧ (∀ b i, Φ b i → Φ' b i) ∧ (∀ b i, b < w.heap.size → Φ' b i → Φ b i) ∧ (∀ b i, Φ' b i → b < w'.heap.size) ∧ ResRel Φ' w' res r v) → Q' a' w') →
              KOK ⟨Φ, fun _ => False⟩ w [] r (fnRet P res fn.results.toList) Q' := by
            rintro Q' hQ' a' w' ⟨E', s', e', F', G', q1, q2, q3⟩
            have q1' : ((resOf P s' fn.results.toList).bind fun l => (toTup res (AV.views l)).map fun x e => some (x e)) = some F' := q1
            obtain ⟨rs, hrs, q1'⟩ := Option.bind_eq_some_iff.1 q1'
            obtain ⟨y, hy, rfl⟩ := Option.map_eq_some_iff.1 q1'
            obtain ⟨us, r1, r2⟩ := results_run q3.tm q3.blk hrs
            obtain rfl := Option.some.inj q2
            let G2 : Gh := { G' with Φ := fun b i => G'.Φ b i ∨ ∃ k, k < G'.nt ∧ G'.γ k = some (some b) }
            have r3 : AV.Rels G2 w' e' (AV.views rs) us := AV.Rels.view (G := G') (G' := G2) (fun b i hb => Or.inl hb) (fun k hk g hg i => Or.inr ⟨k, hk, hg⟩) rfl rfl rs us r1
            exact hQ' a' w' q3.defers ⟨_, r2, G2.Φ, q3.bel.below, fun b i hb => .inl (q3.zz.1 b i hb), fun b i hb hi => hi.elim (q3.zz.2 b i hb) (fun ⟨k, hk, hg⟩ => by
              have := (q3.tlo k b hk hg).1
              rw [q3.B] at this
              omega), fun b i hi => hi.elim (q3.fz b i) (fun ⟨k, hk, hg⟩ => (q3.tlo k b hk hg).2.1), us, toTup_rel hy r3, rfl⟩
          refine comp_sound (Z := ⟨Φ, fun _ => False⟩) (w0 := w) hL (fun w' hb' => hT w w' hTw hb'.below) n h c (Tup args) _ _ _ _ F0 x [] _ w G0 _ hB hF hr ?_ (hret _ ?_) (hret _ ?_) (fun id K hk => by simp at hk)
          · rintro ch a' w' ⟨_, v, Φ', hv, _⟩; cases hv
          · rintro a' w' hd ⟨v, hv, Φ', p⟩
            exact ⟨hd, v, hv, v, Φ', rfl, p⟩
          · rintro a' w' hd ⟨v, hv, Φ', p⟩
            exact ⟨hd, v, hv, v, Φ', rfl, p⟩
      · cases hF
/-- A function whose first argument goes to a block of its caller's: its plain form is right. -/
theorem mkR_sound {P : Program} {T : World → Prop} {L : Specs} {n : Nat} {h : H} {f : FuncId} {el : TypeId} {t : Ty} {args res : List Ty} {F : Nat → Tup (.agg t :: args) → Option (Tup (.agg t :: res))} (hL : ∀ f S, L.get f = some S → S.OK P T f)
    (hF0 : ∀ k x, fnFR P L n h f el t args res k x = F k x) : RSpec.Sound P T f ⟨el, t, args, res, F⟩ := by
  intro k x r hF Φ w g us vs hTw hfz hng hg hargs
  replace hF : fnFR P L n h f el t args res k x = some r := (hF0 k x).trans hF
  replace hargs : TupRel Φ w (.agg t :: args) x (.agg us :: vs.toList) := hargs
  simp only [fnFR] at hF
  cases hfn : P.funcs[f]? with
  | none => rw [hfn] at hF; cases hF
  | some fn =>
    rw [hfn] at hF
    cases hb : fn.body with
    | none => simp only [Option.bind_some, hb, Option.bind_none] at hF; cases hF
    | some c =>
      simp only [Option.bind_some, hb] at hF
      split at hF
      · rename_i hlen
        cases hB : comp P k L n h c (Tup (.agg t :: args)) (fnStR el t args fn.ntmps) (fnRetR P el t res fn.results.toList) (fnRetR P el t res fn.results.toList) [] with
        | none => rw [hB] at hF; cases hF
        | some F0 =>
          rw [hB] at hF
          replace hF : F0 x = some r := hF
          have hvl := hargs.length
          simp only [List.length_cons, Array.length_toList] at hvl
          refine calls_of_wp hfn hb ?_
          let Z : Zf := ⟨Φ, (· = g)⟩
          let G0 : Gh := { Φ := Φ, ρ := fun _ => g, γ := fun _ => none, nb := 1, nt := 0, B := w.heap.size }
          have hrels0 : AV.Rels G0 w x (ofTup (.agg t :: args) fun e => e) (.agg us :: vs.toList) := ofTup_rel (x := fun e => e) hargs
          obtain ⟨cs, vs0, hof⟩ : ∃ cs vs0, ofTup (.agg t :: args) (fun e : Tup (.agg t :: args) => e) = .ag cs :: vs0 := by cases args <;> exact ⟨_, _, rfl⟩
          rw [hof] at hrels0
          obtain ⟨u, q, hq, ⟨us1, hus1, hcs⟩, hvs0⟩ := hrels0
          obtain ⟨hq1, hq2⟩ := List.cons.inj hq
          subst hq2
          rw [← hq1] at hus1
          obtain rfl : us = us1 := by cases hus1; rfl
          have hst : fnStR el t args fn.ntmps = ⟨argEnv 0 (.ptr 0 0 :: vs0), fn.ntmps, [[(0, .ptr 0 0)]], [.cells (.row el) cs], 0⟩ := by
            unfold fnStR
            rw [hof]
          rw [hst] at hB
          have hrels : AV.Rels G0 w x (.ptr 0 0 :: vs0) (.pointer (some ⟨g, 0, none⟩) :: vs.toList) := ⟨_, _, rfl, ⟨Nat.lt_succ_self 0, rfl⟩, hvs0⟩
          have hr : RelG Z w (⟨argEnv 0 (.ptr 0 0 :: vs0), fn.ntmps, [[(0, .ptr 0 0)]], [.cells (.row el) cs], 0⟩ : St (Tup (.agg t :: args))) x [#[.pointer (some ⟨g, 0, none⟩)]] { tmps := (#[Value.pointer (some ⟨g, 0, none⟩)] ++ vs) ++ Array.replicate (fn.ntmps - (#[Value.pointer (some ⟨g, 0, none⟩)] ++ vs).size) undef, defers := [] } w G0 :=
            ⟨rfl, BelX.refl _ _ _, rfl, by simp only [Array.size_append, Array.size_replicate, List.size_toArray, List.length_cons, List.length_nil]; omega, rfl, rfl, hfz, argEnv_get _ 0 _ _ hrels (fun j v hj => by
              have hj' : (#[Value.pointer (some ⟨g, 0, none⟩)] ++ vs)[j]? = some v := by rw [← Array.getElem?_toList]; simpa using hj
              have hjl := (Array.getElem?_eq_some_iff.1 hj').1
              rw [Nat.zero_add, Array.getD_eq_getD_getElem?, Array.getElem?_append_left hjl, hj']; rfl), ⟨_, _, rfl, (fun u => by
              unfold Env.get
              by_cases hu : 0 = u
              · subst hu; rw [if_pos rfl]; exact ⟨Nat.lt_succ_self 0, rfl⟩
              · rw [if_neg hu]; trivial), rfl⟩, (fun b B hB => by
              match b with
              | 0 =>
                obtain rfl := Option.some.inj hB
                exact ⟨us.toList, by simpa [KIs] using hg, hcs, hng⟩
              | b + 1 => simp at hB), (fun b _ => .inr rfl), (fun b b' ⟨_, _, h1⟩ ⟨_, _, h2⟩ _ => by
              match b, b' with
              | 0, 0 => rfl
              | b + 1, _ => simp at h1
              | 0, b' + 1 => simp at h2), (fun k g hk => absurd hk (Nat.not_lt_zero _)), (fun k k' g hk => absurd hk (Nat.not_lt_zero _)), ⟨fun _ _ h => h, fun _ _ _ h => h⟩⟩
          have hret : ∀ (Q' : Act → World → Prop), (∀ a' w', a'.defers = [] → (∃ rs : List Value, (results fn a'.tmps).run P w' = .ok (packV rs) w' ∧ ∃ (us' : Array Value) (Φ' : Fz), BelX (· = g) w.heap.size w w' ∧ (∀ b i, Φ b i → Φ' b i) ∧ (∀ b i, b < w.heap.size → Φ' b i → Φ b i) ∧ (∀ b i, Φ' b i → b < w'.heap.size) ∧
                w'.heap[g]? = some (.cells us' el (0, 0)) ∧ TupRel Φ' w' (.agg t :: res) r (.agg us' :: rs)) → Q' a' w') →
              KOK Z w [#[.pointer (some ⟨g, 0, none⟩)]] r (fnRetR P el t res fn.results.toList) Q' := by
            rintro Q' hQ' a' w' ⟨E', s', e', F', G', q1, q2, q3⟩
            unfold fnRetR at q1
            split at q1
            · rename_i top hstk
              have hs3 := q3.stk
              rw [hstk] at hs3
              obtain ⟨tt, ts, htt, hs4, hs5⟩ := hs3
              obtain ⟨ht1, ht2⟩ := List.cons.inj htt
              subst ht1
              split at q1
              · rename_i b htop
                have hp := hs4 0
                rw [htop] at hp
                have hρ : G'.ρ b = g := by
                  have := hp.2
                  simp at this
                  exact this.symm
                split at q1
                · rename_i el' cs' hb'
                  split at q1
                  · rename_i hel
                    subst hel
                    obtain ⟨rs, hrs, q1⟩ := Option.bind_eq_some_iff.1 q1
                    obtain ⟨y, hy, rfl⟩ := Option.map_eq_some_iff.1 q1
                    obtain ⟨uv, r1, r2⟩ := results_run q3.tm q3.blk hrs
                    obtain rfl := Option.some.inj q2
                    obtain ⟨ub, k1, k2, k3⟩ := q3.blk b _ hb'
                    rw [hρ] at k1
                    let G2 : Gh := { G' with Φ := fun b i => G'.Φ b i ∨ ∃ k, k < G'.nt ∧ G'.γ k = some (some b) }
                    have r0 : AV.Rels G' w' e' (.ag cs' :: rs) (.agg ub.toArray :: uv) := ⟨_, _, rfl, ⟨_, rfl, by simpa using k2⟩, r1⟩
                    have r3 : AV.Rels G2 w' e' (AV.views (.ag cs' :: rs)) (.agg ub.toArray :: uv) := AV.Rels.view (G := G') (G' := G2) (fun b i hb => Or.inl hb) (fun k hk g hg i => Or.inr ⟨k, hk, hg⟩) rfl rfl _ _ r0
                    exact hQ' a' w' q3.defers ⟨uv, r2, ub.toArray, G2.Φ, q3.bel, fun b i hb => .inl (q3.zz.1 b i hb), fun b i hb hi => hi.elim (q3.zz.2 b i hb) (fun ⟨k, hk, hg⟩ => by
                      have := (q3.tlo k b hk hg).1
                      rw [q3.B] at this
                      omega), fun b i hi => hi.elim (q3.fz b i) (fun ⟨k, hk, hg⟩ => (q3.tlo k b hk hg).2.1), k1, toTup_rel hy r3⟩
                  · cases q1
                · cases q1
              · cases q1
            · cases q1
          refine comp_sound (Z := Z) (w0 := w) hL hTw n h c (Tup (.agg t :: args)) _ _ _ _ F0 x _ _ w G0 _ hB hF hr ?_ (hret _ ?_) (hret _ ?_) (fun id K hk => by simp at hk)
          · rintro ch a' w' ⟨_, rs, us', Φ', hv, _⟩; cases hv
          · rintro a' w' hd ⟨rs, hv, us', Φ', p⟩
            exact ⟨hd, _, hv, us', rs, Φ', rfl, p⟩
          · rintro a' w' hd ⟨rs, hv, us', Φ', p⟩
            exact ⟨hd, _, hv, us', rs, Φ', rfl, p⟩
      · cases hF
end Go.Proofs.YtmmbedlegmbppaaDoor.R
/- Functions that call themselves; lists of specs. -/
namespace Go.Proofs.YtmmbedlegmbppaaDoor.R
open Go Go.RowKit
set_option linter.unusedVariables false
/-- The rounds of a function that calls itself. -/
noncomputable def recF (P : Program) (L : Specs) (n : Nat) (h : H) (f : FuncId) (args res : List Ty) : Nat → Nat → Tup args → Option (Tup res)
  | 0 => fun _ _ => none
  | d + 1 => fnF P ((f, .fn ⟨args, res, recF P L n h f args res d⟩) :: L) n h f args res
def Specs.Ok (P : Program) (T : World → Prop) (L : Specs) : Prop := ∀ f S, L.get f = some S → S.OK P T f
theorem Specs.Ok.nil {P : Program} {T : World → Prop} : Specs.Ok P T [] := by
  intro f S h
  cases h
theorem Specs.Ok.cons {P : Program} {T : World → Prop} {L : Specs} {f : FuncId} {S : Spec} (h : S.Sound P T f) (hL : Specs.Ok P T L) : Specs.Ok P T ((f, .fn S) :: L) := by
  intro g S' hg
  by_cases e : g = f
  · subst e
    have : Con.fn S = S' := by simpa [Specs.get] using hg
    exact this ▸ (show Con.OK P T g (.fn S) from h)
  · have : L.get g = some S' := by
      have e' : ¬ f = g := fun x => e x.symm
      simpa [Specs.get, e, e'] using hg
    exact hL g S' this
theorem Specs.Ok.consX {P : Program} {T : World → Prop} {L : Specs} {f : FuncId} {X : Spx} (h : X.OK P f) (hL : Specs.Ok P T L) : Specs.Ok P T ((f, .x X) :: L) := by
  intro g S' hg
  by_cases e : g = f
  · subst e
    have : Con.x X = S' := by simpa [Specs.get] using hg
    exact this ▸ (show Con.OK P T g (.x X) from h)
  · have : L.get g = some S' := by
      have e' : ¬ f = g := fun x => e x.symm
      simpa [Specs.get, e, e'] using hg
    exact hL g S' this
theorem Specs.Ok.consF {P : Program} {T : World → Prop} {L : Specs} {f : FuncId} {S : FSpec} (h : S.Sound P T) (hL : Specs.Ok P T L) : Specs.Ok P T ((f, .frag S) :: L) := by
  intro g S' hg
  unfold Specs.get at hg
  split at hg
  · have := Option.some.inj hg
    exact this ▸ (show Con.OK P T g (.frag S) from h)
  · exact hL g S' hg
theorem Specs.Ok.consP {P : Program} {T : World → Prop} {L : Specs} {f : FuncId} {S : GSpec} (h : S.Sound P T) (hL : Specs.Ok P T L) : Specs.Ok P T ((f, .part S) :: L) := by
  intro g S' hg
  unfold Specs.get at hg
  split at hg
  · have := Option.some.inj hg
    exact this ▸ (show Con.OK P T g (.part S) from h)
  · exact hL g S' hg
theorem Specs.Ok.consR {P : Program} {T : World → Prop} {L : Specs} {f : FuncId} {S : RSpec} (h : S.Sound P T f) (hL : Specs.Ok P T L) : Specs.Ok P T ((f, .ref S) :: L) := by
  intro g S' hg
  by_cases e : g = f
  · subst e
    have : Con.ref S = S' := by simpa [Specs.get] using hg
    exact this ▸ (show Con.OK P T g (.ref S) from h)
  · have : L.get g = some S' := by
      have e' : ¬ f = g := fun x => e x.symm
      simpa [Specs.get, e, e'] using hg
    exact hL g S' this
theorem mk_sound {P : Program} {T : World → Prop} {L : Specs} {n : Nat} {h : H} {f : FuncId} {args res : List Ty} {F : Nat → Tup args → Option (Tup res)} (hT : ∀ w w', T w → Below w.heap.size w w' → T w') (hL : Specs.Ok P T L) (hF : ∀ k x, fnF P L n h f args res k x = F k x) : Spec.Sound P T f ⟨args, res, F⟩ := by
  have := mkSpec_sound (n := n) (h := h) (f := f) (args := args) (res := res) hL hT
  have e : mkSpec P L n h f args res = ⟨args, res, F⟩ := by
    unfold mkSpec
    congr 1
    funext k x
    exact hF k x
  exact e ▸ this
/-- Where a part of the body is told by hand. -/
theorem mkF_sound {P : Program} {T : World → Prop} {L : Specs} {n : Nat} {h : H} {f : FuncId} {args res : List Ty} {C : Code} {g : (Option (Tup res) → Option (Tup res)) → Nat → Tup args → Option (Tup res)} (hT : ∀ w w', T w → Below w.heap.size w w' → T w') (hL : Specs.Ok P T L) (hF : ∀ k x, fnF P L n h f args res k x = g (fragO C C) k x) : Spec.Sound P T f ⟨args, res, g fun x => x⟩ :=
  mk_sound hT hL fun k x => by rw [hF, show (fragO C C : Option (Tup res) → Option (Tup res)) = fun x => x from funext fun x => fragO_same C x]
theorem recF_sound {P : Program} {T : World → Prop} {L : Specs} {n : Nat} {h : H} {f : FuncId} {args res : List Ty} (hT : ∀ w w', T w → Below w.heap.size w w' → T w') (hL : Specs.Ok P T L) : ∀ d, Spec.Sound P T f ⟨args, res, recF P L n h f args res d⟩
  | 0 => by
    intro k x r hF
    cases hF
  | d + 1 => mkSpec_sound (h := h) (Specs.Ok.cons (recF_sound hT hL d) hL) hT
theorem rec_sound {P : Program} {T : World → Prop} {L : Specs} {n : Nat} {h : H} {f : FuncId} {args res : List Ty} {G : (Nat → Tup args → Option (Tup res)) → Nat → Tup args → Option (Tup res)} {F : Nat → Nat → Tup args → Option (Tup res)} (hT : ∀ w w', T w → Below w.heap.size w w' → T w') (hL : Specs.Ok P T L)
    (hG : ∀ g k x, fnF P ((f, .fn ⟨args, res, g⟩) :: L) n h f args res k x = G g k x) (h0 : ∀ k x, F 0 k x = none) (h1 : ∀ d k x, F (d + 1) k x = G (F d) k x) : Spec.Sound P T f ⟨args, res, fun k x => F k k x⟩ := by
  have e : ∀ d, recF P L n h f args res d = F d := by
    intro d
    induction d with
    | zero => funext k x; exact (h0 k x).symm
    | succ d ih =>
      funext k x
      show fnF P ((f, .fn ⟨args, res, recF P L n h f args res d⟩) :: L) n h f args res k x = _
      rw [ih, hG, h1]
  intro k x r hF
  have hs := recF_sound (P := P) (T := T) (L := L) (n := n) (h := h) (f := f) (args := args) (res := res) hT hL k
  rw [e] at hs
  exact hs k x r hF
/-- The mark of functions that store into rows. -/
theorem mark_ok {P : Program} {T : World → Prop} : Spec.Sound P T 16777216 ⟨[], [], fun _ _ => none⟩ := by
  intro k x r h
  cases h
end Go.Proofs.YtmmbedlegmbppaaDoor.R
/- Contracts by hand over flat values; what a law's row needs. -/
namespace Go.Proofs.YtmmbedlegmbppaaDoor.R
open Go Go.RowKit
set_option linter.unusedVariables false
def Ty.flat : Ty → Bool
  | .int _ | .bool | .str => true
  | _ => false
def Ty.val : (t : Ty) → t.den → Value
  | .int k, x => .int k x
  | .bool, x => .bool x
  | .str, x => .string x
  | _, _ => undef
def vals : (l : List Ty) → Tup l → List Value
  | [], _ => []
  | [t], x => [t.val x]
  | t :: u :: l, x => t.val x.1 :: vals (u :: l) x.2
theorem flat_rel {Φ : Fz} {w : World} {t : Ty} (h : t.flat = true) {x : t.den} {v : Value} : VRel Φ w t x v ↔ v = t.val x := by
  cases t with
  | int k => exact ⟨fun h => (List.cons.inj h).1, fun h => by rw [h]; rfl⟩
  | bool => exact ⟨fun h => (List.cons.inj h).1, fun h => by rw [h]; rfl⟩
  | str => exact ⟨fun h => (List.cons.inj h).1, fun h => by rw [h]; rfl⟩
  | _ => cases h
theorem flats_rel {Φ : Fz} {w : World} : ∀ {l : List Ty} (h : l.all Ty.flat = true) {x : Tup l} {vs : List Value}, TupRel Φ w l x vs ↔ vs = vals l x
  | [], _, _, _ => Iff.rfl
  | [t], h, x, vs => by
    have ht : t.flat = true := by simpa using h
    constructor
    · rintro ⟨v, rfl, hv⟩
      rw [(flat_rel ht).1 hv]; rfl
    · intro e
      exact ⟨_, e, (flat_rel ht).2 rfl⟩
  | t :: u :: l, h, x, vs => by
    have h2 : t.flat = true ∧ (u :: l).all Ty.flat = true := by simpa only [List.all_cons, Bool.and_eq_true] using h
    constructor
    · rintro ⟨v, vs', rfl, hv, hr⟩
      rw [(flat_rel h2.1).1 hv, (flats_rel h2.2).1 hr]; rfl
    · intro e
      exact ⟨_, _, e, (flat_rel h2.1).2 rfl, (flats_rel h2.2).2 rfl⟩
theorem sound_flat {P : Program} {T : World → Prop} {f : FuncId} {args res : List Ty} {F : Nat → Tup args → Option (Tup res)} (ha : args.all Ty.flat = true) (hr : res.all Ty.flat = true)
    (h : ∀ k x r w, F k x = some r → T w → Calls P f (vals args x).toArray w fun e w1 => e = .returned (packV (vals res r)) ∧ Below w.heap.size w w1) : Spec.Sound P T f ⟨args, res, F⟩ := by
  intro k x r hF Φ w vs hT hfz hx
  have e : vs = (vals args x).toArray := by rw [← (flats_rel ha).1 hx]
  subst e
  refine (h k x r w hF hT).mono ?_
  rintro en w1 ⟨rfl, hb⟩
  exact ⟨_, Φ, rfl, hb, fun _ _ h => h, fun _ _ _ h => h, fun b i hbi => Nat.lt_of_lt_of_le (hfz b i hbi) hb.size, _, (flats_rel hr).2 rfl, rfl⟩
end Go.Proofs.YtmmbedlegmbppaaDoor.R
