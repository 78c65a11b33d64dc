/- A state that has a shape is told by its plain data: the end. -/
import Derived.Test.YtkjjegjafpefcaaDoorR18
namespace Go.Proofs.YtkjjegjafpefcaaDoor.R
open Go Go.RowKit
set_option linter.unusedVariables false
set_option linter.unusedSimpArgs false
section
variable {E D : Type} {G G' : Gh} {w w0 : World} {Z : Fz} {e : E} {d : D} {P : Program} {s : St E} {a : Act} {acts : List (Array Value)}
theorem getTup_cast {u t : Ty} {x : u.den} {y : t.den} {f : E → u.den} {g : E → t.den} (h : castTo u t f = some g) : (if h : t = u then (h ▸ g e : u.den) else u.dft) = f e := by
  obtain ⟨ht, hg⟩ := castTo_spec h
  subst ht
  rw [show g = f from hg]
  simp
theorem mkTup_get : ∀ {l : List Ty} {ls : List (Leaf E)} {lv : E → Tup l}, mkTup l ls = some lv → ∀ (i : Nat) (t : Ty) (x : E → t.den), ls[i]? = some ⟨t, x⟩ → getTup l t i (lv e) = x e
  | [], ls, lv, h, i, t, x, hi => by
    cases ls with
    | nil => simp at hi
    | cons c ls => simp [mkTup] at h
  | [u], ls, lv, h, i, t, x, hi => by
    match ls, h with
    | [], h => simp [mkTup] at h
    | [⟨v, y⟩], h =>
      cases i with
      | zero =>
        simp only [List.getElem?_cons_zero, Option.some.injEq] at hi
        cases hi
        have hc : castTo t u x = some lv := by simpa only [mkTup] using h
        obtain ⟨ht, hg⟩ := castTo_spec hc
        subst ht
        rw [show lv = x from hg]
        simp [getTup]
      | succ i => simp at hi
    | _ :: _ :: _, h => simp [mkTup] at h
  | u :: v :: r, ls, lv, h, i, t, x, hi => by
    match ls, h with
    | [], h => simp [mkTup] at h
    | ⟨v', y⟩ :: ls, h =>
      simp only [mkTup, Option.bind_eq_some_iff] at h
      obtain ⟨p, hp, q, hq, h⟩ := h
      obtain rfl := Option.some.inj h
      cases i with
      | zero =>
        simp only [List.getElem?_cons_zero, Option.some.injEq] at hi
        cases hi
        obtain ⟨ht, hg⟩ := castTo_spec hp
        subst ht
        rw [show p = x from hg]
        simp [getTup]
      | succ i =>
        have := mkTup_get hq i t x (by simpa using hi)
        simpa only [getTup] using this
theorem someToks_mem : ∀ {ks : List (Option Nat)} {m k : Nat}, ks[m]? = some (some k) → k ∈ someToks ks
  | none :: ks, m, k, h => by
    cases m with
    | zero => simp at h
    | succ m => exact someToks_mem (ks := ks) (m := m) (by simpa using h)
  | some j :: ks, m, k, h => by
    cases m with
    | zero => simp at h; subst h; exact List.mem_cons_self ..
    | succ m => exact List.mem_cons_of_mem _ (someToks_mem (ks := ks) (m := m) (by simpa using h))
theorem distinct_inj : ∀ {ks : List (Option Nat)} {m m' k : Nat}, distinct (someToks ks) = true → ks[m]? = some (some k) → ks[m']? = some (some k) → m = m'
  | none :: ks, m, m', k, hd, h, h' => by
    cases m with
    | zero => simp at h
    | succ m =>
      cases m' with
      | zero => simp at h'
      | succ m' => exact congrArg (· + 1) (distinct_inj (ks := ks) (k := k) hd (by simpa using h) (by simpa using h'))
  | some j :: ks, m, m', k, hd, h, h' => by
    simp only [someToks, distinct, Bool.and_eq_true, Bool.not_eq_true'] at hd
    cases m with
    | zero =>
      simp at h; subst h
      cases m' with
      | zero => rfl
      | succ m' =>
        have := someToks_mem (ks := ks) (m := m') (by simpa using h')
        have hc : (someToks ks).contains j = true := List.contains_iff_mem.2 this
        rw [hd.1] at hc; cases hc
    | succ m =>
      cases m' with
      | zero =>
        simp at h'; subst h'
        have := someToks_mem (ks := ks) (m := m) (by simpa using h)
        have hc : (someToks ks).contains j = true := List.contains_iff_mem.2 this
        rw [hd.1] at hc; cases hc
      | succ m' => exact congrArg (· + 1) (distinct_inj (ks := ks) (k := k) hd.2 (by simpa using h) (by simpa using h'))
theorem take_sound {S : Shp} {size : Nat} {lv : E → S.V} (h : S.take size s = some lv) (hr : RelG Z w0 s e acts a w G) : ∃ G' : Gh, RelG Z w0 (S.make size) (lv e) acts a w G' ∧ FExt G.Φ w G'.Φ w := by
  unfold Shp.take at h
  split at h
  rotate_left
  · cases h
  rename_i hck
  rw [Bool.and_eq_true, decide_eq_true_eq] at hck
  obtain ⟨hsize, hok⟩ := hck
  simp only [Shp.ok, Bool.and_eq_true] at hok
  obtain ⟨⟨ok1, ok2⟩, ok3⟩ := hok
  simp only [Option.bind_eq_some_iff] at h
  obtain ⟨x, hx, y, hy, z, hz, h⟩ := h
  split at h
  rotate_left
  · cases h
  rename_i hdist
  generalize hks : s.tmps.tokss S.tmps ++ (stackToks s.stack S.stack ++ blkToks s.blocks S.blocks) = ks at hdist
  let G' : Gh := { G with γ := fun m => (ks[m]?).bind (tokOf G), nb := S.blocks.length, nt := ks.length }
  have hG : Retold G G' := ⟨rfl, rfl, rfl⟩
  have htoks : ToksAt G G' ks 0 := fun m o hm => ⟨by rw [Nat.zero_add]; exact (List.getElem?_eq_some_iff.1 hm).1, by show (ks[0 + m]?).bind (tokOf G) = _; rw [Nat.zero_add, hm]; rfl⟩
  have hleaf : LeavesAt (fun (t : Ty) (i : Nat) (v : S.V) => getTup S.tys t i v) (lv e) e (x ++ (y ++ z)) 0 := fun m t f hm => by rw [Nat.zero_add]; exact mkTup_get h m t f hm
  rw [← hks] at htoks
  obtain ⟨t1, t23⟩ := htoks.split
  obtain ⟨t2, t3⟩ := t23.split
  obtain ⟨l1, l23⟩ := hleaf.split
  obtain ⟨l2, l3⟩ := l23.split
  obtain ⟨a1, a2, a3⟩ := env_make (fun (t : Ty) (i : Nat) (v : S.V) => getTup S.tys t i v) hG hr.tm S.tmps x 0 0 hx ok1 l1 t1
  obtain ⟨b1, b2, b3⟩ := stack_make (fun (t : Ty) (i : Nat) (v : S.V) => getTup S.tys t i v) hG s.stack acts S.stack y (Env.makes (fun (t : Ty) (i : Nat) (v : S.V) => getTup S.tys t i v) S.tmps 0 0).i (Env.makes (fun (t : Ty) (i : Nat) (v : S.V) => getTup S.tys t i v) S.tmps 0 0).k hr.stk hy ok2 (by rw [a2]; exact l2) (by rw [a3]; exact t2)
  obtain ⟨c1, c2, c3, c4⟩ := blk_make (fun (t : Ty) (i : Nat) (v : S.V) => getTup S.tys t i v) hG s.blocks 0 S.blocks z (stackMakes (fun (t : Ty) (i : Nat) (v : S.V) => getTup S.tys t i v) S.stack (Env.makes (fun (t : Ty) (i : Nat) (v : S.V) => getTup S.tys t i v) S.tmps 0 0).i (Env.makes (fun (t : Ty) (i : Nat) (v : S.V) => getTup S.tys t i v) S.tmps 0 0).k).i (stackMakes (fun (t : Ty) (i : Nat) (v : S.V) => getTup S.tys t i v) S.stack (Env.makes (fun (t : Ty) (i : Nat) (v : S.V) => getTup S.tys t i v) S.tmps 0 0).i (Env.makes (fun (t : Ty) (i : Nat) (v : S.V) => getTup S.tys t i v) S.tmps 0 0).k).k (fun b B hB => by rw [Nat.zero_add]; exact hr.blk b B hB) hz ok3 (by rw [b2, a2]; exact l3) (by rw [b3, a3]; exact t3)
  have hlt : ∀ k, some k ∈ ks → k < G.nt := by
    intro k hk
    rw [← hks, List.mem_append, List.mem_append] at hk
    rcases hk with hk | hk | hk
    · exact (env_toks_lt hr.tm _ k hk).1
    · exact (stack_toks_lt _ _ _ hr.stk k hk).1
    · exact (blk_toks_lt s.blocks 0 _ (fun b B hB => by rw [Nat.zero_add]; exact hr.blk b B hB) k hk).1
  have hγ : ∀ m g, G'.γ m = some (some g) → ∃ k, ks[m]? = some (some k) ∧ k < G.nt ∧ G.γ k = some (some g) := by
    intro m g hm
    have hm' : (ks[m]?).bind (tokOf G) = some (some g) := hm
    rw [Option.bind_eq_some_iff] at hm'
    obtain ⟨o, ho, hg⟩ := hm'
    cases o with
    | none => cases hg
    | some k => exact ⟨k, ho, hlt k (List.mem_of_getElem? ho), hg⟩
  have hlive : ∀ b, Live (S.make size).blocks b → Live s.blocks b := by
    rintro b ⟨el, cs, hb⟩
    exact (c1 b _ hb).2 ⟨el, cs, hb⟩
  refine ⟨G', ⟨hr.B, hr.bel, hr.defers, hr.size.trans hsize, c2.symm, ?_, hr.fz, a1, b1, fun b B hB => ?_, fun b hl => hr.lo b (hlive b hl), fun b b' hl hl' => hr.inj b b' (hlive b hl) (hlive b' hl'), fun k g _ hg => ?_, fun k k' g _ _ hg hg' => ?_, hr.zz⟩, .refl _ _⟩
  · show ks.length = _
    have : (S.make size).nt = (blkMakes (fun (t : Ty) (i : Nat) (v : S.V) => getTup S.tys t i v) S.blocks (stackMakes (fun (t : Ty) (i : Nat) (v : S.V) => getTup S.tys t i v) S.stack (Env.makes (fun (t : Ty) (i : Nat) (v : S.V) => getTup S.tys t i v) S.tmps 0 0).i (Env.makes (fun (t : Ty) (i : Nat) (v : S.V) => getTup S.tys t i v) S.tmps 0 0).k).i (stackMakes (fun (t : Ty) (i : Nat) (v : S.V) => getTup S.tys t i v) S.stack (Env.makes (fun (t : Ty) (i : Nat) (v : S.V) => getTup S.tys t i v) S.tmps 0 0).i (Env.makes (fun (t : Ty) (i : Nat) (v : S.V) => getTup S.tys t i v) S.tmps 0 0).k).k).k := rfl
    rw [this, c4, b3, a3, ← hks, List.length_append, List.length_append]
    omega
  · have := (c1 b B hB).1
    rw [Nat.zero_add] at this
    exact this
  · obtain ⟨j, _, h2, h3⟩ := hγ k g hg
    obtain ⟨p1, p2, p3⟩ := hr.tlo j g h2 h3
    exact ⟨p1, p2, fun b hl => p3 b (hlive b hl)⟩
  · obtain ⟨j, h1, h2, h3⟩ := hγ k g hg
    obtain ⟨j', h1', h2', h3'⟩ := hγ k' g hg'
    obtain rfl := hr.tinj j j' g h2 h2' h3 h3'
    exact distinct_inj hdist h1 h1'
end
end Go.Proofs.YtkjjegjafpefcaaDoor.R
