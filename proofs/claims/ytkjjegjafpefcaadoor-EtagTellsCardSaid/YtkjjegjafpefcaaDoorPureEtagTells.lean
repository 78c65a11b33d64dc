/- EtagTells: the tag, and the tags, of any text; any tag as text; whether any two are alike, and any request holds any response: as the document says. -/
import Derived.Test.YtkjjegjafpefcaaDoorPTag3
import Derived.Test.YtkjjegjafpefcaaDoorPSize
namespace Go.Proofs.YtkjjegjafpefcaaDoor.R
open Go Go.RowKit
set_option linter.unusedSimpArgs false
set_option linter.unusedVariables false
theorem same_self (L : List TagB) (hL : L.length ≤ 1000000) (k : Nat) (hk : L.length + 1 < k) : law12_same.f k (L, L) = some true := same_tags L hL k hk
theorem EtagTells (s : ByteArray) (t : TagB × TagB) (l : List Fld × List Fld) (w0 : Ty.Wf .str s) (w1 : Ty.Wf (.agg (.pair (.pair .bool .str) (.pair .bool .str))) t) (w2 : Ty.Wf (.agg (.pair (.sl 42 (.agg (.pair .str .str))) (.sl 42 (.agg (.pair .str .str))))) l) : ∃ k, law12_EtagTells.f k (s, (t, l)) = some true := by
  refine ⟨1000010, ?_⟩
  obtain ⟨l0, l1⟩ := l
  obtain ⟨t0, t1⟩ := t
  obtain ⟨⟨z0, z1⟩, z2, z3⟩ := w2
  have out : ∀ v, law12_EtagTells.j1 1000010 (s, (true, (true, v))) = some true := fun v => rfl
  unfold law12_EtagTells.f
  dsimp only
  rw [awake12, bindO_some, ltD, ltD, ltD, ifO_dec]
  by_cases h1 : 500 < lenS s
  · rw [if_pos h1]; exact out _
  rw [if_neg h1, ifO_dec]
  by_cases h2 : 200 < lenS t0.2
  · rw [if_pos h2]; exact out _
  rw [if_neg h2, ifO_dec]
  by_cases h3 : 200 < lenS t1.2
  · rw [if_pos h3]; exact out _
  rw [if_neg h3]
  rw [size_is' l0 z0 (fits_of' z1) _ (by omega), bindO_some, show ltI 2000 ((szs 0 l0 : Nat) : Int) = decide (2000 < szs 0 l0) from ltI_nat 2000 _, ifO_dec]
  by_cases h4 : 2000 < szs 0 l0
  · rw [if_pos h4]; exact out _
  rw [if_neg h4, size_is' l1 z2 (fits_of' z3) _ (by omega), bindO_some, show ltI 2000 ((szs 0 l1 : Nat) : Int) = decide (2000 < szs 0 l1) from ltI_nat 2000 _]
  by_cases h5 : 2000 < szs 0 l1
  · rw [decide_eq_true h5]; exact out _
  rw [decide_eq_false h5]
  have s0 := szs_small 2000 (by decide) l0 0 (by omega)
  have s1 := szs_small 2000 (by decide) l1 0 (by omega)
  obtain ⟨x, rfl⟩ : ∃ x, s = B x := ⟨_, B_of s⟩
  rw [B_len] at h1
  obtain ⟨wk, a⟩ := t0
  obtain ⟨y, rfl⟩ : ∃ y, a = B y := ⟨_, B_of a⟩
  rw [B_len] at h2
  have e1 : etag_Parse.f 1000010 (B x) = some (parsT x) := parse_tag x (by omega) _ (by omega)
  have e2 : ref12_Parse.f 1000010 (B x) = some (parsT x) := r12parse x (by omega) _ (by omega)
  have e3 : etag_List.f 1000010 (B x) = some (listV x) := list_is x (by omega) _ (by omega)
  have e4 : ref12_List.f 1000010 (B x) = some (listV x) := r12list x (by omega) _ (by omega)
  have hL : (listV x).1.length ≤ 1000 := by
    rcases listV_cases x with e | e | ⟨L, e, hL⟩
    · rw [e]; simp
    · rw [e]; simp
    · rw [e]; dsimp only; omega
  generalize listV x = lv at hL e3 e4
  generalize parsT x = pv at e1 e2
  obtain ⟨L, st, e⟩ := lv
  obtain ⟨⟨pw, ps⟩, pe⟩ := pv
  dsimp only at hL
  have pr := print_tag (wk, y) (by dsimp only; omega) 1000010 (by dsimp only; omega)
  have rp := r12print (wk, y) (by dsimp only; omega) 1000010 (by dsimp only; omega)
  dsimp only at pr rp
  generalize (if y.all inT = true then (B (pT (wk, y)), 0) else (B [], 2) : ByteArray × Int) = pp at pr rp
  obtain ⟨pt, pf⟩ := pp
  unfold law12_EtagTells.j1
  dsimp only
  rw [ifO_false, e1, bindO_some, e2, bindO_some, e3, bindO_some, e4, bindO_some]
  dsimp only
  rw [own_tags L (by omega) _ (by omega), bindO_some, same_self L (by omega) _ (by omega), bindO_some, pr, bindO_some, rp, bindO_some]
  rw [show etag_Like.f 1000010 ((wk, B y), ((t1.1, t1.2), false)) = _ from like_weak (wk, B y) t1 _, bindO_some, show ref12_Like.f 1000010 ((wk, B y), ((t1.1, t1.2), false)) = _ from r12like_weak (wk, B y) t1 _, bindO_some]
  dsimp only
  rw [show ∀ b : Bool, eqB b b = true from eqB_self, ifO_true]
  rw [show etag_Like.f 1000010 ((wk, B y), ((t1.1, t1.2), true)) = _ from like_strong (wk, B y) t1 _, bindO_some, show ref12_Like.f 1000010 ((wk, B y), ((t1.1, t1.2), true)) = _ from r12like_strong (wk, B y) t1 _, bindO_some]
  dsimp only
  have hlk : eqB (eqS (B y) t1.2 && (eqB wk t1.1 && notB wk)) (eqS (B y) t1.2 && (notB wk && notB t1.1)) = true := by
    cases eqS (B y) t1.2 <;> cases wk <;> cases t1.1 <;> rfl
  rw [hlk]
  unfold law12_EtagTells.j14
  dsimp only
  have eI : ∀ n : Int, eqI n n = true := fun n => by rw [eqI_dec]; simp
  rw [ifO_true, eqD_refl (.agg (.pair .bool .str)) rfl (pw, ps), ifO_true, eI, ifO_true, ifO_true, eqB_self, ifO_true, eI, ifO_true, eqS_self, ifO_true, eI, ifO_true, ifO_true, held_is l0 l1 (by omega) (by omega) _ (by omega), bindO_some, r12held l0 l1 (by omega) (by omega) _ (by omega), bindO_some, eqB_self]
end Go.Proofs.YtkjjegjafpefcaaDoor.R
