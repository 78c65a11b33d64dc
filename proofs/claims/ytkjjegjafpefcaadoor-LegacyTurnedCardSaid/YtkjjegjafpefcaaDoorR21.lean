/- Regions whose operations may come in another order. -/
import Derived.Test.YtkjjegjafpefcaaDoorR20
import Derived.Test.YtkjjegjafpefcaaDoorRS2
namespace Go.Proofs.YtkjjegjafpefcaaDoor.R
open Go Go.RowKit
set_option linter.unusedVariables false
set_option linter.unusedSimpArgs false
section
variable {E : Type} {G : Gh} {w w0 : World} {Z : Fz} {e : E} {P : Program} {s : St E} {a : Act} {acts : List (Array Value)} {R : Type} {K : Kont R} {r : R} {ops : Array Oper}
theorem gst_yes {o : Oper} (h : gst ops s o = .yes) (hr : EnvRel G w e s.tmps a.tmps) : Region.wanted o (yielded ops a.tmps) = true := by
  unfold gst at h
  split at h
  · rename_i hg; simp [Region.wanted, hg]
  · rename_i j want hg
    split at h
    · cases h
    · rename_i d hd
      have hv := hr d
      split at h
      · rename_i b hb
        split at h
        · rename_i hbw
          rw [hb] at hv
          have hw : Region.wanted o (yielded ops a.tmps) = (yielded ops a.tmps j == some want) := by simp [Region.wanted, hg]
          rw [hw, yielded_of hd, show a.tmps.getD d undef = .bool b from hv]
          simp [hbw]
        · cases h
      · cases h
      · cases h
      · cases h
theorem gst_no {o : Oper} (h : gst ops s o = .no) (hr : EnvRel G w e s.tmps a.tmps) : Region.wanted o (yielded ops a.tmps) = false := by
  unfold gst at h
  split at h
  · cases h
  · rename_i j want hg
    have hw : Region.wanted o (yielded ops a.tmps) = (yielded ops a.tmps j == some want) := by simp [Region.wanted, hg]
    split at h
    · cases h
    · rename_i d hd
      have hv := hr d
      split at h
      · rename_i b hb
        split at h
        · cases h
        · rename_i hbw
          rw [hb] at hv
          rw [hw, yielded_of hd, show a.tmps.getD d undef = .bool b from hv]
          simpa using hbw
      · rename_i hb
        rw [hb] at hv
        obtain ⟨us, hus, _⟩ := hv
        rw [hw, yielded_of hd, hus]
        simp
      · cases h
      · cases h
theorem gst_ask {o : Oper} {d : Nat} {x : E → Bool} (h : gst ops s o = .ask d x) (hr : EnvRel G w e s.tmps a.tmps) : a.tmps.getD d undef = .bool (x e) := by
  unfold gst at h
  split at h
  · cases h
  · split at h
    · cases h
    · rename_i d' hd
      have hv := hr d'
      split at h
      · split at h <;> cases h
      · cases h
      · rename_i y hy
        rw [hy] at hv
        cases h
        exact (List.cons.inj hv).1
      · cases h
theorem quietD_quiet {keep : Bool} {o : Op} {c : Option (E → Bool) × AV E} (h : quietD P keep s o = some c) : quiet P s o = some c ∧ (readsOwn s o = true → keep = true) := by
  unfold quietD at h
  split at h
  · rename_i t x
    split at h
    · rename_i b o hx
      split at h
      · rename_i hk
        refine ⟨?_, fun _ => hk⟩
        show loadOut P s t (s.ev x) = some c
        rw [hx]; exact h
      · cases h
    · rename_i hx
      refine ⟨h, fun hp => ?_⟩
      cases hv : s.ev x <;> simp [readsOwn, hv] at hp
      exact absurd hv (hx _ _)
  · rename_i t x k two
    split at h
    · rename_i hk
      exact ⟨h, fun _ => hk⟩
    · cases h
  · rename_i hx hx2
    refine ⟨h, fun hp => ?_⟩
    unfold readsOwn at hp
    split at hp
    · rename_i t x; exact absurd rfl (hx t x)
    · rename_i t x k two; exact absurd rfl (hx2 t x k two)
    · cases hp
theorem wpAnyH_mono {md : Region.Mode} {Q : Exit → Act → World → Prop} {S S' : World → Prop} (hS : ∀ w, S' w → S w) : ∀ (f : Nat) (l : Array Bool) (a : Act) (w : World), wpAnyH P md ops Q S' f l a w → wpAnyH P md ops Q S f l a w
  | 0, _, _, _, h => h
  | f + 1, l, a, w, h => ⟨h.1, fun i hi => wpOp_mono (fun a' w' h' => ⟨hS _ h'.1, wpAnyH_mono hS f _ a' w' h'.2⟩) (h.2 i hi)⟩
def prem (P : Program) (ops : Array Oper) (l0 l : Array Bool) : Prop := ∀ j, changes P ops j = true → l.getD j true = l0.getD j true
theorem prem_set {P : Program} {ops : Array Oper} {l0 l : Array Bool} {i : Nat} (hi : changes P ops i = false) : prem P ops l0 (l.setIfInBounds i true) ↔ prem P ops l0 l := by
  refine ⟨fun h j hj => ?_, fun h j hj => ?_⟩
  · have hne : i ≠ j := by rintro rfl; rw [hi] at hj; cases hj
    rw [← h j hj, getD_set_ne true hne]
  · have hne : i ≠ j := by rintro rfl; rw [hi] at hj; cases hj
    rw [getD_set_ne true hne]; exact h j hj
theorem prem_set' {P : Program} {ops : Array Oper} {l0 l : Array Bool} {i : Nat} (hi : changes P ops i = false) : prem P ops (l0.setIfInBounds i true) l ↔ prem P ops l0 l := by
  refine ⟨fun h j hj => ?_, fun h j hj => ?_⟩
  · have hne : i ≠ j := by rintro rfl; rw [hi] at hj; cases hj
    rw [h j hj, getD_set_ne true hne]
  · have hne : i ≠ j := by rintro rfl; rw [hi] at hj; cases hj
    rw [getD_set_ne true hne]; exact h j hj
theorem prem_no {P : Program} {ops : Array Oper} {l l' : Array Bool} {j : Nat} (hj : changes P ops j = true) (h0 : l.getD j true = false) (h1 : l'.getD j true = true) : ¬ prem P ops l l' := fun h => by
  have := h j hj
  rw [h0, h1] at this
  cases this
theorem lateOK_spec {P : Program} {ops : Array Oper} {l : Array Bool} {i j : Nat} {oj : Oper} (h : lateOK P ops l i = true) (hj : changes P ops j = true) (ho : ops[j]? = some oj) (hp : l.getD j true = false) : ∃ e ∈ oj.after, Region.binds .any e = true ∧ e.on = i := by
  unfold lateOK at h
  have := List.all_eq_true.1 h j (List.mem_range.2 (Array.getElem?_eq_some_iff.1 ho).1)
  rw [hj, hp] at this
  simp only [Bool.not_true, Bool.false_or, waits, ho] at this
  obtain ⟨n, hn, hx⟩ := Array.any_eq_true.1 this
  rw [Bool.and_eq_true, beq_iff_eq] at hx
  exact ⟨_, Array.getElem_mem hn, hx.1, hx.2⟩
theorem take_L {keep : Bool} {Q : Exit → Act → World → Prop} {n : Nat → Prop} {i : Nat} {oi : Oper} {v : Value} {f : Nat} {l : Array Bool} {a : Act} {w : World} (hi : ops[i]? = some oi)
    (hs : Region.noSelect ops = true) (hf : Region.free .any ops l i = true) (hr : (Region.ready .any ops l).contains i = true)
    (hQ : ∀ c a w, Q (.panic c) (a.put oi.dst v) w → Q (.panic c) a w) (hkb : keep = true → changes P ops i = false)
    (hy : ((keep && lateOK P ops l i) = true ∧ YieldsIf P ops (Same G (fun b => keep = true ∧ n b) w) oi v a) ∨ YieldsIf P ops (Same G (fun _ => False) w) oi v a)
    (h : wpAnyL P ops Q (fun l' w' => Same G (fun b => (keep = true ∧ prem P ops (l.setIfInBounds i true) l') ∧ n b) w w') f (l.setIfInBounds i true) (a.put oi.dst v) w) :
    wpAnyL P ops Q (fun l' w' => Same G (fun b => (keep = true ∧ prem P ops l l') ∧ n b) w w') (f + 1) l a w := by
  have h' := wpAnyL_mono (S := fun l' w' => Same G (fun b => (keep = true ∧ prem P ops l l') ∧ n b) w w') _ _ _ _ (fun l'' w2 _ _ h3 => ⟨h3.cell, fun b hb => h3.blk b ⟨⟨hb.1.1, (prem_set' (hkb hb.1.1)).2 hb.1.2⟩, hb.2⟩⟩) h
  have hSS : ∀ (l' : Array Bool) (w' : World), Same G (fun b => (keep = true ∧ prem P ops l (l'.setIfInBounds i true)) ∧ n b) w w' → Same G (fun b => (keep = true ∧ prem P ops l l') ∧ n b) w w' := fun l' w' hS => ⟨hS.cell, fun b hb => hS.blk b ⟨⟨hb.1.1, (prem_set (hkb hb.1.1)).2 hb.1.2⟩, hb.2⟩⟩
  rcases hy with ⟨hl, hy⟩ | hy
  · rw [Bool.and_eq_true] at hl
    refine wpAnyL_first (T := Same G (fun b => keep = true ∧ n b) w) (C := fun l' => prem P ops l l') hi (Region.noSelect_spec hs) hQ ?_ ?_ hSS f l a w (Region.free_spec hi hf) (by simpa using hr) hy (fun _ _ => rfl) (.refl _ _ _) (.refl _ _ _) h'
    · intro l' j oj hc hoj hji hjun hno
      cases hch : changes P ops j with
      | false => exact (prem_set hch).2 hc
      | true =>
        obtain ⟨e, he, hb, hon⟩ := lateOK_spec hl.2 hch hoj (by rw [← hc j hch]; exact hjun)
        exact absurd hon (hno e he hb)
    · intro l' w' hc hS
      exact ⟨hS.cell, fun b hb => hS.blk b ⟨⟨hb.1, (prem_set (hkb hb.1)).2 hc⟩, hb.2⟩⟩
  · exact wpAnyL_first (T := Same G (fun _ => False) w) (C := fun _ => True) hi (Region.noSelect_spec hs) hQ (fun _ _ _ _ _ _ _ _ => trivial) (fun l' w' _ hS => ⟨hS.cell, fun _ h => h.elim⟩) hSS f l a w (Region.free_spec hi hf) (by simpa using hr) hy trivial (.refl _ _ _) (.refl _ _ _) h'
theorem drawGo_sound {k : Nat} {L : Specs} {T : World → Prop} {keep : Bool} {Q : Exit → Act → World → Prop} (hL : ∀ f S, L.get f = some S → S.OK P T f) (hT : ∀ w, Below w0.heap.size w0 w → T w) (hs : Region.noSelect ops = true) (hQ : ∀ c a w, ¬ Q (.panic c) a w) (hK : KOK Z w0 acts r K (Q .normal)) :
    ∀ (n f : Nat) (l : Array Bool) (E : Type) (s : St E) (F : E → Option R) (e : E) (a : Act) (w : World) (G : Gh), drawGo P k L keep ops n f l K E s = some F → F e = some r → RelG Z w0 s e acts a w G →
      wpAnyL P ops Q (fun l' w' => Same G (fun b => (keep = true ∧ prem P ops l l') ∧ Live s.blocks b) w w') f l a w := by
  intro n
  induction n with
  | zero => intro f l E s F e a w G h; cases h
  | succ n ih =>
    intro f l E s F e a w G h hF hr
    unfold drawGo at h
    simp only at h
    split at h
    · rename_i hrs
      exact wpAnyL_done (List.isEmpty_iff.1 hrs) (hK a w ⟨E, s, e, F, G, h, hF, hr⟩) f
    · rename_i hrs
      split at h
      · cases h
      · rename_i f'
        split at h
        · -- one that may be taken first
          rename_i i hfind
          have hi := List.mem_of_find?_eq_some hfind
          have he := List.find?_some hfind
          have hcont : (Region.ready .any ops l).contains i = true := List.contains_iff_mem.2 hi
          unfold easy at he
          split at h
          · rename_i o ho
            simp only [ho, Bool.and_eq_true] at he
            obtain ⟨⟨⟨he1, he2⟩, he3⟩, he4⟩ := he
            have hkb : keep = true → changes P ops i = false := fun hk => by
              unfold changes
              rw [ho]
              rw [hk] at he4
              simpa using he4
            have hd := dstOk_spec (s := s) (o := o) he3
            split at h
            · rename_i hg
              have hw := gst_yes hg hr.tm
              split at h
              · rename_i c hq
                obtain ⟨hq1, hq2⟩ := quietD_quiet hq
                obtain ⟨fn, hK1, hc, hf⟩ := guardIf_spec h hF
                have hy : ∃ v, c.2.Rel G w e v ∧ (((keep && lateOK P ops l i) = true ∧ YieldsIf P ops (Same G (fun b => keep = true ∧ Live s.blocks b) w) o v a) ∨ YieldsIf P ops (Same G (fun _ => False) w) o v a) := by
                  by_cases hlo : (keep && lateOK P ops l i) = true
                  · obtain ⟨v, hv, hy⟩ := quiet_sound (n := fun b => keep = true ∧ Live s.blocks b) (o := o) (a := a) hq1 hc hr.tm hr.blk (fun _ b hb => ⟨(Bool.and_eq_true _ _ ▸ hlo).1, hb⟩)
                    exact ⟨v, hv, .inl ⟨hlo, .inl ⟨hw, hy⟩⟩⟩
                  · obtain ⟨v, hv, hy⟩ := quiet_sound (n := fun _ => False) (o := o) (a := a) hq1 hc hr.tm hr.blk (fun h1 => absurd (hq2 h1) hlo)
                    exact ⟨v, hv, .inr (.inl ⟨hw, hy⟩)⟩
                obtain ⟨v, hv, hy⟩ := hy
                refine take_L ho hs he2 hcont (fun c a w h => absurd h (hQ c _ w)) hkb hy ?_
                have := ih f' _ E _ fn e _ w G hK1 hf (hr.put hd hv)
                rw [put_blocks] at this
                exact this
              · cases h
            · rename_i hg
              have hg' : gst ops s o = .no := by
                cases hgg : gst ops s o with
                | yes => exact absurd hgg hg
                | no => rfl
                | ask d x => rw [hgg] at he1; simp at he1
                | bad => rw [hgg] at he1; simp at he1
              have hw := gst_no hg' hr.tm
              refine take_L (v := undef) ho hs he2 hcont (fun c a w h => absurd h (hQ c _ w)) hkb (.inr (.inr ⟨hw, rfl⟩)) ?_
              have := ih f' _ E _ F e _ w G h hF (hr.put (v := undef) hd ⟨#[], rfl, rfl⟩)
              rw [put_blocks] at this
              exact this
          · cases h
        · split at h
          · -- one whose guard is asked
            rename_i d x hask
            obtain ⟨i, hi, hx⟩ := List.exists_of_findSome?_eq_some hask
            have hv : a.tmps.getD d undef = .bool (x e) := by
              unfold asks at hx
              split at hx
              · cases hx
              · rename_i o ho
                split at hx
                · rename_i d' x' hg
                  cases hx
                  exact gst_ask hg hr.tm
                · cases hx
            unfold splitB at h
            split at h
            · rename_i fa fb ha hb
              obtain rfl := Option.some.inj h
              simp only [ifO] at hF
              by_cases hxe : x e = true
              · rw [if_pos hxe] at hF
                have := ih (f' + 1) l E _ fa e a w G ha hF (hr.refine (av := .cb true) (by rw [hv, hxe]; rfl))
                rw [put_blocks] at this
                exact this
              · rw [if_neg hxe] at hF
                have := ih (f' + 1) l E _ fb e a w G hb hF (hr.refine (av := .cb false) (by rw [hv, Bool.eq_false_iff.2 hxe]; rfl))
                rw [put_blocks] at this
                exact this
            · cases h
          · split at h
            · -- one that is alone
              rename_i i hsingle
              split at h
              · rename_i o ho
                split at h
                · rename_i hg
                  have hw := gst_yes hg hr.tm
                  split at h
                  · cases h
                  · rename_i hkeep
                    refine wpAnyL_all hsingle (by simp) (fun j hj => ?_)
                    have hjr : j ∈ Region.ready .any ops l := by rw [hsingle]; exact hj
                    have hjun : l.getD j true = false := (mem_ready.1 hjr).1
                    simp only [List.mem_singleton] at hj
                    subst hj
                    unfold wpOp
                    simp only [ho, hw, if_true]
                    refine .inl ?_
                    have hset : (l.setIfInBounds j true).getD j true = true := by
                      by_cases hs' : j < l.size
                      · simp [Array.getD, hs']
                      · simp [Array.getD, hs']
                    have hcj : changes P ops j = !keepsBlocks P o.op := by unfold changes; rw [ho]
                    have cont : ∀ a' w', After Z w0 acts (drawGo P k L keep ops n f' (l.setIfInBounds j true) K) r G w a' w' → (keep = true → keepsBlocks P o.op = true → AfterK Z w0 acts (drawGo P k L keep ops n f' (l.setIfInBounds j true) K) r G (Live s.blocks) w a' w') → Same G (fun b => (keep = true ∧ prem P ops l (l.setIfInBounds j true)) ∧ Live s.blocks b) w w' ∧ wpAnyL P ops Q (fun l' w' => Same G (fun b => (keep = true ∧ prem P ops l l') ∧ Live s.blocks b) w w') f' (l.setIfInBounds j true) a' w' := by
                      intro a' w' h1 h2
                      by_cases hk : keep = true ∧ keepsBlocks P o.op = true
                      · have hcf : changes P ops j = false := by rw [hcj, hk.2]; rfl
                        obtain ⟨E', s', e', F', G', q1, q2, q3, q4, q5, q6, q7⟩ := h2 hk.1 hk.2
                        refine ⟨⟨q4.same, fun b hb => q7 b hb.2⟩, wpAnyL_mono f' _ a' w' (fun l2 w2 _ _ h3 => ⟨fun b i hb => (h3.cell b i (q4.sub b i hb)).trans (q4.same b i hb), fun b hb => ?_⟩) (ih f' _ E' s' F' e' a' w' G' q1 q2 q3)⟩
                        have := h3.blk b ⟨⟨hb.1.1, (prem_set' hcf).2 hb.1.2⟩, (q6 b).2 hb.2⟩
                        rw [q5] at this
                        exact this.trans (q7 b hb.2)
                      · obtain ⟨E', s', e', F', G', q1, q2, q3, q4⟩ := h1
                        have hno : ∀ l2 : Array Bool, l2.getD j true = true → ¬ (keep = true ∧ prem P ops l l2) := fun l2 h2' hb => by
                          have hch : changes P ops j = true := by
                            rw [hcj]
                            cases hx : keepsBlocks P o.op with
                            | false => rfl
                            | true => exact absurd ⟨hb.1, hx⟩ hk
                          exact prem_no hch hjun h2' hb.2
                        exact ⟨⟨q4.same, fun b hb => absurd hb.1 (hno _ hset)⟩, wpAnyL_mono f' _ a' w' (fun l2 w2 _ hsub h3 => ⟨fun b i hb => (h3.cell b i (q4.sub b i hb)).trans (q4.same b i hb), fun b hb => absurd hb.1 (hno _ (hsub j hset))⟩) (ih f' _ E' s' F' e' a' w' G' q1 q2 q3)⟩
                    unfold step at h
                    split at h
                    · cases h
                    rename_i hd0
                    have hd := dstOk_spec (s := s) (o := o) (by simpa using hd0)
                    have chg : ∀ {F : E → Option R}, ¬ (keep = true ∧ keepsBlocks P o.op = true) → change P s o (drawGo P k L keep ops n f' (l.setIfInBounds j true) K) = some F → F e = some r → o.wp P a w (fun a' w' => Same G (fun b => (keep = true ∧ prem P ops l (l.setIfInBounds j true)) ∧ Live s.blocks b) w w' ∧ wpAnyL P ops Q (fun l' w' => Same G (fun b => (keep = true ∧ prem P ops l l') ∧ Live s.blocks b) w w') f' (l.setIfInBounds j true) a' w') Q := by
                      intro F hk h hF
                      obtain ⟨nx, v, w', hrun, hnx, haft⟩ := change_sound h hF hr hd
                      unfold Oper.wp
                      rw [hrun]
                      rcases hnx with rfl | ⟨rfl, rfl⟩
                      · exact cont _ _ haft (fun hk' hk2 => absurd ⟨hk', hk2⟩ hk)
                      · exact cont _ _ haft (fun hk' hk2 => absurd ⟨hk', hk2⟩ hk)
                    split at h
                    · rename_i c hq
                      obtain ⟨fn, hK1, hc, hf⟩ := guardIf_spec h hF
                      obtain ⟨v, hv, hy⟩ := quiet_sound (n := fun _ => True) (o := o) (a := a) hq hc hr.tm hr.blk (fun _ _ _ => trivial)
                      unfold Oper.wp
                      rw [hy w (.refl _ _ _)]
                      have hk : AfterK Z w0 acts (drawGo P k L keep ops n f' (l.setIfInBounds j true) K) r G (Live s.blocks) w (a.put o.dst v) w := ⟨E, _, e, fn, G, hK1, hf, hr.put hd hv, .refl _ _, rfl, (fun b => by rw [put_blocks]), fun b _ => rfl⟩
                      exact cont _ _ hk.to (fun _ _ => hk)
                    · split at h
                      · rename_i j2 vs hcs
                        obtain ⟨i, av, f2, h1, h2, h3, h4⟩ := caseK_spec h hF
                        rw [Nat.zero_add] at h2
                        obtain ⟨v, hv, hrun⟩ := caseOut_run hcs hr.tm i av h1 h2
                        unfold Oper.wp
                        rw [hrun]
                        have hk : AfterK Z w0 acts (drawGo P k L keep ops n f' (l.setIfInBounds j true) K) r G (Live s.blocks) w (a.put o.dst v) w := ⟨E, _, e, f2, G, h3, h4, hr.put hd hv, .refl _ _, rfl, (fun b => by rw [put_blocks]), fun b _ => rfl⟩
                        exact cont _ _ hk.to (fun _ _ => hk)
                      split at h
                      · rename_i kd y ks vs z hcs
                        obtain ⟨v, av, f2, hrun, hv, h3, h4⟩ := lookCase_sound hcs h hF hr.tm hr.blk
                        unfold Oper.wp
                        rw [hrun]
                        have hk : AfterK Z w0 acts (drawGo P k L keep ops n f' (l.setIfInBounds j true) K) r G (Live s.blocks) w (a.put o.dst v) w := ⟨E, _, e, f2, G, h3, h4, hr.put hd hv, .refl _ _, rfl, (fun b => by rw [put_blocks]), fun b _ => rfl⟩
                        exact cont _ _ hk.to (fun _ _ => hk)
                      split at h
                      · rename_i c hop
                        split at h
                        · rename_i fo hcal
                          unfold callOut at h
                          have hfr := ev_rel hr.tm fo
                          split at h
                          · rename_i g caps hfn
                            rw [hfn] at hfr
                            obtain ⟨us, hfv, hus⟩ := hfr
                            split at h
                            · rename_i hcl
                              have hargs : AV.Rels G w e (c.args.toList.map s.ev ++ caps) ((c.args.map a.eval ++ us).toList) := by
                                rw [Array.toList_append, Array.toList_map]
                                exact (evs_rel hr.tm _).append hus
                              have hrun : (execOp a.eval o).run P w = .ok (.enter g (c.args.map a.eval ++ us)) w := by
                                have h1 := callable_run hcl (c.args.map a.eval ++ us) w
                                unfold execOp
                                simp only [hop, resolve, hcal, hfv, Deferred.ofValue, Sem.run_bind, Sem.run_pure, Result.andThen_ok, invoke, Array.empty_append, h1]
                              unfold Oper.wp
                              rw [hrun, Oper.upon_enter]
                              split at h
                              · rename_i S hS
                                refine (callSpec_soundK (show S.Sound P T g from hL g (.fn S) hS) h hF hr (hT w hr.bel) hd hargs).mono ?_
                                rintro en w' ⟨v, rfl, haft⟩
                                exact cont _ _ haft.to (fun _ _ => haft)
                              · rename_i X hXs
                                refine (callX_sound (show X.OK P g from hL g (.x X) hXs) h hF hr hd hargs).mono ?_
                                rintro en w' ⟨v, rfl, haft, hk⟩
                                refine cont _ _ haft (fun hkt hk2 => hk fun T hT' => hkeep ?_)
                                subst hT'
                                rw [hkt, hk2]
                                simp [isCopy, hop, hcal, hfn, hXs]
                              · cases h
                            · cases h
                          · cases h
                        · rename_i hncal
                          refine chg (fun hk => hkeep ?_) h hF
                          rw [hk.1, hk.2, Bool.true_and, Bool.true_and, Bool.or_eq_true]
                          refine .inl ?_
                          cases hcc : c.callee with
                          | value fo => exact absurd hcc (hncal fo)
                          | invoke x m => simp [isCallV, hop, hcc]
                          | builtin b => simp [isCallV, hop, hcc]
                      · rename_i hnop
                        refine chg (fun hk => hkeep ?_) h hF
                        rw [hk.1, hk.2, Bool.true_and, Bool.true_and, Bool.or_eq_true]
                        refine .inl ?_
                        cases hoo : o.op with
                        | call c => exact absurd hoo (hnop c)
                        | _ => simp [isCallV]
                · cases h
              · cases h
            · cases h
end
end Go.Proofs.YtkjjegjafpefcaaDoor.R
