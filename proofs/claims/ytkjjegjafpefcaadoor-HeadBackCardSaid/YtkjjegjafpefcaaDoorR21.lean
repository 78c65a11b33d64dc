/- Regions whose operations may come in another order. -/
import Derived.Test.YtkjjegjafpefcaaDoorR20
namespace Go.Proofs.YtkjjegjafpefcaaDoor.R
open Go Go.RowKit
set_option linter.unusedVariables false
set_option linter.unusedSimpArgs false
section
variable {E : Type} {G : Gh} {w w0 : World} {Z : Fz} {e : E} {P : Program} {s : St E} {a : Act} {acts : List (Array Value)} {R : Type} {K : Kont R} {r : R} {ops : Array Oper}
theorem gst_yes {o : Oper} (h : gst ops s o = .yes) (hr : EnvRel G w e s.tmps a.tmps) : Region.wanted o (yielded ops a.tmps) = true := by
  unfold gst at h
  split at h
  · rename_i hg; simp [Region.wanted, hg]
  · rename_i j want hg
    split at h
    · cases h
    · rename_i d hd
      have hv := hr d
      split at h
      · rename_i b hb
        split at h
        · rename_i hbw
          rw [hb] at hv
          have hw : Region.wanted o (yielded ops a.tmps) = (yielded ops a.tmps j == some want) := by simp [Region.wanted, hg]
          rw [hw, yielded_of hd, show a.tmps.getD d undef = .bool b from hv]
          simp [hbw]
        · cases h
      · cases h
      · cases h
      · cases h
theorem gst_no {o : Oper} (h : gst ops s o = .no) (hr : EnvRel G w e s.tmps a.tmps) : Region.wanted o (yielded ops a.tmps) = false := by
  unfold gst at h
  split at h
  · cases h
  · rename_i j want hg
    have hw : Region.wanted o (yielded ops a.tmps) = (yielded ops a.tmps j == some want) := by simp [Region.wanted, hg]
    split at h
    · cases h
    · rename_i d hd
      have hv := hr d
      split at h
      · rename_i b hb
        split at h
        · cases h
        · rename_i hbw
          rw [hb] at hv
          rw [hw, yielded_of hd, show a.tmps.getD d undef = .bool b from hv]
          simpa using hbw
      · rename_i hb
        rw [hb] at hv
        obtain ⟨us, hus, _⟩ := hv
        rw [hw, yielded_of hd, hus]
        simp
      · cases h
      · cases h
theorem gst_ask {o : Oper} {d : Nat} {x : E → Bool} (h : gst ops s o = .ask d x) (hr : EnvRel G w e s.tmps a.tmps) : a.tmps.getD d undef = .bool (x e) := by
  unfold gst at h
  split at h
  · cases h
  · split at h
    · cases h
    · rename_i d' hd
      have hv := hr d'
      split at h
      · split at h <;> cases h
      · cases h
      · rename_i y hy
        rw [hy] at hv
        cases h
        exact (List.cons.inj hv).1
      · cases h
theorem quietD_quiet {keep : Bool} {o : Op} {c : Option (E → Bool) × AV E} (h : quietD P keep s o = some c) : quiet P s o = some c ∧ ∀ t x b o', o = .load t x → s.ev x = .ptr b o' → keep = true := by
  unfold quietD at h
  split at h
  · rename_i t x
    split at h
    · rename_i b o hx
      split at h
      · rename_i hk
        refine ⟨?_, fun _ _ _ _ _ _ => hk⟩
        show loadOut P s t (s.ev x) = some c
        rw [hx]; exact h
      · cases h
    · rename_i hx
      exact ⟨h, fun t' x' b o' he hp => by cases he; exact absurd hp (hx b o')⟩
  · rename_i hx
    exact ⟨h, fun t x b o' he _ => absurd he (hx t x)⟩
theorem wpAnyH_mono {md : Region.Mode} {Q : Exit → Act → World → Prop} {S S' : World → Prop} (hS : ∀ w, S' w → S w) : ∀ (f : Nat) (l : Array Bool) (a : Act) (w : World), wpAnyH P md ops Q S' f l a w → wpAnyH P md ops Q S f l a w
  | 0, _, _, _, h => h
  | f + 1, l, a, w, h => ⟨h.1, fun i hi => wpOp_mono (fun a' w' h' => ⟨hS _ h'.1, wpAnyH_mono hS f _ a' w' h'.2⟩) (h.2 i hi)⟩
theorem drawGo_sound {k : Nat} {L : Specs} {T : World → Prop} {keep : Bool} {Q : Exit → Act → World → Prop} (hL : ∀ f S, L.get f = some S → S.OK P T f) (hT : ∀ w, Below w0.heap.size w0 w → T w) (hs : Region.noSelect ops = true) (hQ : ∀ c a w, ¬ Q (.panic c) a w) (hK : KOK Z w0 acts r K (Q .normal)) :
    ∀ (n f : Nat) (l : Array Bool) (E : Type) (s : St E) (F : E → Option R) (e : E) (a : Act) (w : World) (G : Gh), drawGo P k L keep ops n f l K E s = some F → F e = some r → RelG Z w0 s e acts a w G →
      wpAnyH P .any ops Q (Same G (fun b => keep = true ∧ Live s.blocks b) w) f l a w := by
  intro n
  induction n with
  | zero => intro f l E s F e a w G h; cases h
  | succ n ih =>
    intro f l E s F e a w G h hF hr
    unfold drawGo at h
    simp only at h
    split at h
    · rename_i hrs
      exact wpAnyH_done (List.isEmpty_iff.1 hrs) (hK a w ⟨E, s, e, F, G, h, hF, hr⟩) f
    · rename_i hrs
      split at h
      · cases h
      · rename_i f'
        have hX : ∀ {o : Oper} {c : Option (E → Bool) × AV E}, (∀ t x b o', o.op = .load t x → s.ev x = .ptr b o' → keep = true) → ∀ t x b o', o.op = .load t x → s.ev x = .ptr b o' → ∀ b, Live s.blocks b → (keep = true ∧ Live s.blocks b) := fun hk t x b o' h1 h2 b' hl => ⟨hk t x b o' h1 h2, hl⟩
        split at h
        · -- one that may be taken first
          rename_i i hfind
          have hi := List.mem_of_find?_eq_some hfind
          have he := List.find?_some hfind
          have hcont : (Region.ready .any ops l).contains i = true := List.contains_iff_mem.2 hi
          unfold easy at he
          split at h
          · rename_i o ho
            simp only [ho, Bool.and_eq_true] at he
            obtain ⟨⟨he1, he2⟩, he3⟩ := he
            have hd := dstOk_spec (s := s) (o := o) he3
            split at h
            · rename_i hg
              have hw := gst_yes hg hr.tm
              split at h
              · rename_i c hq
                obtain ⟨hq1, hq2⟩ := quietD_quiet hq
                obtain ⟨fn, hK1, hc, hf⟩ := guardIf_spec h hF
                obtain ⟨v, hv, hy⟩ := quiet_sound (n := fun b => keep = true ∧ Live s.blocks b) (o := o) (a := a) hq1 hc hr.tm hr.blk (hX (o := o) (c := c) hq2)
                refine wpAnyH_take ho hs he2 hcont (fun c a w h => absurd h (hQ c _ w)) (.inl ⟨hw, hy⟩) (.refl _ _ _) ?_
                have := ih f' _ E _ fn e _ w G hK1 hf (hr.put hd hv)
                rw [put_blocks] at this
                exact this
              · cases h
            · rename_i hg
              have hg' : gst ops s o = .no := by
                cases hgg : gst ops s o with
                | yes => exact absurd hgg hg
                | no => rfl
                | ask d x => rw [hgg] at he1; simp at he1
                | bad => rw [hgg] at he1; simp at he1
              have hw := gst_no hg' hr.tm
              refine wpAnyH_take (v := undef) ho hs he2 hcont (fun c a w h => absurd h (hQ c _ w)) (.inr ⟨hw, rfl⟩) (.refl _ _ _) ?_
              have := ih f' _ E _ F e _ w G h hF (hr.put (v := undef) hd ⟨#[], rfl, rfl⟩)
              rw [put_blocks] at this
              exact this
          · cases h
        · split at h
          · -- one whose guard is asked
            rename_i d x hask
            obtain ⟨i, hi, hx⟩ := List.exists_of_findSome?_eq_some hask
            have hv : a.tmps.getD d undef = .bool (x e) := by
              unfold asks at hx
              split at hx
              · cases hx
              · rename_i o ho
                split at hx
                · rename_i d' x' hg
                  cases hx
                  exact gst_ask hg hr.tm
                · cases hx
            unfold splitB at h
            split at h
            · rename_i fa fb ha hb
              obtain rfl := Option.some.inj h
              simp only [ifO] at hF
              by_cases hxe : x e = true
              · rw [if_pos hxe] at hF
                have := ih (f' + 1) l E _ fa e a w G ha hF (hr.refine (av := .cb true) (by rw [hv, hxe]; rfl))
                rw [put_blocks] at this
                exact this
              · rw [if_neg hxe] at hF
                have := ih (f' + 1) l E _ fb e a w G hb hF (hr.refine (av := .cb false) (by rw [hv, Bool.eq_false_iff.2 hxe]; rfl))
                rw [put_blocks] at this
                exact this
            · cases h
          · split at h
            · -- one that is alone
              rename_i i hsingle
              split at h
              · rename_i o ho
                split at h
                · rename_i hg
                  have hw := gst_yes hg hr.tm
                  split at h
                  · cases h
                  · rename_i hkeep
                    refine wpAnyH_all hsingle (by simp) (fun j hj => ?_)
                    simp only [List.mem_singleton] at hj
                    subst hj
                    unfold wpOp
                    simp only [ho, hw, if_true]
                    refine .inl ?_
                    have cont : ∀ a' w', After Z w0 acts (drawGo P k L keep ops n f' (l.setIfInBounds j true) K) r G w a' w' → (keep = true → AfterK Z w0 acts (drawGo P k L keep ops n f' (l.setIfInBounds j true) K) r G (Live s.blocks) w a' w') → Same G (fun b => keep = true ∧ Live s.blocks b) w w' ∧ wpAnyH P .any ops Q (Same G (fun b => keep = true ∧ Live s.blocks b) w) f' (l.setIfInBounds j true) a' w' := by
                      intro a' w' h1 h2
                      by_cases hk : keep = true
                      · obtain ⟨E', s', e', F', G', q1, q2, q3, q4, q5, q6, q7⟩ := h2 hk
                        have hsame : Same G (fun b => keep = true ∧ Live s.blocks b) w w' := ⟨q4.same, fun b hb => q7 b hb.2⟩
                        refine ⟨hsame, wpAnyH_mono (fun w2 h3 => ⟨fun b i hb => (h3.cell b i (q4.sub b i hb)).trans (q4.same b i hb), fun b hb => ?_⟩) f' _ a' w' (ih f' _ E' s' F' e' a' w' G' q1 q2 q3)⟩
                        have := h3.blk b ⟨hb.1, (q6 b).2 hb.2⟩
                        rw [q5] at this
                        exact this.trans (q7 b hb.2)
                      · obtain ⟨E', s', e', F', G', q1, q2, q3, q4⟩ := h1
                        exact ⟨⟨q4.same, fun b hb => absurd hb.1 hk⟩, wpAnyH_mono (fun w2 h3 => ⟨fun b i hb => (h3.cell b i (q4.sub b i hb)).trans (q4.same b i hb), fun b hb => absurd hb.1 hk⟩) f' _ a' w' (ih f' _ E' s' F' e' a' w' G' q1 q2 q3)⟩
                    unfold step at h
                    split at h
                    · cases h
                    rename_i hd0
                    have hd := dstOk_spec (s := s) (o := o) (by simpa using hd0)
                    have chg : ∀ {F : E → Option R}, ¬ keep = true → change P s o (drawGo P k L keep ops n f' (l.setIfInBounds j true) K) = some F → F e = some r → o.wp P a w (fun a' w' => Same G (fun b => keep = true ∧ Live s.blocks b) w w' ∧ wpAnyH P .any ops Q (Same G (fun b => keep = true ∧ Live s.blocks b) w) f' (l.setIfInBounds j true) a' w') Q := by
                      intro F hk h hF
                      obtain ⟨nx, v, w', hrun, hnx, haft⟩ := change_sound h hF hr hd
                      unfold Oper.wp
                      rw [hrun]
                      rcases hnx with rfl | ⟨rfl, rfl⟩
                      · exact cont _ _ haft (fun hk' => absurd hk' hk)
                      · exact cont _ _ haft (fun hk' => absurd hk' hk)
                    split at h
                    · rename_i c hq
                      obtain ⟨fn, hK1, hc, hf⟩ := guardIf_spec h hF
                      obtain ⟨v, hv, hy⟩ := quiet_sound (n := fun _ => True) (o := o) (a := a) hq hc hr.tm hr.blk (fun _ _ _ _ _ _ _ _ => trivial)
                      unfold Oper.wp
                      rw [hy w (.refl _ _ _)]
                      have hk : AfterK Z w0 acts (drawGo P k L keep ops n f' (l.setIfInBounds j true) K) r G (Live s.blocks) w (a.put o.dst v) w := ⟨E, _, e, fn, G, hK1, hf, hr.put hd hv, .refl _ _, rfl, (fun b => by rw [put_blocks]), fun b _ => rfl⟩
                      exact cont _ _ hk.to (fun _ => hk)
                    · split at h
                      · rename_i j2 vs hcs
                        obtain ⟨i, av, f2, h1, h2, h3, h4⟩ := caseK_spec h hF
                        rw [Nat.zero_add] at h2
                        obtain ⟨v, hv, hrun⟩ := caseOut_run hcs hr.tm i av h1 h2
                        unfold Oper.wp
                        rw [hrun]
                        have hk : AfterK Z w0 acts (drawGo P k L keep ops n f' (l.setIfInBounds j true) K) r G (Live s.blocks) w (a.put o.dst v) w := ⟨E, _, e, f2, G, h3, h4, hr.put hd hv, .refl _ _, rfl, (fun b => by rw [put_blocks]), fun b _ => rfl⟩
                        exact cont _ _ hk.to (fun _ => hk)
                      split at h
                      · rename_i c hop
                        split at h
                        · rename_i fo hcal
                          unfold callOut at h
                          have hfr := ev_rel hr.tm fo
                          split at h
                          · rename_i g caps hfn
                            rw [hfn] at hfr
                            obtain ⟨us, hfv, hus⟩ := hfr
                            split at h
                            · rename_i hcl
                              have hargs : AV.Rels G w e (c.args.toList.map s.ev ++ caps) ((c.args.map a.eval ++ us).toList) := by
                                rw [Array.toList_append, Array.toList_map]
                                exact (evs_rel hr.tm _).append hus
                              have hrun : (execOp a.eval o).run P w = .ok (.enter g (c.args.map a.eval ++ us)) w := by
                                have h1 := callable_run hcl (c.args.map a.eval ++ us) w
                                unfold execOp
                                simp only [hop, resolve, hcal, hfv, Deferred.ofValue, Sem.run_bind, Sem.run_pure, Result.andThen_ok, invoke, Array.empty_append, h1]
                              unfold Oper.wp
                              rw [hrun, Oper.upon_enter]
                              split at h
                              · rename_i S hS
                                refine (callSpec_soundK (show S.Sound P T g from hL g (.fn S) hS) h hF hr (hT w hr.bel) hd hargs).mono ?_
                                rintro en w' ⟨v, rfl, haft⟩
                                exact cont _ _ haft.to (fun _ => haft)
                              · rename_i X hXs
                                refine (callX_sound (show X.OK P g from hL g (.x X) hXs) h hF hr hd hargs).mono ?_
                                rintro en w' ⟨v, rfl, haft, hk⟩
                                refine cont _ _ haft (fun hkt => hk fun T hT' => hkeep ?_)
                                subst hT'
                                simp [hkt, isCopy, hop, hcal, hfn, hXs]
                              · cases h
                            · cases h
                          · cases h
                        · rename_i hncal
                          refine chg (fun hk => hkeep ?_) h hF
                          rw [hk, Bool.true_and, Bool.or_eq_true]
                          refine .inl ?_
                          cases hcc : c.callee with
                          | value fo => exact absurd hcc (hncal fo)
                          | invoke x m => simp [isCallV, hop, hcc]
                          | builtin b => simp [isCallV, hop, hcc]
                      · rename_i hnop
                        refine chg (fun hk => hkeep ?_) h hF
                        rw [hk, Bool.true_and, Bool.or_eq_true]
                        refine .inl ?_
                        cases hoo : o.op with
                        | call c => exact absurd hoo (hnop c)
                        | _ => simp [isCallV]
                · cases h
              · cases h
            · cases h
end
end Go.Proofs.YtkjjegjafpefcaaDoor.R
