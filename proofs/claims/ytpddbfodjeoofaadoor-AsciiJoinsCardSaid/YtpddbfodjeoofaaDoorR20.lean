/- One operation, and the operations of a region in their order, do what the compiler says. -/
import Derived.Test.YtpddbfodjeoofaaDoorR19
import Derived.OrdersHeld
namespace Go.Proofs.YtpddbfodjeoofaaDoor.R
open Go Go.RowKit
set_option linter.unusedVariables false
set_option linter.unusedSimpArgs false
/-- The compiler goes on from here. -/
def After0 {R : Type} (Z : Fz) (w0 : World) (acts : List (Array Value)) (K : Kont R) (r : R) (a' : Act) (w' : World) : Prop :=
  ∃ (E' : Type) (s' : St E') (e' : E') (F' : E' → Option R) (G' : Gh), K E' s' = some F' ∧ F' e' = some r ∧ RelG Z w0 s' e' acts a' w' G'
theorem After.to0 {R : Type} {w0 : World} {Z : Fz} {acts : List (Array Value)} {K : Kont R} {r : R} {G : Gh} {w : World} {a' : Act} {w' : World} (h : After Z w0 acts K r G w a' w') : After0 Z w0 acts K r a' w' := by
  obtain ⟨E', s', e', F', G', h1, h2, h3, _⟩ := h
  exact ⟨E', s', e', F', G', h1, h2, h3⟩
/-- From wherever the compiler goes on, this holds. -/
def KOK {R : Type} (Z : Fz) (w0 : World) (acts : List (Array Value)) (r : R) (K : Kont R) (Q : Act → World → Prop) : Prop := ∀ a w, After0 Z w0 acts K r a w → Q a w
/-- An inlined call does what it should. -/
def InlOK {R : Type} (P : Program) (Z : Fz) (w0 : World) (acts : List (Array Value)) (r : R) (inl : Inl R) : Prop :=
  ∀ (E : Type) (s : St E) (f : FuncId) (args : List (AV E)) (dst : Option Tmp) (K : Kont R) (F : E → Option R) (e : E) (a : Act) (w : World) (G : Gh) (vs : Array Value), inl E s f args dst K = some F → F e = some r → RelG Z w0 s e acts a w G → dstOk' s dst → AV.Rels G w e args vs.toList →
    Calls P f vs w fun en w' => ∃ v, en = .returned v ∧ After0 Z w0 acts K r (a.put dst v) w'
section
variable {E : Type} {G : Gh} {w w0 : World} {Z : Fz} {e : E} {P : Program} {s : St E} {a : Act} {acts : List (Array Value)} {R : Type} {K : Kont R} {r : R}
theorem callable_run {g : FuncId} (h : callable P g = true) (args : Array Value) (w : World) : (callFunc g args).run P w = .ok (.enter g args) w := by
  unfold callable at h
  split at h
  · rename_i fn hf
    rw [Bool.and_eq_true] at h
    have hb : fn.body.isNone = false := by cases hh : fn.body with
      | none => rw [hh] at h; simp at h
      | some c => rfl
    have hn : (fn.name == "runtime.NumGoroutine") = false := by simpa using h.2
    unfold callFunc
    simp only [Sem.run_bind, run_program, Result.andThen_ok, hf, hn, hb, Bool.false_eq_true, if_false]
    rfl
  · cases h
theorem step_sound {k : Nat} {L : Specs} {T : World → Prop} {inl : Inl R} {o : Oper} {F : E → Option R} {Q : Exit → Act → World → Prop} (hL : ∀ f S, L.get f = some S → S.Sound P T f) (hT : ∀ w, Below w0.heap.size w0 w → T w) (hinl : InlOK P Z w0 acts r inl)
    (h : step P k L inl o E s K = some F) (hF : F e = some r) (hr : RelG Z w0 s e acts a w G) : o.wp P a w (fun a' w' => After0 Z w0 acts K r a' w') Q := by
  unfold step at h
  split at h
  · cases h
  rename_i hd0
  have hd := dstOk_spec (s := s) (o := o) (by simpa using hd0)
  split at h
  · -- quiet
    rename_i c hq
    obtain ⟨f, hK, hc, hf⟩ := guardIf_spec h hF
    obtain ⟨v, hv, hy⟩ := quiet_sound (n := fun _ => True) (o := o) (a := a) hq hc hr.tm hr.blk (fun _ _ _ _ _ _ _ _ => trivial)
    unfold Oper.wp
    rw [hy w (.refl _ _ _)]
    exact ⟨E, _, e, f, G, hK, hf, hr.put hd hv⟩
  · rename_i hq
    have chg : change P s o K = some F → o.wp P a w (fun a' w' => After0 Z w0 acts K r a' w') Q := by
      intro h
      obtain ⟨nx, v, w', hrun, hnx, haft⟩ := change_sound h hF hr hd
      unfold Oper.wp
      rw [hrun]
      rcases hnx with rfl | ⟨rfl, rfl⟩
      · exact haft.to0
      · exact haft.to0
    split at h
    · rename_i c hop
      split at h
      · rename_i f hcal
        unfold callOut at h
        have hf := ev_rel hr.tm f
        split at h
        · rename_i g caps hfn
          rw [hfn] at hf
          obtain ⟨us, hfv, hus⟩ := hf
          split at h
          · rename_i hcl
            have hargs : AV.Rels G w e (c.args.toList.map s.ev ++ caps) ((c.args.map a.eval ++ us).toList) := by
              rw [Array.toList_append, Array.toList_map]
              exact (evs_rel hr.tm _).append hus
            have hrun : (execOp a.eval o).run P w = .ok (.enter g (c.args.map a.eval ++ us)) w := by
              have h1 := callable_run hcl (c.args.map a.eval ++ us) w
              unfold execOp
              simp only [hop, resolve, hcal, hfv, Deferred.ofValue, Sem.run_bind, Sem.run_pure, Result.andThen_ok, invoke, Array.empty_append, h1]
            unfold Oper.wp
            rw [hrun, Oper.upon_enter]
            split at h
            · rename_i S hS
              refine (callSpec_sound (hL g S hS) h hF hr (hT w hr.bel) hd hargs).mono ?_
              rintro en w' ⟨v, rfl, haft⟩
              exact haft.to0
            · refine (hinl E s g _ o.dst K F e a w G _ h hF hr hd hargs).mono ?_
              rintro en w' ⟨v, rfl, haft⟩
              exact haft
          · cases h
        · cases h
      · exact chg h
    · exact chg h
/-! ### regions in their order -/
theorem yielded_of {ops : Array Oper} {j d : Nat} {t : Array Value} (hd : (ops[j]?).bind (·.dst) = some d) : yielded ops t j = match t.getD d undef with | .bool b => some b | _ => none := by
  unfold yielded
  rw [hd]
  simp only [Option.bind_some]
  rw [Array.getD_eq_getD_getElem?]
  cases t[d]? with
  | none => simp [undef]
  | some v => cases v <;> simp
theorem RelG.refine (hr : RelG Z w0 s e acts a w G) {d : Nat} {av : AV E} (hv : av.Rel G w e (a.tmps.getD d undef)) : RelG Z w0 (s.put (some d) av) e acts a w G :=
  ⟨hr.B, hr.bel, hr.defers, hr.size, hr.nb, hr.nt, hr.fz, (fun u => by
    show (Env.get (s.tmps.set d av) u).Rel G w e _
    rw [Env.get_set]
    by_cases hu : u = d
    · rw [if_pos hu, hu]; exact hv
    · rw [if_neg hu]; exact hr.tm u), hr.stk, hr.blk, hr.lo, hr.inj, hr.tlo, hr.tinj, hr.zz⟩
theorem stepList_sound {stp : Nat → Oper → Kont R → Kont R} {ops : Array Oper} {Q : Exit → Act → World → Prop}
    (hst : ∀ i o (K : Kont R) (E : Type) (s : St E) (F : E → Option R) (e : E) (a : Act) (w : World) (G : Gh), stp i o K E s = some F → F e = some r → RelG Z w0 s e acts a w G → o.wp P a w (fun a' w' => After0 Z w0 acts K r a' w') Q) :
    ∀ (l : List Oper) (i : Nat) (K : Kont R) (E : Type) (s : St E) (F : E → Option R) (e : E) (a : Act) (w : World) (G : Gh), stepList stp ops i l K E s = some F → F e = some r → RelG Z w0 s e acts a w G → KOK Z w0 acts r K (Q .normal) → wpList P ops Q l a w
  | [], i, K, E, s, F, e, a, w, G, h, hF, hr, hK => hK a w ⟨E, s, e, F, G, h, hF, hr⟩
  | o :: l, i, K, E, s, F, e, a, w, G, h, hF, hr, hK => by
    have next : ∀ a' w', After0 Z w0 acts (stepList stp ops (i + 1) l K) r a' w' → wpList P ops Q l a' w' := by
      rintro a' w' ⟨E', s', e', F', G', h1, h2, h3⟩
      exact stepList_sound hst l (i + 1) K E' s' F' e' a' w' G' h1 h2 h3 hK
    have go : ∀ (s : St E) (F : E → Option R), stp i o (stepList stp ops (i + 1) l K) E s = some F → F e = some r → RelG Z w0 s e acts a w G → ∀ K' : Act → World → Prop, (∀ a w, wpList P ops Q l a w → K' a w) → o.wp P a w K' Q :=
      fun s F h hF hr K' hK' => Oper.wp_mono (fun a' w' haft => hK' a' w' (next a' w' haft)) (hst i o _ E s F e a w G h hF hr)
    have skip : ∀ (s : St E) (F : E → Option R), dstOk s o = true → stepList stp ops (i + 1) l K E (s.put o.dst (.tup [])) = some F → F e = some r → RelG Z w0 s e acts a w G → wpList P ops Q l (a.put o.dst undef) w :=
      fun s F hd h hF hr => next _ _ ⟨E, _, e, F, G, h, hF, hr.put (dstOk_spec hd) ⟨#[], rfl, rfl⟩⟩
    refine wpList_step fun K' hK' => ?_
    unfold stepList at h
    cases hg : o.guard with
    | none =>
      simp only [hg] at h
      rw [if_pos (by simp [Region.wanted, hg])]
      exact go s F h hF hr K' hK'
    | some jw =>
      obtain ⟨j, want⟩ := jw
      simp only [hg] at h
      split at h
      · cases h
      · rename_i d hd
        have hy := yielded_of (t := a.tmps) hd
        have hwant : Region.wanted o (yielded ops a.tmps) = (yielded ops a.tmps j == some want) := by simp [Region.wanted, hg]
        rw [hwant, hy]
        have hv := hr.tm d
        split at h
        · rename_i b hb
          rw [hb] at hv
          rw [show a.tmps.getD d undef = .bool b from hv]
          simp only
          split at h
          · rename_i hbw
            rw [if_pos (by simp [hbw])]
            exact go s F h hF hr K' hK'
          · rename_i hbw
            rw [if_neg (by simpa using hbw)]
            split at h
            · rename_i hdo
              exact hK' _ _ (skip s F hdo h hF hr)
            · cases h
        · rename_i x hx
          rw [hx] at hv
          have hv' : a.tmps.getD d undef = .bool (x e) := (List.cons.inj hv).1
          rw [hv']
          simp only
          split at h
          · cases h
          · rename_i hdo
            have hdo' : dstOk s o = true := by simpa using hdo
            unfold splitB at h
            split at h
            · rename_i f g hf hgg
              obtain rfl := Option.some.inj h
              simp only [ifO] at hF
              have br : ∀ (b : Bool) (F1 : E → Option R), (if b = want then stp i o (stepList stp ops (i + 1) l K) E (s.put (some d) (.cb b)) else stepList stp ops (i + 1) l K E ((s.put (some d) (.cb b)).put o.dst (.tup []))) = some F1 → F1 e = some r → x e = b → if (some (x e) == some want) = true then o.wp P a w K' Q else K' (a.put o.dst undef) w := by
                intro b F1 h1 hF1 hxb
                have hr1 : RelG Z w0 (s.put (some d) (.cb b)) e acts a w G := hr.refine (by rw [hv', hxb]; rfl)
                split at h1
                · rename_i hbw
                  rw [if_pos (by simp [hxb, hbw])]
                  exact go _ F1 h1 hF1 hr1 K' hK'
                · rename_i hbw
                  rw [if_neg (by simp [hxb, hbw])]
                  refine hK' _ _ (skip _ F1 ?_ h1 hF1 hr1)
                  unfold dstOk at hdo' ⊢
                  cases hd2 : o.dst with
                  | none => rfl
                  | some d2 => rw [hd2] at hdo'; exact (show decide (d2 < s.size) = true from hdo')
              by_cases hxe : x e = true
              · rw [if_pos hxe] at hF
                exact br true f hf hF hxe
              · rw [if_neg hxe] at hF
                exact br false g hgg hF (by simpa using hxe)
            · cases h
        · rename_i hx
          rw [hx] at hv
          obtain ⟨us, hus, hre⟩ := hv
          rw [hus]
          simp only
          split at h
          · rename_i hdo
            rw [if_neg (by simp)]
            exact hK' _ _ (skip s F hdo h hF hr)
          · cases h
        · cases h
end
end Go.Proofs.YtpddbfodjeoofaaDoor.R
