/- The compiler is right: what a function's plain form tells, the function returns. -/
import Derived.Test.YtkjjegjafpefcaaDoorR21
namespace Go.Proofs.YtkjjegjafpefcaaDoor.R
open Go Go.RowKit
set_option linter.unusedVariables false
set_option linter.unusedSimpArgs false
/-- A loop that so many rounds end. -/
theorem wp_loop_rounds {P : Program} {Q : Exit → Act → World → Prop} {c : Code} (J : Nat → Act → World → Prop) {k : Nat} {a : Act} {w : World} (h0 : J k a w)
    (round : ∀ j a w, J j a w → c.wp P (Exit.then (fun a' w' => ∃ j', j' < j ∧ J j' a' w') Q) a w) : (Code.loop c).wp P Q a w := by
  have least : ∀ (p : Nat → Prop) (n : Nat), p n → ∃ m, p m ∧ ∀ i, i < m → ¬ p i := by
    intro p n
    induction n using Nat.strongRecOn with
    | _ n ih =>
      intro hp
      by_cases h : ∃ i, i < n ∧ p i
      · obtain ⟨i, hi, hpi⟩ := h; exact ih i hi hpi
      · exact ⟨n, hp, fun i hi hpi => h ⟨i, hi, hpi⟩⟩
  have ex : ∀ a w, ∃ m, (∃ j, J j a w) → J m a w ∧ ∀ i, i < m → ¬ J i a w := by
    intro a w
    by_cases h : ∃ j, J j a w
    · obtain ⟨j, hj⟩ := h
      obtain ⟨m, h1, h2⟩ := least (fun j => J j a w) j hj
      exact ⟨m, fun _ => ⟨h1, h2⟩⟩
    · exact ⟨0, fun h' => absurd h' h⟩
  refine wp_loop (fun a w => ∃ j, J j a w) (fun a w => Classical.choose (ex a w)) ⟨k, h0⟩ fun a w hI => ?_
  obtain ⟨h1, h2⟩ := Classical.choose_spec (ex a w) hI
  refine wp_mono (round _ a w h1) fun en a' w' hq => ?_
  cases en with
  | normal =>
    obtain ⟨j', hj, hJ⟩ := hq
    refine ⟨⟨j', hJ⟩, ?_⟩
    obtain ⟨g1, g2⟩ := Classical.choose_spec (ex a' w') ⟨j', hJ⟩
    rcases Nat.lt_or_ge j' (Classical.choose (ex a' w')) with h | h
    · exact absurd hJ (g2 j' h)
    · omega
  | _ => exact hq
section
variable {P : Program} {w0 : World} {Z : Fz} {R : Type} {r : R}
theorem iter_succ {V : Type} {f : (V → Option R) → V → Option R} {k : Nat} {v : V} (h : iter f k v = some r) : ∃ j, k = j + 1 ∧ f (iter f j) v = some r := by
  cases k with
  | zero => cases h
  | succ j => exact ⟨j, rfl, h⟩
theorem lookup_kok {acts : List (Array Value)} {Kx : List (Nat × Kont R)} {id : Nat} {K : Kont R} {Q : Exit → Act → World → Prop} (hx : ∀ j K, Kx.lookup j = some K → KOK Z w0 acts r K (Q (.exit j))) (hn : KOK Z w0 acts r K (Q .normal)) :
    ∀ j K', ((id, K) :: Kx).lookup j = some K' → KOK Z w0 acts r K' (Exit.inBlock id Q (.exit j)) := by
  intro j K' h
  rw [List.lookup_cons] at h
  split at h
  · rename_i hj
    have hj' : j = id := by simpa using hj
    cases h
    subst hj'
    intro a w ha
    simp only [Exit.inBlock, if_true]
    exact hn a w ha
  · rename_i hj
    have hj' : ¬ j = id := by simpa using hj
    intro a w ha
    simp only [Exit.inBlock, if_neg hj']
    exact hx j K' h a w ha
/-- One result. -/
def resStep (t : Array Value) : ResultVar → Sem Value
  | .tmp u => pure (t.getD u undef)
  | .cell u ty => do loadVar ty (← asAddr (t.getD u undef))
theorem results_eq (fn : Func) (t : Array Value) : results fn t = (fn.results.mapM (resStep t) >>= fun vs => pure (if h : vs.size = 1 then vs[0] else .tuple vs)) := by
  unfold results
  congr 1
/-- What a function hands back. -/
theorem res_run {E : Type} {G : Gh} {w : World} {e : E} {s : St E} {t : Array Value} (ht : EnvRel G w e s.tmps t) (hb : BlksRel G w e s.blocks) : ∀ (l : List ResultVar) (rs : List (AV E)), resOf P s l = some rs →
    ∃ vs, AV.Rels G w e rs vs ∧ (l.mapM (resStep t)).run P w = Result.ok vs w
  | [], rs, h => by
    simp only [resOf, Option.some.injEq] at h
    subst h
    exact ⟨[], rfl, by simp⟩
  | .tmp u :: l, rs, h => by
    simp only [resOf, Option.map_eq_some_iff] at h
    obtain ⟨rs', h1, rfl⟩ := h
    obtain ⟨vs, h2, h3⟩ := res_run ht hb l rs' h1
    refine ⟨t.getD u undef :: vs, .cons (ht u) h2, ?_⟩
    rw [List.mapM_cons]
    simp only [resStep, Sem.run_bind, Sem.run_pure, Result.andThen_ok, h3]
  | .cell u ty :: l, rs, h => by
    simp only [resOf, Option.bind_eq_some_iff] at h
    obtain ⟨c, hc, rs', h1, h⟩ := h
    obtain rfl := Option.some.inj h
    obtain ⟨vs, h2, h3⟩ := res_run ht hb l rs' h1
    obtain ⟨v, hv, hrun⟩ := load_run (n := fun _ => True) hc (ht u) hb (fun _ _ _ _ _ => trivial)
    have hrun' := hrun w (.refl _ _ _)
    have hp : ∃ ad, t.getD u undef = .pointer (some ad) := by
      have hu := ht u
      unfold loadOut at hc
      split at hc
      · rename_i b o hx; rw [hx] at hu; exact ⟨_, hu.2⟩
      · rename_i cs hx; rw [hx] at hu; obtain ⟨g, o, hg, _⟩ := hu; exact ⟨_, hg⟩
      · cases hc
    obtain ⟨ad, had⟩ := hp
    have hl : (loadVar ty ad).run P w = .ok v w := by
      rw [had] at hrun'
      simpa [Instr.loadAt, Instr.sureAddr] using hrun'
    refine ⟨v :: vs, .cons hv h2, ?_⟩
    rw [List.mapM_cons]
    simp only [resStep, Sem.run_bind, Sem.run_pure, Result.andThen_ok, had, asAddr, hl, h3]
theorem results_run {E : Type} {G : Gh} {w : World} {e : E} {s : St E} {t : Array Value} (ht : EnvRel G w e s.tmps t) (hb : BlksRel G w e s.blocks) {fn : Func} {rs : List (AV E)} (h : resOf P s fn.results.toList = some rs) :
    ∃ vs, AV.Rels G w e rs vs ∧ (results fn t).run P w = .ok (packV vs) w := by
  obtain ⟨vs, h1, h2⟩ := res_run ht hb _ rs h
  refine ⟨vs, h1, ?_⟩
  have h3 : (fn.results.mapM (resStep t)).run P w = .ok vs.toArray w := by
    rw [Array.mapM_eq_mapM_toList]
    show (List.toArray <$> (fn.results.toList.mapM (resStep t)) : Sem (Array Value)).run P w = _
    simp only [Sem.run_map, h2]
    rfl
  rw [results_eq]
  simp only [Sem.run_bind, h3, Result.andThen_ok, Sem.run_pure]
  congr 1
  match vs with
  | [] => rfl
  | [v] => rfl
  | v :: u :: vs => simp [packV]
theorem packs_rel {E : Type} {G : Gh} {w : World} {e : E} {rs : List (AV E)} {vs : List Value} (h : AV.Rels G w e rs vs) : (oneOrTup rs).Rel G w e (packV vs) := by
  match rs, h with
  | [], h => rw [show vs = [] from h]; exact ⟨#[], rfl, rfl⟩
  | [c], h =>
    obtain ⟨u, q, rfl, h3, h4⟩ := h
    rw [show q = [] from h4]
    exact h3
  | c :: d :: cs, h =>
    obtain ⟨u, q, rfl, h3, v, q', rfl, h4, h5⟩ := h
    exact ⟨_, rfl, ⟨u, _, rfl, h3, v, _, rfl, h4, h5⟩⟩
theorem argEnv_get {E : Type} {G : Gh} {w : World} {e : E} : ∀ (args : List (AV E)) (i : Nat) (vs : List Value) (t : Array Value), AV.Rels G w e args vs → (∀ j v, vs[j]? = some v → t.getD (i + j) undef = v) → EnvRel G w e (argEnv i args) t
  | [], i, vs, t, h, ht => fun u => trivial
  | c :: args, i, vs, t, h, ht => by
    obtain ⟨v, q, rfl, h1, h2⟩ := h
    intro u
    unfold argEnv Env.get
    by_cases hu : i = u
    · subst hu
      rw [if_pos rfl]
      have := ht 0 v rfl
      rw [Nat.add_zero] at this
      rw [this]; exact h1
    · rw [if_neg hu]
      exact argEnv_get args (i + 1) q t h2 (fun j v hj => by
        have := ht (j + 1) v (by simpa using hj)
        rw [show i + (j + 1) = i + 1 + j by omega] at this
        exact this) u
theorem comp_sound {k : Nat} {L : Specs} {T : World → Prop} (hL : ∀ f S, L.get f = some S → S.OK P T f) (hT : ∀ w, Below w0.heap.size w0 w → T w) :
    ∀ (n : Nat) (h : H) (c : Code) (E : Type) (s : St E) (Kn Kr : Kont R) (Kx : List (Nat × Kont R)) (F : E → Option R) (e : E) (acts : List (Array Value)) (a : Act) (w : World) (G : Gh) (Q : Exit → Act → World → Prop),
      comp P k L n h c E s Kn Kr Kx = some F → F e = some r → RelG Z w0 s e acts a w G → (∀ ch a w, ¬ Q (.panic ch) a w) → KOK Z w0 acts r Kn (Q .normal) → KOK Z w0 acts r Kr (Q .ret) → (∀ id K, Kx.lookup id = some K → KOK Z w0 acts r K (Q (.exit id))) → c.wp P Q a w := by
  intro n
  induction n with
  | zero => intro h c E s Kn Kr Kx F e acts a w G Q hc; cases hc
  | succ n ih =>
    intro h c E s Kn Kr Kx F e acts a w G Q hc hF hr hQ hn hre hx
    unfold comp at hc
    split at hc
    · exact wp_skip (hn a w ⟨E, s, e, F, G, hc, hF, hr⟩)
    · exact wp_ret (hre a w ⟨E, s, e, F, G, hc, hF, hr⟩)
    · rename_i id
      rw [Option.bind_eq_some_iff] at hc
      obtain ⟨K, hK, hc⟩ := hc
      exact wp_exit (hx id K hK a w ⟨E, s, e, F, G, hc, hF, hr⟩)
    · -- a region
      rename_i rid ops draw
      split at hc
      · rename_i hdraw
        split at hc
        · rename_i hck
          rw [Bool.and_eq_true] at hck
          rw [hdraw]
          have hxd : GExt G w G { w with drawn := w.drawn + 1 } := ⟨⟨fun _ _ h => h, fun _ _ _ => rfl⟩, Nat.le_refl _, Nat.le_refl _, rfl, fun _ _ => rfl, fun _ _ _ h => ⟨h, fun _ _ => ⟨rfl, fun _ h => h⟩⟩⟩
          have hr' : RelG Z w0 s e acts a { w with drawn := w.drawn + 1 } G := ⟨hr.B, hr.bel.trans ⟨rfl, rfl, rfl, Nat.le_refl _, fun _ _ => rfl⟩, hr.defers, hr.size, hr.nb, hr.nt, hr.fz, hr.tm.mono hxd, hr.stk.mono hxd, (fun b B hB => by
            have h0 := hr.blk b B hB
            cases B with
            | dead => trivial
            | cells el cs => obtain ⟨us, h1, h2, h3⟩ := h0; exact ⟨us, h1, AV.Rels.mono hxd _ _ h2, h3⟩), hr.lo, hr.inj, hr.tlo, hr.tinj, hr.zz⟩
          split at hc
          · rename_i hsp
            rw [Bool.and_eq_true, Bool.and_eq_true] at hsp
            obtain ⟨⟨hsp1, _⟩, hsp3⟩ := hsp
            have hJ := splitOK_spec hsp1
            have hsz : heads (tailOf P ops) + tails (tailOf P ops) = ops.size := by simpa using hsp3
            let Q' : Exit → Act → World → Prop := fun x a' w' => match x with
              | .normal => wpAny P .any ops Q (tails (tailOf P ops)) ((tailOf P ops).map not) a' w'
              | x => Q x a' w'
            refine wp_region_any hck.2 ?_
            have h1 := wpAny_of_L _ _ _ _ (drawGo_sound (Q := Q') hL hT hck.1 hQ (fun a' w' hA => by
              obtain ⟨E', s', e', F', G', q1, q2, q3⟩ := hA
              exact wpAny_of_L _ _ _ _ (drawGo_sound hL hT hck.1 hQ hn _ _ _ E' s' F' e' a' w' G' q1 q2 q3)) _ _ _ E s F e a _ G hc hF hr')
            have h2 := wpAny_split (Q := Q) (Q' := Q') hJ (fun _ _ _ h => h) (fun h => h) (tails (tailOf P ops)) (fun _ _ h => h) (heads (tailOf P ops)) (Array.replicate ops.size false) (tailOf P ops) a _ (by simp) hJ.size (fun i hi => by
              rw [getD_in (by rw [hJ.size]; exact hi) true false]; simp [Array.getD, hi]) (fun i hi _ => by simp [Array.getD, hi]) h1
            rwa [hsz] at h2
          · exact wp_region_any hck.2 (wpAny_of_L _ _ _ _ (drawGo_sound hL hT hck.1 hQ hn _ _ _ E s F e a _ G hc hF hr'))
        · cases hc
      · rename_i hdraw
        rw [Bool.eq_false_iff.2 hdraw]
        refine wp_region_list ?_
        refine stepList_sound (fun i o K E s F e a w G h1 h2 h3 => ?_) ops.toList 0 Kn E s F e a w G hc hF hr hn
        refine step_sound hL hT ?_ h1 h2 h3
        intro E s g args dst K F e a w G vs h4 h5 h6 h7 h8
        simp only at h4
        split at h4
        · rename_i h' fn hh hfn
          split at h4
          · rename_i body hbody
            split at h4
            · rename_i hlen
              refine calls_of_wp hfn hbody ?_
              have hvl := h8.length
              rw [Array.length_toList] at hvl
              have hr2 : RelG Z w0 { s with tmps := argEnv 0 args, size := fn.ntmps, stack := s.tmps :: s.stack } e (a.tmps :: acts) { tmps := vs ++ Array.replicate (fn.ntmps - vs.size) undef, defers := [] } w G :=
                ⟨h6.B, h6.bel, rfl, by simp; omega, h6.nb, h6.nt, h6.fz, argEnv_get args 0 vs.toList _ h8 (fun j v hj => by
                  rw [Array.getElem?_toList] at hj
                  have hjl := (Array.getElem?_eq_some_iff.1 hj).1
                  rw [Nat.zero_add, Array.getD_eq_getD_getElem?, Array.getElem?_append_left hjl, hj]; rfl), ⟨a.tmps, acts, rfl, h6.tm, h6.stk⟩, h6.blk, h6.lo, h6.inj, h6.tlo, h6.tinj, h6.zz⟩
              have hback : ∀ (Q' : Act → World → Prop), (∀ a' w', a'.defers = [] → (∃ v, (results fn a'.tmps).run P w' = .ok v w' ∧ After0 Z w0 acts K r (a.put dst v) w') → Q' a' w') →
                  KOK Z w0 (a.tmps :: acts) r (fun E' s' => match resOf P s' fn.results.toList, s'.stack with
                    | some rs, top :: rest => K E' ({ s' with tmps := top, size := s.size, stack := rest }.put dst (oneOrTup rs))
                    | _, _ => none) Q' := by
                intro Q' hQ' a' w' haft
                obtain ⟨E', s', e', F', G', q1, q2, q3⟩ := haft
                simp only at q1
                split at q1
                · rename_i rs top rest hrs hst
                  obtain ⟨vs', r1, r2⟩ := results_run q3.tm q3.blk hrs
                  refine hQ' a' w' q3.defers ⟨_, r2, E', _, e', F', G', q1, q2, ?_⟩
                  have hstk := q3.stk
                  rw [hst] at hstk
                  obtain ⟨t, ts, ht, g1, g2⟩ := hstk
                  simp only [List.cons.injEq] at ht
                  obtain ⟨rfl, rfl⟩ := ht
                  have hr3 : RelG Z w0 { s' with tmps := top, size := s.size, stack := rest } e' acts a w' G' := ⟨q3.B, q3.bel, h6.defers, h6.size, q3.nb, q3.nt, q3.fz, g1, g2, q3.blk, q3.lo, q3.inj, q3.tlo, q3.tinj, q3.zz⟩
                  exact hr3.put h7 (packs_rel r1)
                · cases q1
              refine ih h' body E _ _ _ _ F e (a.tmps :: acts) _ w G _ h4 h5 hr2 ?_ (hback _ ?_) (hback _ ?_) (fun id K' hk => by simp at hk)
              · rintro ch a' w' ⟨_, v, hv, _⟩; cases hv
              · rintro a' w' hd ⟨v, hv, haft⟩
                exact ⟨hd, v, hv, v, rfl, haft⟩
              · rintro a' w' hd ⟨v, hv, haft⟩
                exact ⟨hd, v, hv, v, rfl, haft⟩
            · cases h4
          · cases h4
        · cases h4
    · -- a block
      rename_i id body
      refine wp_block (ih h body E s Kn Kr _ F e acts a w G _ hc hF hr (fun ch a w => hQ ch a w) (fun a w ha => hn a w ha) (fun a w ha => hre a w ha) (lookup_kok hx hn))
    · -- one behind the other
      rename_i c1 c2
      have back : ∀ (Kn' : Kont R), KOK Z w0 acts r Kn' (c2.wp P Q) → ∀ ha, comp P k L n ha c1 E s Kn' Kr Kx = some F → (Code.seq c1 c2).wp P Q a w := by
        intro Kn' hk ha h1
        exact wp_seq (ih ha c1 E s Kn' Kr Kx F e acts a w G _ h1 hF hr (fun ch a w => hQ ch a w) hk (fun a w h => hre a w h) (fun id K hK a w h => hx id K hK a w h))
      split at hc
      · rename_i ha hb
        refine back _ ?_ ha hc
        rintro a' w' ⟨E', s', e', F', G', q1, q2, q3⟩
        exact ih hb c2 E' s' Kn Kr Kx F' e' acts a' w' G' Q q1 q2 q3 hQ hn hre hx
      · rename_i S ha hb
        refine back _ ?_ ha hc
        rintro a' w' ⟨E', s', e', F', G', q1, q2, q3⟩
        rw [Option.map_eq_some_iff] at q1
        obtain ⟨lv, t1, rfl⟩ := q1
        obtain ⟨G2, t2, _⟩ := take_sound t1 q3
        simp only [jn] at q2
        cases hB : comp P k L n hb c2 S.V (S.make s.size) Kn Kr Kx with
        | none => rw [hB] at q2; cases q2
        | some B =>
          rw [hB] at q2
          exact ih hb c2 S.V (S.make s.size) Kn Kr Kx B (lv e') acts a' w' G2 Q hB q2 t2 hQ hn hre hx
      · cases hc
    · -- a choice
      rename_i x c1 c2
      split at hc
      · rename_i ha hb
        have hv := ev_rel hr.tm x
        split at hc
        · rename_i hx1
          rw [hx1] at hv
          exact wp_cond_true hv (ih ha c1 E s Kn Kr Kx F e acts a w G Q hc hF hr hQ hn hre hx)
        · rename_i hx1
          rw [hx1] at hv
          exact wp_cond_false hv (ih hb c2 E s Kn Kr Kx F e acts a w G Q hc hF hr hQ hn hre hx)
        · rename_i y hx1
          rw [hx1] at hv
          have hv' : a.eval x = .bool (y e) := (List.cons.inj hv).1
          unfold splitB at hc
          split at hc
          · rename_i f g hf hg
            obtain rfl := Option.some.inj hc
            simp only [ifO] at hF
            by_cases hy : y e = true
            · rw [if_pos hy] at hF
              rw [hy] at hv'
              exact wp_cond_true hv' (ih ha c1 E s Kn Kr Kx f e acts a w G Q hf hF hr hQ hn hre hx)
            · rw [if_neg hy] at hF
              rw [Bool.eq_false_iff.2 hy] at hv'
              exact wp_cond_false hv' (ih hb c2 E s Kn Kr Kx g e acts a w G Q hg hF hr hQ hn hre hx)
          · cases hc
        · cases hc
      · cases hc
    · -- a loop
      rename_i body
      split at hc
      · rename_i S h'
        rw [Option.map_eq_some_iff] at hc
        obtain ⟨lv, t1, rfl⟩ := hc
        obtain ⟨G2, t2, _⟩ := take_sound t1 hr
        have hF1 : iter (fun again => gets (comp P k L n h' body S.V (S.make s.size) (fun _ s' => (S.take s.size s').map fun lv e => again (lv e)) Kr Kx)) k (lv e) = some r := hF
        generalize hf : (fun (again : S.V → Option R) => gets (comp P k L n h' body S.V (S.make s.size) (fun _ s' => (S.take s.size s').map fun lv e => again (lv e)) Kr Kx)) = f at hF1
        refine wp_loop_rounds (fun j a w => ∃ v G, iter f j v = some r ∧ RelG Z w0 (S.make s.size) v acts a w G) (k := k) ⟨lv e, G2, hF1, t2⟩ ?_
        rintro j a' w' ⟨v, G3, hi, hr3⟩
        obtain ⟨j', rfl, hi'⟩ := iter_succ hi
        have hi2 := hi'
        rw [← hf] at hi2
        simp only at hi2
        rw [hf] at hi2
        cases hB : comp P k L n h' body S.V (S.make s.size) (fun _ s' => (S.take s.size s').map fun lv e => iter f j' (lv e)) Kr Kx with
        | none => rw [hB] at hi2; cases hi2
        | some B =>
          rw [hB] at hi2
          refine ih h' body S.V (S.make s.size) _ Kr Kx B v acts a' w' G3 _ hB hi2 hr3 (fun ch a w => hQ ch a w) ?_ (fun a w h => hre a w h) (fun id K hK a w h => hx id K hK a w h)
          rintro a2 w2 ⟨E', s', e', F', G', q1, q2, q3⟩
          rw [Option.map_eq_some_iff] at q1
          obtain ⟨lv', t3, rfl⟩ := q1
          obtain ⟨G4, t4, _⟩ := take_sound t3 q3
          exact ⟨j', Nat.lt_succ_self _, lv' e', G4, q2, t4⟩
      · cases hc
    · cases hc
      cases hF
    · cases hc
end
/-- A function's plain form is right. -/
theorem mkSpec_sound {P : Program} {T : World → Prop} {L : Specs} {n : Nat} {h : H} {f : FuncId} {args res : List Ty} (hL : ∀ f S, L.get f = some S → S.OK P T f) (hT : ∀ w w', T w → Below w.heap.size w w' → T w') : (mkSpec P L n h f args res).Sound P T f := by
  intro k x r hF Φ w vs hTw hfz hargs
  simp only [mkSpec, fnF] at hF
  cases hfn : P.funcs[f]? with
  | none => rw [hfn] at hF; cases hF
  | some fn =>
    rw [hfn] at hF
    cases hb : fn.body with
    | none => simp only [Option.bind_some, hb, Option.bind_none] at hF; cases hF
    | some c =>
      simp only [Option.bind_some, hb] at hF
      split at hF
      · rename_i hlen
        cases hB : comp P k L n h c (Tup args) (fnSt args fn.ntmps) (fnRet P res fn.results.toList) (fnRet P res fn.results.toList) [] with
        | none => rw [hB] at hF; cases hF
        | some F0 =>
          rw [hB] at hF
          replace hF : F0 x = some r := hF
          have hvl := hargs.length
          rw [Array.length_toList] at hvl
          refine calls_of_wp hfn hb ?_
          let G0 : Gh := { Φ := Φ, ρ := fun _ => 0, γ := fun _ => none, nb := 0, nt := 0, B := w.heap.size }
          have hrels : AV.Rels G0 w x (ofTup args fun e => e) vs.toList := ofTup_rel (x := fun e => e) hargs
          have hr : RelG Φ w (fnSt args fn.ntmps) x [] { tmps := vs ++ Array.replicate (fn.ntmps - vs.size) undef, defers := [] } w G0 :=
            ⟨rfl, Below.refl _ _, rfl, by simp only [Array.size_append, Array.size_replicate]; show _ = fn.ntmps; have : (mkSpec P L n h f args res).args.length = args.length := rfl; omega, rfl, rfl, hfz, argEnv_get _ 0 vs.toList _ hrels (fun j v hj => by
              rw [Array.getElem?_toList] at hj
              have hjl := (Array.getElem?_eq_some_iff.1 hj).1
              rw [Nat.zero_add, Array.getD_eq_getD_getElem?, Array.getElem?_append_left hjl, hj]; rfl), rfl, (fun b B hB => by simp [fnSt] at hB), (fun b ⟨el, cs, hB⟩ => by simp [fnSt] at hB), (fun b b' ⟨el, cs, hB⟩ => by simp [fnSt] at hB), (fun k g hk => absurd hk (Nat.not_lt_zero _)), (fun k k' g hk => absurd hk (Nat.not_lt_zero _)), ⟨fun _ _ h => h, fun _ _ _ h => h⟩⟩
          have hret : ∀ (Q' : Act → World → Prop), (∀ a' w', a'.defers = [] → (∃ v, (results fn a'.tmps).run P w' = .ok v w' ∧ ∃ Φ' : Fz, Below w.heap.size w w' ∧ (∀ b i, Φ b i → Φ' b i) ∧ (∀ b i, b < w.heap.size → Φ' b i → Φ b i) ∧ (∀ b i, Φ' b i → b < w'.heap.size) ∧ ResRel Φ' w' res r v) → Q' a' w') →
              KOK Φ w [] r (fnRet P res fn.results.toList) Q' := by
            rintro Q' hQ' a' w' ⟨E', s', e', F', G', q1, q2, q3⟩
            have q1' : ((resOf P s' fn.results.toList).bind fun l => (toTup res l).map fun x e => some (x e)) = some F' := q1
            obtain ⟨rs, hrs, q1'⟩ := Option.bind_eq_some_iff.1 q1'
            obtain ⟨y, hy, rfl⟩ := Option.map_eq_some_iff.1 q1'
            obtain ⟨us, r1, r2⟩ := results_run q3.tm q3.blk hrs
            obtain rfl := Option.some.inj q2
            exact hQ' a' w' q3.defers ⟨_, r2, G'.Φ, q3.bel, q3.zz.1, q3.zz.2, q3.fz, us, toTup_rel hy r1, rfl⟩
          refine comp_sound (Z := Φ) (w0 := w) hL (fun w' hb' => hT w w' hTw hb') n h c (Tup args) _ _ _ _ F0 x [] _ w G0 _ hB hF hr ?_ (hret _ ?_) (hret _ ?_) (fun id K hk => by simp at hk)
          · rintro ch a' w' ⟨_, v, Φ', hv, _⟩; cases hv
          · rintro a' w' hd ⟨v, hv, Φ', p⟩
            exact ⟨hd, v, hv, v, Φ', rfl, p⟩
          · rintro a' w' hd ⟨v, hv, Φ', p⟩
            exact ⟨hd, v, hv, v, Φ', rfl, p⟩
      · cases hF
end Go.Proofs.YtkjjegjafpefcaaDoor.R
