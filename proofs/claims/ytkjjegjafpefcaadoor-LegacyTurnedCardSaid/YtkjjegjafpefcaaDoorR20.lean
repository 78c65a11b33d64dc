/- One operation, and the operations of a region in their order, do what the compiler says. -/
import Derived.Test.YtkjjegjafpefcaaDoorR19
import Derived.OrdersHeld
namespace Go.Proofs.YtkjjegjafpefcaaDoor.R
open Go Go.RowKit
set_option linter.unusedVariables false
set_option linter.unusedSimpArgs false
/-- The compiler goes on from here. -/
def After0 {R : Type} (Z : Fz) (w0 : World) (acts : List (Array Value)) (K : Kont R) (r : R) (a' : Act) (w' : World) : Prop :=
  ∃ (E' : Type) (s' : St E') (e' : E') (F' : E' → Option R) (G' : Gh), K E' s' = some F' ∧ F' e' = some r ∧ RelG Z w0 s' e' acts a' w' G'
theorem After.to0 {R : Type} {w0 : World} {Z : Fz} {acts : List (Array Value)} {K : Kont R} {r : R} {G : Gh} {w : World} {a' : Act} {w' : World} (h : After Z w0 acts K r G w a' w') : After0 Z w0 acts K r a' w' := by
  obtain ⟨E', s', e', F', G', h1, h2, h3, _⟩ := h
  exact ⟨E', s', e', F', G', h1, h2, h3⟩
/-- From wherever the compiler goes on, this holds. -/
def KOK {R : Type} (Z : Fz) (w0 : World) (acts : List (Array Value)) (r : R) (K : Kont R) (Q : Act → World → Prop) : Prop := ∀ a w, After0 Z w0 acts K r a w → Q a w
/-- An inlined call does what it should. -/
def InlOK {R : Type} (P : Program) (Z : Fz) (w0 : World) (acts : List (Array Value)) (r : R) (inl : Inl R) : Prop :=
  ∀ (E : Type) (s : St E) (f : FuncId) (args : List (AV E)) (dst : Option Tmp) (K : Kont R) (F : E → Option R) (e : E) (a : Act) (w : World) (G : Gh) (vs : Array Value), inl E s f args dst K = some F → F e = some r → RelG Z w0 s e acts a w G → dstOk' s dst → AV.Rels G w e args vs.toList →
    Calls P f vs w fun en w' => ∃ v, en = .returned v ∧ After0 Z w0 acts K r (a.put dst v) w'
section
variable {E : Type} {G : Gh} {w w0 : World} {Z : Fz} {e : E} {P : Program} {s : St E} {a : Act} {acts : List (Array Value)} {R : Type} {K : Kont R} {r : R}
theorem callable_run {g : FuncId} (h : callable P g = true) (args : Array Value) (w : World) : (callFunc g args).run P w = .ok (.enter g args) w := by
  unfold callable at h
  split at h
  · rename_i fn hf
    rw [Bool.and_eq_true] at h
    have hb : fn.body.isNone = false := by cases hh : fn.body with
      | none => rw [hh] at h; simp at h
      | some c => rfl
    have hn : (fn.name == "runtime.NumGoroutine") = false := by simpa using h.2
    unfold callFunc
    simp only [Sem.run_bind, run_program, Result.andThen_ok, hf, hn, hb, Bool.false_eq_true, if_false]
    rfl
  · cases h
theorem upTo_get {α : Type} {f : Nat → Option α} : ∀ {n m : Nat} {l : List α}, upTo f m n = some l → ∀ (i : Nat) (v : α), l[i]? = some v → i < n ∧ f (m + i) = some v
  | 0, m, l, h, i, v, hi => by
    simp only [upTo, Option.some.injEq] at h
    subst h
    simp at hi
  | n + 1, m, l, h, i, v, hi => by
    simp only [upTo, Option.bind_eq_some_iff] at h
    obtain ⟨x, hx, y, hy, h⟩ := h
    obtain rfl := Option.some.inj h
    cases i with
    | zero =>
      simp only [List.getElem?_cons_zero, Option.some.injEq] at hi
      subst hi
      exact ⟨Nat.zero_lt_succ _, hx⟩
    | succ i =>
      obtain ⟨h1, h2⟩ := upTo_get hy i v (by simpa using hi)
      exact ⟨Nat.succ_lt_succ h1, by rw [← h2]; congr 1; omega⟩
theorem caseK_spec {dst : Option Tmp} {j : E → Int} : ∀ {vs : List (AV E)} {m : Nat} {F : E → Option R}, caseK s dst K j m vs = some F → F e = some r → ∃ (i : Nat) (v : AV E) (f : E → Option R), vs[i]? = some v ∧ j e = ((m + i : Nat) : Int) ∧ K E (s.put dst v) = some f ∧ f e = some r
  | [], m, F, h, hF => by
    simp only [caseK, Option.some.injEq] at h
    subst h
    cases hF
  | v :: l, m, F, h, hF => by
    unfold caseK at h
    obtain ⟨f, g, hf, hg, rfl⟩ := splitB_spec h
    simp only [ifO] at hF
    split at hF
    · rename_i hj
      exact ⟨0, v, f, rfl, by simpa [eqI] using hj, hf, hF⟩
    · obtain ⟨i, u, f1, h1, h2, h3, h4⟩ := caseK_spec hg hF
      exact ⟨i + 1, u, f1, by simpa using h1, by rw [h2]; congr 1; omega, h3, h4⟩
theorem caseOut_run {o : Oper} {j : E → Int} {vs : List (AV E)} (h : caseOut P s o.op = some (j, vs)) (ht : EnvRel G w e s.tmps a.tmps) (i : Nat) (av : AV E) (hi : vs[i]? = some av) (hj : j e = (i : Int)) :
    ∃ v, av.Rel G w e v ∧ (execOp a.eval o).run P w = .ok (.value v) w := by
  have ev := ev_rel ht
  obtain ⟨dst, op, type, pos, after, guard⟩ := o
  unfold caseOut at h
  split at h
  · rename_i t x n0 hop
    simp only at hop
    subst hop
    split at h
    · rename_i cs j' hx hj'
      split at h
      · rename_i n el hu
        rw [Option.map_eq_some_iff] at h
        obtain ⟨vs', hvs, h⟩ := h
        obtain ⟨rfl, rfl⟩ := Prod.mk.inj h
        obtain ⟨hlt, hp⟩ := upTo_get hvs i av hi
        rw [Nat.zero_add] at hp
        have hxr := ev x
        rw [hx] at hxr
        obtain ⟨us, hus, hrs⟩ := hxr
        obtain ⟨k, hk⟩ := int_rel hj' (ev n0)
        obtain ⟨v, hv, hrun⟩ := part_run hp hrs
        refine ⟨v, hv, ?_⟩
        have hun : (P.underlying el).isNone = false := by
          unfold partOut at hp
          split at hp
          · cases hp
          · rename_i hh; exact Bool.eq_false_iff.2 hh
        have hsz := sizeT_run hun w
        have h1 : (i : Int) < (n : Int) := by omega
        simp [execOp, hus, hk, Instr.index, asIntOf, run_underlying hu, hj, hlt, hsz, hrun]
      · cases h
    · cases h
  · rename_i t x n0 hop
    simp only at hop
    subst hop
    split at h
    · rename_i b p j' hx hj'
      split at h
      · rename_i n el hu
        split at h
        · rename_i hinf
          rw [Option.map_eq_some_iff] at h
          obtain ⟨vs', hvs, h⟩ := h
          obtain ⟨rfl, rfl⟩ := Prod.mk.inj h
          obtain ⟨hlt, hp⟩ := upTo_get hvs i av hi
          rw [Nat.zero_add] at hp
          obtain rfl := Option.some.inj hp
          have hxr := ev x
          rw [hx] at hxr
          obtain ⟨hb, hus⟩ := hxr
          obtain ⟨k, hk⟩ := int_rel hj' (ev n0)
          refine ⟨.pointer (some ⟨G.ρ b, p + i * sizeT P el, none⟩), ⟨hb, rfl⟩, ?_⟩
          have h1 : (i : Int) < (n : Int) := by omega
          simp [execOp, hus, hk, Instr.indexAt, asIntOf, Instr.sureAddr, run_underlying hu, hj, hlt, size_run rfl hinf, add_cell]
        · cases h
      · cases h
    · cases h
  · cases h
theorem ofBytes_empty : ofBytes [] = ByteArray.empty := rfl
theorem isNP_rel {b : Nat} {c : AV E} {v : Value} (h : isNP b c = true) (hr : c.Rel G w e v) : v = .pointer none ∨ v = .pointer (some ⟨G.ρ b, 0, none⟩) := by
  cases c with
  | nilp => exact .inl hr
  | ptr b' o =>
    simp only [isNP, Bool.and_eq_true, decide_eq_true_eq] at h
    obtain ⟨rfl, rfl⟩ := h
    exact .inr hr.2
  | np b' o =>
    simp only [isNP, Bool.and_eq_true, decide_eq_true_eq] at h
    obtain ⟨rfl, rfl⟩ := h
    exact hr.imp id (·.2)
  | _ => simp [isNP] at h
theorem callX_sound {X : Spx} {f : FuncId} {args : List (AV E)} {dst : Option Tmp} {F : E → Option R} (hX : X.OK P f) (h : callX X args s dst K = some F) (hF : F e = some r) (hr : RelG Z w0 s e acts a w G) (hd : dstOk' s dst) {vs : Array Value} (hargs : AV.Rels G w e args vs.toList) :
    Calls P f vs w fun en w' => ∃ v, en = .returned v ∧ After Z w0 acts K r G w (a.put dst v) w' ∧ ((∀ T, X ≠ .copy T) → AfterK Z w0 acts K r G (Live s.blocks) w (a.put dst v) w') := by
  unfold callX at h
  split at h
  rotate_left
  · cases h
  rename_i b
  split at h
  rotate_left
  · cases h
  rename_i el c0 c1 hb
  split at h
  rotate_left
  · cases h
  rename_i hnp
  obtain ⟨u, us1, hvs, hu, hus1⟩ := hargs
  obtain rfl : us1 = [] := hus1
  obtain ⟨hbn, rfl⟩ := hu
  have hvs' : vs = #[.pointer (some ⟨G.ρ b, 0, none⟩)] := by apply Array.ext'; exact hvs
  subst hvs'
  obtain ⟨us, hheap, hus, hno⟩ := hr.blk b _ hb
  obtain ⟨v0, r0, h0, hc0, v1, r1, rfl, hc1, hr1⟩ := hus
  obtain rfl : r1 = [] := hr1
  have hus' : us = [v0, v1] := h0
  subst hus'
  replace hheap : w.heap[G.ρ b]? = some (.cells #[v0, v1] _ (0, 0)) := hheap
  have hn0 := isNP_rel hnp hc0
  have hlive : Live s.blocks b := ⟨_, _, hb⟩
  split at h
  · rename_i T
    split at h
    rotate_left
    · cases h
    rename_i hel
    subst hel
    refine (hX w (G.ρ b) v0 v1 hheap hn0).mono ?_
    rintro en w' ⟨rfl, hos, htp, hout, hsz, hother, hthis⟩
    obtain ⟨q1, q2⟩ := hr.turn (K' := .row el) (us' := [.pointer (some ⟨G.ρ b, 0, none⟩), v1]) (vs := [.ptr b 0, c1]) hb hos htp hout hsz hother hthis ⟨_, _, rfl, ⟨hbn, rfl⟩, _, _, rfl, hc1, rfl⟩
    refine ⟨_, rfl, ⟨E, _, e, F, _, h, hF, q1.put (s := { s with blocks := s.blocks.set b (.cells (.row el) [.ptr b 0, c1]) }) hd (av := .tup []) ⟨#[], rfl, rfl⟩, q2⟩, fun hne => absurd rfl (hne el)⟩
  · rename_i T eb
    split at h
    rotate_left
    · cases h
    rename_i hel
    subst hel
    split at h
    · obtain rfl : v1 = _ := hc1
      refine (hX w (G.ρ b) 0 v0 (.slice none 0 0) [] hheap (World.ownsRow_nil w _ _ _) (fun _ => rfl)).mono ?_
      rintro en w' ⟨rfl, hos, htp, hout, hsz, hother, _⟩
      have hbel : Below w.heap.size w w' := ⟨hos, htp, hout, hsz, fun k hk => hother k hk (by simp [Value.ownBlock])⟩
      have hx : GExt G w G w' := ⟨⟨fun _ _ h => h, fun c i hc => hbel.cell (p := ⟨c, i, none⟩) (hr.fz c i hc)⟩, Nat.le_refl _, Nat.le_refl _, rfl, fun _ _ => rfl, fun k hk bo hbo => ⟨hbo, fun g hg => by
        subst hg
        exact ⟨hbel.block g (hr.tlo k g hk hbo).2.1, fun i hi => hi⟩⟩⟩
      have hr2 : RelG Z w0 s e acts a w' G := hr.ext hx (hr.bel.trans (hbel.mono hr.bel.size)) rfl rfl (fun c i hc => Nat.lt_of_lt_of_le (hr.fz c i hc) hsz) (fun c hl => ⟨hbel.block _ (hr.live_lt hl).2, fun i hi => by
        obtain ⟨el', cs', hl'⟩ := id hl
        obtain ⟨us', _, _, hn⟩ := hr.blk c _ hl'
        exact hn i hi⟩) hsz (fun _ _ => rfl) (fun c i _ hi => hi)
      have hk : AfterK Z w0 acts K r G (Live s.blocks) w (a.put dst (.string (ofBytes []))) w' := ⟨E, _, e, F, G, h, hF, hr2.put hd (av := .sym .str fun _ => ByteArray.empty) rfl, hx.fz, rfl, (fun c => by rw [put_blocks]), fun c hl => hbel.block _ (hr.live_lt hl).2⟩
      exact ⟨_, rfl, hk.to, fun _ => hk⟩
    · rename_i k e' x
      split at h
      rotate_left
      · cases h
      rename_i he'
      subst he'
      obtain ⟨hk1, hz, bo, hbo, hown⟩ := hc1
      obtain ⟨hob, us, hrow, hreps, hΦ⟩ := hown
      subst hob
      have hsz1 : (Ty.int IntKind.u8).size = 1 := rfl
      rw [hsz1] at hrow
      have hul : us.length = (x e).length := by simpa using hrow.1
      have hus : us = (x e).map fun n => Value.int .u8 n := by
        apply List.ext_getElem?
        intro j
        rw [List.getElem?_map]
        by_cases hj : j < (x e).length
        · have h1 : CRel G.Φ w (.int .u8) (x e)[j] ((us.drop (j * 1)).take 1) := hreps j _ (List.getElem?_eq_getElem hj)
          rw [Nat.mul_one] at h1
          have hj' : j < us.length := by omega
          rw [List.drop_eq_getElem_cons hj', List.take_succ_cons, List.take_zero] at h1
          have h2 := (List.cons.inj (show [us[j]] = [Value.int .u8 (x e)[j]] from h1)).1
          rw [List.getElem?_eq_getElem hj', List.getElem?_eq_getElem hj, h2]
          rfl
        · rw [List.getElem?_eq_none (by omega), List.getElem?_eq_none (by omega)]
          rfl
      rw [hus] at hrow
      refine (hX w (G.ρ b) G.B v0 v1 (x e) hheap hrow (fun hx => hz rfl hx)).mono ?_
      rintro en w' ⟨rfl, hos, htp, hout, hsz, hother, hcell⟩
      obtain ⟨q1, q2, _, _⟩ := hr.grow (tok := some k) (w' := w') (bo := none) (L := 0) hos htp hout hsz (fun j hj => by cases hj; exact hk1)
        (fun c hc hne => hother c hc (fun hh => hne k rfl (by rw [hbo, hh]))) (fun g hg => nomatch hg)
        (fun j g hj hjg i hi => by cases hj; rw [hbo] at hjg; exact hcell g i (Option.some.inj hjg)) (fun _ _ _ _ hh => nomatch hh)
      have hlv : ∀ c, Live s.blocks c → w'.heap[G.ρ c]? = w.heap[G.ρ c]? := fun c hl => hother _ (hr.live_lt hl).2 (fun hh => (hr.tlo k _ hk1 (by rw [hbo, hh])).2.2 c hl rfl)
      have hk : AfterK Z w0 acts K r G (Live s.blocks) w (a.put dst (.string (ofBytes (x e)))) w' := ⟨E, _, e, F, _, h, hF, q1.put (dstOk'_drop (k := some k) hd) (av := .sym .str fun e => ofBytes (x e)) rfl, q2, rfl, (fun c => by rw [put_blocks]; exact drop_live), hlv⟩
      exact ⟨_, rfl, hk.to, fun _ => hk⟩
    · cases h
theorem step_sound {k : Nat} {L : Specs} {T : World → Prop} {inl : Inl R} {o : Oper} {F : E → Option R} {Q : Exit → Act → World → Prop} (hL : ∀ f S, L.get f = some S → S.OK P T f) (hT : ∀ w, Below w0.heap.size w0 w → T w) (hinl : InlOK P Z w0 acts r inl)
    (h : step P k L inl o E s K = some F) (hF : F e = some r) (hr : RelG Z w0 s e acts a w G) : o.wp P a w (fun a' w' => After0 Z w0 acts K r a' w') Q := by
  unfold step at h
  split at h
  · cases h
  rename_i hd0
  have hd := dstOk_spec (s := s) (o := o) (by simpa using hd0)
  split at h
  · -- quiet
    rename_i c hq
    obtain ⟨f, hK, hc, hf⟩ := guardIf_spec h hF
    obtain ⟨v, hv, hy⟩ := quiet_sound (n := fun _ => True) (o := o) (a := a) hq hc hr.tm hr.blk (fun _ _ _ => trivial)
    unfold Oper.wp
    rw [hy w (.refl _ _ _)]
    exact ⟨E, _, e, f, G, hK, hf, hr.put hd hv⟩
  · rename_i hq
    have chg : change P s o K = some F → o.wp P a w (fun a' w' => After0 Z w0 acts K r a' w') Q := by
      intro h
      obtain ⟨nx, v, w', hrun, hnx, haft⟩ := change_sound h hF hr hd
      unfold Oper.wp
      rw [hrun]
      rcases hnx with rfl | ⟨rfl, rfl⟩
      · exact haft.to0
      · exact haft.to0
    split at h
    · rename_i j vs hcs
      obtain ⟨i, av, f, h1, h2, h3, h4⟩ := caseK_spec h hF
      rw [Nat.zero_add] at h2
      obtain ⟨v, hv, hrun⟩ := caseOut_run hcs hr.tm i av h1 h2
      unfold Oper.wp
      rw [hrun]
      exact ⟨E, _, e, f, G, h3, h4, hr.put hd hv⟩
    split at h
    · rename_i kd y ks vs z hcs
      obtain ⟨v, av, f, hrun, hv, h3, h4⟩ := lookCase_sound hcs h hF hr.tm hr.blk
      unfold Oper.wp
      rw [hrun]
      exact ⟨E, _, e, f, G, h3, h4, hr.put hd hv⟩
    split at h
    · rename_i c hop
      split at h
      · rename_i f hcal
        unfold callOut at h
        have hf := ev_rel hr.tm f
        split at h
        · rename_i g caps hfn
          rw [hfn] at hf
          obtain ⟨us, hfv, hus⟩ := hf
          split at h
          · rename_i hcl
            have hargs : AV.Rels G w e (c.args.toList.map s.ev ++ caps) ((c.args.map a.eval ++ us).toList) := by
              rw [Array.toList_append, Array.toList_map]
              exact (evs_rel hr.tm _).append hus
            have hrun : (execOp a.eval o).run P w = .ok (.enter g (c.args.map a.eval ++ us)) w := by
              have h1 := callable_run hcl (c.args.map a.eval ++ us) w
              unfold execOp
              simp only [hop, resolve, hcal, hfv, Deferred.ofValue, Sem.run_bind, Sem.run_pure, Result.andThen_ok, invoke, Array.empty_append, h1]
            unfold Oper.wp
            rw [hrun, Oper.upon_enter]
            split at h
            · rename_i S hS
              refine (callSpec_sound (show S.Sound P T g from hL g (.fn S) hS) h hF hr (hT w hr.bel) hd hargs).mono ?_
              rintro en w' ⟨v, rfl, haft⟩
              exact haft.to0
            · rename_i X hXs
              refine (callX_sound (show X.OK P g from hL g (.x X) hXs) h hF hr hd hargs).mono ?_
              rintro en w' ⟨v, rfl, haft, _⟩
              exact haft.to0
            · refine (hinl E s g _ o.dst K F e a w G _ h hF hr hd hargs).mono ?_
              rintro en w' ⟨v, rfl, haft⟩
              exact haft
          · cases h
        · cases h
      · exact chg h
    · exact chg h
/-! ### regions in their order -/
theorem yielded_of {ops : Array Oper} {j d : Nat} {t : Array Value} (hd : (ops[j]?).bind (·.dst) = some d) : yielded ops t j = match t.getD d undef with | .bool b => some b | _ => none := by
  unfold yielded
  rw [hd]
  simp only [Option.bind_some]
  rw [Array.getD_eq_getD_getElem?]
  cases t[d]? with
  | none => simp [undef]
  | some v => cases v <;> simp
theorem RelG.refine (hr : RelG Z w0 s e acts a w G) {d : Nat} {av : AV E} (hv : av.Rel G w e (a.tmps.getD d undef)) : RelG Z w0 (s.put (some d) av) e acts a w G :=
  ⟨hr.B, hr.bel, hr.defers, hr.size, hr.nb, hr.nt, hr.fz, (fun u => by
    show (Env.get (s.tmps.set d av) u).Rel G w e _
    rw [Env.get_set]
    by_cases hu : u = d
    · rw [if_pos hu, hu]; exact hv
    · rw [if_neg hu]; exact hr.tm u), hr.stk, hr.blk, hr.lo, hr.inj, hr.tlo, hr.tinj, hr.zz⟩
theorem stepList_sound {stp : Nat → Oper → Kont R → Kont R} {ops : Array Oper} {Q : Exit → Act → World → Prop}
    (hst : ∀ i o (K : Kont R) (E : Type) (s : St E) (F : E → Option R) (e : E) (a : Act) (w : World) (G : Gh), stp i o K E s = some F → F e = some r → RelG Z w0 s e acts a w G → o.wp P a w (fun a' w' => After0 Z w0 acts K r a' w') Q) :
    ∀ (l : List Oper) (i : Nat) (K : Kont R) (E : Type) (s : St E) (F : E → Option R) (e : E) (a : Act) (w : World) (G : Gh), stepList stp ops i l K E s = some F → F e = some r → RelG Z w0 s e acts a w G → KOK Z w0 acts r K (Q .normal) → wpList P ops Q l a w
  | [], i, K, E, s, F, e, a, w, G, h, hF, hr, hK => hK a w ⟨E, s, e, F, G, h, hF, hr⟩
  | o :: l, i, K, E, s, F, e, a, w, G, h, hF, hr, hK => by
    have next : ∀ a' w', After0 Z w0 acts (stepList stp ops (i + 1) l K) r a' w' → wpList P ops Q l a' w' := by
      rintro a' w' ⟨E', s', e', F', G', h1, h2, h3⟩
      exact stepList_sound hst l (i + 1) K E' s' F' e' a' w' G' h1 h2 h3 hK
    have go : ∀ (s : St E) (F : E → Option R), stp i o (stepList stp ops (i + 1) l K) E s = some F → F e = some r → RelG Z w0 s e acts a w G → ∀ K' : Act → World → Prop, (∀ a w, wpList P ops Q l a w → K' a w) → o.wp P a w K' Q :=
      fun s F h hF hr K' hK' => Oper.wp_mono (fun a' w' haft => hK' a' w' (next a' w' haft)) (hst i o _ E s F e a w G h hF hr)
    have skip : ∀ (s : St E) (F : E → Option R), dstOk s o = true → stepList stp ops (i + 1) l K E (s.put o.dst (.tup [])) = some F → F e = some r → RelG Z w0 s e acts a w G → wpList P ops Q l (a.put o.dst undef) w :=
      fun s F hd h hF hr => next _ _ ⟨E, _, e, F, G, h, hF, hr.put (dstOk_spec hd) ⟨#[], rfl, rfl⟩⟩
    refine wpList_step fun K' hK' => ?_
    unfold stepList at h
    cases hg : o.guard with
    | none =>
      simp only [hg] at h
      rw [if_pos (by simp [Region.wanted, hg])]
      exact go s F h hF hr K' hK'
    | some jw =>
      obtain ⟨j, want⟩ := jw
      simp only [hg] at h
      split at h
      · cases h
      · rename_i d hd
        have hy := yielded_of (t := a.tmps) hd
        have hwant : Region.wanted o (yielded ops a.tmps) = (yielded ops a.tmps j == some want) := by simp [Region.wanted, hg]
        rw [hwant, hy]
        have hv := hr.tm d
        split at h
        · rename_i b hb
          rw [hb] at hv
          rw [show a.tmps.getD d undef = .bool b from hv]
          simp only
          split at h
          · rename_i hbw
            rw [if_pos (by simp [hbw])]
            exact go s F h hF hr K' hK'
          · rename_i hbw
            rw [if_neg (by simpa using hbw)]
            split at h
            · rename_i hdo
              exact hK' _ _ (skip s F hdo h hF hr)
            · cases h
        · rename_i x hx
          rw [hx] at hv
          have hv' : a.tmps.getD d undef = .bool (x e) := (List.cons.inj hv).1
          rw [hv']
          simp only
          split at h
          · cases h
          · rename_i hdo
            have hdo' : dstOk s o = true := by simpa using hdo
            unfold splitB at h
            split at h
            · rename_i f g hf hgg
              obtain rfl := Option.some.inj h
              simp only [ifO] at hF
              have br : ∀ (b : Bool) (F1 : E → Option R), (if b = want then stp i o (stepList stp ops (i + 1) l K) E (s.put (some d) (.cb b)) else stepList stp ops (i + 1) l K E ((s.put (some d) (.cb b)).put o.dst (.tup []))) = some F1 → F1 e = some r → x e = b → if (some (x e) == some want) = true then o.wp P a w K' Q else K' (a.put o.dst undef) w := by
                intro b F1 h1 hF1 hxb
                have hr1 : RelG Z w0 (s.put (some d) (.cb b)) e acts a w G := hr.refine (by rw [hv', hxb]; rfl)
                split at h1
                · rename_i hbw
                  rw [if_pos (by simp [hxb, hbw])]
                  exact go _ F1 h1 hF1 hr1 K' hK'
                · rename_i hbw
                  rw [if_neg (by simp [hxb, hbw])]
                  refine hK' _ _ (skip _ F1 ?_ h1 hF1 hr1)
                  unfold dstOk at hdo' ⊢
                  cases hd2 : o.dst with
                  | none => rfl
                  | some d2 => rw [hd2] at hdo'; exact (show decide (d2 < s.size) = true from hdo')
              by_cases hxe : x e = true
              · rw [if_pos hxe] at hF
                exact br true f hf hF hxe
              · rw [if_neg hxe] at hF
                exact br false g hgg hF (by simpa using hxe)
            · cases h
        · rename_i hx
          rw [hx] at hv
          obtain ⟨us, hus, hre⟩ := hv
          rw [hus]
          simp only
          split at h
          · rename_i hdo
            rw [if_neg (by simp)]
            exact hK' _ _ (skip s F hdo h hF hr)
          · cases h
        · cases h
end
end Go.Proofs.YtkjjegjafpefcaaDoor.R
