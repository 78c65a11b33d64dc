/- A state that has a shape is told by its plain data: the whole state. -/
import Derived.Test.YtkjjegjafpefcaaDoorR17
namespace Go.Proofs.YtkjjegjafpefcaaDoor.R
open Go Go.RowKit
set_option linter.unusedVariables false
set_option linter.unusedSimpArgs false
section
variable {E D : Type} {G G' : Gh} {w w0 : World} {Z : Fz} {e : E} {d : D} {P : Program} {s : St E} {a : Act} {acts : List (Array Value)}
theorem env_make (leaf : (t : Ty) → Nat → D → t.den) (hG : Retold G G') {env : Env E} {t : Array Value} (hr : EnvRel G w e env t) : ∀ (ps : List (Nat × Pat)) (ls : List (Leaf E)) (i k : Nat), env.takes ps = some ls → (ps.all fun p => p.2.ok G'.nb) = true → LeavesAt leaf d e ls i → ToksAt G G' (env.tokss ps) k →
    EnvRel G' w d (Env.makes leaf ps i k).val t ∧ (Env.makes leaf ps i k).i = i + ls.length ∧ (Env.makes leaf ps i k).k = k + (env.tokss ps).length
  | [], ls, i, k, h, _, hl, ht => by
    simp only [Env.takes, Option.some.injEq] at h
    subst h
    exact ⟨fun u => trivial, rfl, rfl⟩
  | (u, p) :: ps, ls, i, k, h, hok, hl, ht => by
    simp only [Env.takes, Option.bind_eq_some_iff] at h
    obtain ⟨x, hx, y, hy, h⟩ := h
    obtain rfl := Option.some.inj h
    rw [List.all_cons, Bool.and_eq_true] at hok
    obtain ⟨l1, l2⟩ := hl.split
    obtain ⟨t1, t2⟩ := ht.split
    have a1 := take_make leaf hG p (env.get u) x i k _ hx hok.1 (hr u) l1 t1
    obtain ⟨a2, a3, a4⟩ := env_make leaf hG hr ps y (p.make leaf i k).i (p.make leaf i k).k hy hok.2 (by rw [a1.i]; exact l2) (by rw [a1.k]; exact t2)
    refine ⟨fun v => ?_, ?_, ?_⟩
    · show (Env.get ((u, (p.make leaf i k).val) :: (Env.makes leaf ps (p.make leaf i k).i (p.make leaf i k).k).val) v).Rel G' w d _
      unfold Env.get
      by_cases hv : u = v
      · subst hv; rw [if_pos rfl]; exact a1.rel
      · rw [if_neg hv]; exact a2 v
    · show (Env.makes leaf ps (p.make leaf i k).i (p.make leaf i k).k).i = _
      rw [a3, a1.i, List.length_append]; omega
    · show (Env.makes leaf ps (p.make leaf i k).i (p.make leaf i k).k).k = _
      rw [a4, a1.k]
      show _ = k + (p.toks (env.get u) ++ env.tokss ps).length
      rw [List.length_append]; omega
theorem stack_make (leaf : (t : Ty) → Nat → D → t.den) (hG : Retold G G') : ∀ (ss : List (Env E)) (ts : List (Array Value)) (ps : List (List (Nat × Pat))) (ls : List (Leaf E)) (i k : Nat), StkRel G w e ss ts → stackTakes ss ps = some ls → (ps.all fun l => l.all fun p => p.2.ok G'.nb) = true → LeavesAt leaf d e ls i → ToksAt G G' (stackToks ss ps) k →
    StkRel G' w d (stackMakes leaf ps i k).val ts ∧ (stackMakes leaf ps i k).i = i + ls.length ∧ (stackMakes leaf ps i k).k = k + (stackToks ss ps).length
  | [], ts, ps, ls, i, k, hr, h, _, hl, ht => by
    cases ps with
    | nil => simp only [stackTakes, Option.some.injEq] at h; subst h; exact ⟨hr, rfl, rfl⟩
    | cons p ps => simp [stackTakes] at h
  | s :: ss, ts, ps, ls, i, k, hr, h, hok, hl, ht => by
    cases ps with
    | nil => simp [stackTakes] at h
    | cons p ps =>
      obtain ⟨t, ts', rfl, h1, h2⟩ := hr
      simp only [stackTakes, Option.bind_eq_some_iff] at h
      obtain ⟨x, hx, y, hy, h⟩ := h
      obtain rfl := Option.some.inj h
      rw [List.all_cons, Bool.and_eq_true] at hok
      obtain ⟨l1, l2⟩ := hl.split
      obtain ⟨t1, t2⟩ := ht.split
      obtain ⟨a1, a2, a3⟩ := env_make leaf hG h1 p x i k hx hok.1 l1 t1
      obtain ⟨b1, b2, b3⟩ := stack_make leaf hG ss ts' ps y (Env.makes leaf p i k).i (Env.makes leaf p i k).k h2 hy hok.2 (by rw [a2]; exact l2) (by rw [a3]; exact t2)
      refine ⟨⟨t, ts', rfl, a1, b1⟩, ?_, ?_⟩
      · show (stackMakes leaf ps (Env.makes leaf p i k).i (Env.makes leaf p i k).k).i = _
        rw [b2, a2, List.length_append]; omega
      · show (stackMakes leaf ps (Env.makes leaf p i k).i (Env.makes leaf p i k).k).k = _
        rw [b3, a3]
        show _ = k + (s.tokss p ++ stackToks ss ps).length
        rw [List.length_append]; omega
theorem blk_make (leaf : (t : Ty) → Nat → D → t.den) (hG : Retold G G') : ∀ (bs : List (Blk E)) (b0 : Nat) (ps : List (Option (BK × List Pat))) (ls : List (Leaf E)) (i k : Nat), (∀ b B, bs[b]? = some B → BlkRel G w e (b0 + b) B) → blkTakes bs ps = some ls →
    (ps.all fun b => match b with | none => true | some (_, q) => Pat.oks G'.nb q) = true → LeavesAt leaf d e ls i → ToksAt G G' (blkToks bs ps) k →
    (∀ b B, (blkMakes leaf ps i k).val[b]? = some B → BlkRel G' w d (b0 + b) B ∧ (Live (blkMakes leaf ps i k).val b → Live bs b)) ∧ (blkMakes leaf ps i k).val.length = ps.length ∧ (blkMakes leaf ps i k).i = i + ls.length ∧ (blkMakes leaf ps i k).k = k + (blkToks bs ps).length
  | bs, b0, [], ls, i, k, hr, h, _, hl, ht => by
    have : ls = [] := by cases bs <;> simp [blkTakes] at h <;> exact h
    subst this
    refine ⟨fun b B hB => by simp [blkMakes] at hB, rfl, rfl, ?_⟩
    cases bs with
    | nil => rfl
    | cons b bs => cases b <;> rfl
  | [], b0, p :: ps, ls, i, k, hr, h, _, hl, ht => by cases p <;> simp [blkTakes] at h
  | b :: bs, b0, none :: ps, ls, i, k, hr, h, hok, hl, ht => by
    have htk : blkToks (b :: bs) (none :: ps) = blkToks bs ps := by cases b <;> rfl
    have htt : blkTakes (b :: bs) (none :: ps) = blkTakes bs ps := by cases b <;> rfl
    rw [htk] at ht ⊢
    rw [htt] at h
    rw [List.all_cons, Bool.and_eq_true] at hok
    obtain ⟨a1, a2, a3, a4⟩ := blk_make leaf hG bs (b0 + 1) ps ls i k (fun b' B hB => by
      have := hr (b' + 1) B (by simpa using hB)
      rw [show b0 + (b' + 1) = b0 + 1 + b' by omega] at this
      exact this) h hok.2 hl ht
    refine ⟨fun b' B hB => ?_, by show (blkMakes leaf ps i k).val.length + 1 = _; rw [a2]; rfl, a3, a4⟩
    cases b' with
    | zero =>
      have : B = .dead := by simpa [blkMakes] using hB.symm
      subst this
      exact ⟨trivial, fun ⟨el, cs, hh⟩ => by simp [blkMakes] at hh⟩
    | succ b' =>
      have hB' : (blkMakes leaf ps i k).val[b']? = some B := by simpa [blkMakes] using hB
      obtain ⟨h1, h2⟩ := a1 b' B hB'
      rw [show b0 + 1 + b' = b0 + (b' + 1) by omega] at h1
      refine ⟨h1, fun ⟨el, cs, hh⟩ => ?_⟩
      obtain ⟨el', cs', h3⟩ := h2 ⟨el, cs, by simpa [blkMakes] using hh⟩
      exact ⟨el', cs', by simpa using h3⟩
  | b :: bs, b0, some (el, q) :: ps, ls, i, k, hr, h, hok, hl, ht => by
    cases b with
    | dead => simp [blkTakes] at h
    | cells el' cs =>
      simp only [blkTakes] at h
      split at h
      · rename_i hel
        subst hel
        simp only [Option.bind_eq_some_iff] at h
        obtain ⟨x, hx, y, hy, h⟩ := h
        obtain rfl := Option.some.inj h
        rw [List.all_cons, Bool.and_eq_true] at hok
        obtain ⟨l1, l2⟩ := hl.split
        obtain ⟨t1, t2⟩ := ht.split
        obtain ⟨us, hu, hus, hno⟩ := hr 0 _ rfl
        have c1 := takes_make leaf hG q cs x i k us hx hok.1 hus l1 t1
        obtain ⟨a1, a2, a3, a4⟩ := blk_make leaf hG bs (b0 + 1) ps y (Pat.makes leaf q i k).i (Pat.makes leaf q i k).k (fun b' B hB => by
          have := hr (b' + 1) B (by simpa using hB)
          rw [show b0 + (b' + 1) = b0 + 1 + b' by omega] at this
          exact this) hy hok.2 (by rw [c1.i]; exact l2) (by rw [c1.k]; exact t2)
        refine ⟨fun b' B hB => ?_, by show (blkMakes leaf ps _ _).val.length + 1 = _; rw [a2]; rfl, ?_, ?_⟩
        · cases b' with
          | zero =>
            have : B = .cells el' (Pat.makes leaf q i k).val := by simpa [blkMakes] using hB.symm
            subst this
            exact ⟨⟨us, by rw [hG.ρ]; exact hu, c1.rel, by rw [hG.ρ, hG.Φ]; exact hno⟩, fun _ => ⟨el', cs, rfl⟩⟩
          | succ b' =>
            have hB' : (blkMakes leaf ps (Pat.makes leaf q i k).i (Pat.makes leaf q i k).k).val[b']? = some B := by simpa [blkMakes] using hB
            obtain ⟨h1, h2⟩ := a1 b' B hB'
            rw [show b0 + 1 + b' = b0 + (b' + 1) by omega] at h1
            refine ⟨h1, fun ⟨el2, cs2, hh⟩ => ?_⟩
            obtain ⟨el3, cs3, h3⟩ := h2 ⟨el2, cs2, by simpa [blkMakes] using hh⟩
            exact ⟨el3, cs3, by simpa using h3⟩
        · show (blkMakes leaf ps (Pat.makes leaf q i k).i (Pat.makes leaf q i k).k).i = _
          rw [a3, c1.i, List.length_append]; omega
        · show (blkMakes leaf ps (Pat.makes leaf q i k).i (Pat.makes leaf q i k).k).k = _
          rw [a4, c1.k]
          show _ = k + (Pat.tokss q cs ++ blkToks bs ps).length
          rw [List.length_append]; omega
      · split at h
        · rename_i mt ks kd vd hne
          simp only [Option.bind_eq_some_iff] at h
          obtain ⟨x, hx, y, hy, h⟩ := h
          obtain rfl := Option.some.inj h
          rw [List.all_cons, Bool.and_eq_true] at hok
          have htk : blkToks (.cells (.smap mt ks) cs :: bs) (some (.dmap, [.ents kd vd]) :: ps) = blkToks bs ps := by
            cases cs <;> simp [blkToks, Pat.tokss, Pat.toks]
          rw [htk] at ht ⊢
          obtain ⟨us, ⟨ens, clk, hm, hks, rfl⟩, hus, hno⟩ := hr 0 _ rfl
          have hmi := MapIs.of_keys hx hks hus
          obtain ⟨l1, l2⟩ := LeavesAt.split (ks := [⟨.sl 0 (.pair kd vd), x⟩]) (ls := y) hl
          obtain ⟨a1, a2, a3, a4⟩ := blk_make leaf hG bs (b0 + 1) ps y (i + 1) k (fun b' B hB => by
            have := hr (b' + 1) B (by simpa using hB)
            rw [show b0 + (b' + 1) = b0 + 1 + b' by omega] at this
            exact this) hy hok.2 l2 ht
          refine ⟨fun b' B hB => ?_, by show (blkMakes leaf ps (i + 1) k).val.length + 1 = _; rw [a2]; rfl, ?_, ?_⟩
          · cases b' with
            | zero =>
              have : B = .cells .dmap [.ents kd vd (leaf (.sl 0 (.pair kd vd)) i)] := by simpa [blkMakes, Pat.makes, Pat.make] using hB.symm
              subst this
              refine ⟨⟨[.agg (ens.map fun en => .agg #[en.key, en.val])], by rw [hG.ρ]; exact ⟨ens, clk, hm, rfl⟩, .cons ⟨_, rfl, ?_⟩ .nil, by rw [hG.ρ, hG.Φ]; exact hno⟩, fun _ => ⟨_, _, rfl⟩⟩
              rw [show leaf (.sl 0 (.pair kd vd)) i d = x e from l1 0 (.sl 0 (.pair kd vd)) x rfl, hG.Φ, Array.toList_map]
              exact hmi.ents
            | succ b' =>
              have hB' : (blkMakes leaf ps (i + 1) k).val[b']? = some B := by simpa [blkMakes, Pat.makes, Pat.make] using hB
              obtain ⟨h1, h2⟩ := a1 b' B hB'
              rw [show b0 + 1 + b' = b0 + (b' + 1) by omega] at h1
              refine ⟨h1, fun ⟨el2, cs2, hh⟩ => ?_⟩
              obtain ⟨el3, cs3, h3⟩ := h2 ⟨el2, cs2, by simpa [blkMakes, Pat.makes, Pat.make] using hh⟩
              exact ⟨el3, cs3, by simpa using h3⟩
          · show (blkMakes leaf ps (i + 1) k).i = _
            rw [a3, List.length_cons]; omega
          · exact a4
        · cases h
/-! ### tokens -/
mutual
theorem toks_lt : ∀ (p : Pat) (av : AV E) (v : Value), av.Rel G w e v → ∀ k, some k ∈ p.toks av → k < G.nt ∧ ∃ bo, G.γ k = some bo
  | .own z el t, av, v, hr, k, hk => by
    cases av with
    | own z' k' el' t' x =>
      simp only [Pat.toks, List.mem_singleton, Option.some.injEq] at hk
      subst hk
      obtain ⟨h1, _, bo, h2, _⟩ := hr
      exact ⟨h1, bo, h2⟩
    | _ => simp [Pat.toks] at hk
  | .ag ps, av, v, hr, k, hk => by
    cases av with
    | ag cs => obtain ⟨us, _, h⟩ := hr; exact tokss_lt ps cs us.toList h k hk
    | _ => simp [Pat.toks] at hk
  | .fn f ps, av, v, hr, k, hk => by
    cases av with
    | fn g cs => obtain ⟨us, _, h⟩ := hr; exact tokss_lt ps cs us.toList h k hk
    | _ => simp [Pat.toks] at hk
  | .undef, av, v, hr, k, hk => by cases av <;> simp [Pat.toks] at hk
  | .sym t, av, v, hr, k, hk => by cases av <;> simp [Pat.toks] at hk
  | .cb b, av, v, hr, k, hk => by cases av <;> simp [Pat.toks] at hk
  | .nilsl, av, v, hr, k, hk => by cases av <;> simp [Pat.toks] at hk
  | .full el t, av, v, hr, k, hk => by cases av <;> simp [Pat.toks] at hk
  | .ptr b o, av, v, hr, k, hk => by cases av <;> simp [Pat.toks] at hk
  | .nilp, av, v, hr, k, hk => by cases av <;> simp [Pat.toks] at hk
  | .mp b, av, v, hr, k, hk => by cases av <;> simp [Pat.toks] at hk
  | .ents kd vd, av, v, hr, k, hk => by cases av <;> simp [Pat.toks] at hk
theorem tokss_lt : ∀ (ps : List Pat) (cs : List (AV E)) (vs : List Value), AV.Rels G w e cs vs → ∀ k, some k ∈ Pat.tokss ps cs → k < G.nt ∧ ∃ bo, G.γ k = some bo
  | [], cs, vs, hr, k, hk => by cases cs <;> simp [Pat.tokss] at hk
  | p :: ps, [], vs, hr, k, hk => by simp [Pat.tokss] at hk
  | p :: ps, c :: cs, vs, hr, k, hk => by
    obtain ⟨u, r, rfl, h1, h2⟩ := hr
    rw [Pat.tokss, List.mem_append] at hk
    rcases hk with hk | hk
    · exact toks_lt p c u h1 k hk
    · exact tokss_lt ps cs r h2 k hk
end
theorem env_toks_lt {env : Env E} {t : Array Value} (hr : EnvRel G w e env t) : ∀ (ps : List (Nat × Pat)) (k : Nat), some k ∈ env.tokss ps → k < G.nt ∧ ∃ bo, G.γ k = some bo
  | [], k, hk => by simp [Env.tokss] at hk
  | (u, p) :: ps, k, hk => by
    rw [Env.tokss, List.mem_append] at hk
    rcases hk with hk | hk
    · exact toks_lt p _ _ (hr u) k hk
    · exact env_toks_lt hr ps k hk
theorem stack_toks_lt : ∀ (ss : List (Env E)) (ts : List (Array Value)) (ps : List (List (Nat × Pat))), StkRel G w e ss ts → ∀ k, some k ∈ stackToks ss ps → k < G.nt ∧ ∃ bo, G.γ k = some bo
  | [], ts, ps, hr, k, hk => by cases ps <;> simp [stackToks] at hk
  | s :: ss, ts, [], hr, k, hk => by simp [stackToks] at hk
  | s :: ss, ts, p :: ps, hr, k, hk => by
    obtain ⟨t, ts', rfl, h1, h2⟩ := hr
    rw [stackToks, List.mem_append] at hk
    rcases hk with hk | hk
    · exact env_toks_lt h1 p k hk
    · exact stack_toks_lt ss ts' ps h2 k hk
theorem blk_toks_lt : ∀ (bs : List (Blk E)) (b0 : Nat) (ps : List (Option (BK × List Pat))), (∀ b B, bs[b]? = some B → BlkRel G w e (b0 + b) B) → ∀ k, some k ∈ blkToks bs ps → k < G.nt ∧ ∃ bo, G.γ k = some bo
  | [], b0, ps, hr, k, hk => by cases ps with
    | nil => simp [blkToks] at hk
    | cons p ps => cases p <;> simp [blkToks] at hk
  | b :: bs, b0, [], hr, k, hk => by cases b <;> simp [blkToks] at hk
  | b :: bs, b0, none :: ps, hr, k, hk => by
    have htk : blkToks (b :: bs) (none :: ps) = blkToks bs ps := by cases b <;> rfl
    rw [htk] at hk
    exact blk_toks_lt bs (b0 + 1) ps (fun b' B hB => by
      have := hr (b' + 1) B (by simpa using hB)
      rw [show b0 + (b' + 1) = b0 + 1 + b' by omega] at this
      exact this) k hk
  | .dead :: bs, b0, some (el, q) :: ps, hr, k, hk => by simp [blkToks] at hk
  | .cells el' cs :: bs, b0, some (el, q) :: ps, hr, k, hk => by
    obtain ⟨us, hu, hus, hno⟩ := hr 0 _ rfl
    rw [blkToks, List.mem_append] at hk
    rcases hk with hk | hk
    · exact tokss_lt q cs us hus k hk
    · exact blk_toks_lt bs (b0 + 1) ps (fun b' B hB => by
        have := hr (b' + 1) B (by simpa using hB)
        rw [show b0 + (b' + 1) = b0 + 1 + b' by omega] at this
        exact this) k hk
end
end Go.Proofs.YtkjjegjafpefcaaDoor.R
