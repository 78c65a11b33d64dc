/- What changes the memory: new blocks, stores, rows that are appended to. -/
import Derived.Test.YtkjjegjafpefcaaDoorR10
import Derived.Laws.Append
import Derived.Laws.CopyRow
namespace Go.Proofs.YtkjjegjafpefcaaDoor.R
open Go Go.RowKit
set_option linter.unusedVariables false
set_option linter.unusedSimpArgs false
section
variable {E : Type} {G : Gh} {w w0 : World} {Z : Fz} {e : E} {P : Program} {s : St E} {a : Act} {acts : List (Array Value)}
theorem RelG.live_lt (hr : RelG Z w0 s e acts a w G) {b : Nat} (h : Live s.blocks b) : b < G.nb ∧ G.ρ b < w.heap.size := by
  obtain ⟨el, cs, hl⟩ := h
  obtain ⟨us, hk, _⟩ := hr.blk b _ hl
  obtain ⟨ob, hh⟩ := hk.some
  exact ⟨by rw [hr.nb]; exact (List.getElem?_eq_some_iff.1 hl).1, (Array.getElem?_eq_some_iff.1 hh).1⟩
theorem cell_alloc {o : Obj} {b i : Nat} (h : b < w.heap.size) : (w.alloc o).cell? ⟨b, i, none⟩ = w.cell? ⟨b, i, none⟩ := World.cell?_of_block (w := w) (a := ⟨b, i, none⟩) (heap_alloc_old w o b h)
/-- A new block of our own. -/
def Gh.newBlk (G : Gh) (w : World) : Gh := { G with ρ := fun b => if b = G.nb then w.heap.size else G.ρ b, nb := G.nb + 1 }
theorem newBlk_ext (hr : RelG Z w0 s e acts a w G) (o : Obj) : GExt G w (G.newBlk w) (w.alloc o) :=
  ⟨⟨fun _ _ h => h, fun b i h => cell_alloc (hr.fz b i h)⟩, Nat.le_succ _, Nat.le_refl _, rfl, fun b hb => by simp only [Gh.newBlk]; rw [if_neg (by omega)], fun k hk bo hbo => ⟨hbo, fun g hg => by
    subst hg
    exact ⟨heap_alloc_old w o g (hr.tlo k g hk hbo).2.1, fun i hi => hi⟩⟩⟩
theorem RelG.newBlk (hr : RelG Z w0 s e acts a w G) {K : BK} {ob : Obj} {cs : List (AV E)} {us : List Value} (hk : KIs (some ob) us K) (hc : AV.Rels G w e cs us) :
    RelG Z w0 (newBlk s K cs) e acts a (w.alloc ob) (G.newBlk w) ∧ (AV.ptr (E := E) s.blocks.length 0).Rel (G.newBlk w) (w.alloc ob) e (.pointer (some ⟨w.heap.size, 0, none⟩)) ∧ (AV.mp (E := E) s.blocks.length).Rel (G.newBlk w) (w.alloc ob) e (.map (some w.heap.size)) := by
  have hx := newBlk_ext hr ob
  have hnb : G.nb = s.blocks.length := hr.nb
  have hnew : (G.newBlk w).ρ s.blocks.length = w.heap.size := by simp only [Gh.newBlk]; rw [if_pos hnb.symm]
  have hlive : ∀ b, Live (s.blocks ++ [Blk.cells K cs]) b → b ≠ s.blocks.length → Live s.blocks b := by
    rintro b ⟨el', cs', hb⟩ hne
    rw [List.getElem?_append] at hb
    split at hb
    · exact ⟨el', cs', hb⟩
    · rename_i h1
      have : b - s.blocks.length ≠ 0 := by omega
      rw [List.getElem?_eq_none (by simp; omega)] at hb
      cases hb
  have hold : ∀ b, Live s.blocks b → (G.newBlk w).ρ b = G.ρ b := fun b hb => hx.ρ b (hr.live_lt hb).1
  refine ⟨⟨hr.B, Below.alloc hr.bel hr.bel.size _, hr.defers, hr.size, by simp [R.newBlk, Gh.newBlk, hnb], hr.nt, ?_, hr.tm.mono hx, hr.stk.mono hx, ?_, ?_, ?_, ?_, hr.tinj, hr.zz⟩, ?_⟩
  · intro b i h
    have := hr.fz b i h
    simp; omega
  · intro b B hB
    simp only [R.newBlk] at hB
    rw [List.getElem?_append] at hB
    split at hB
    · rename_i hlt
      have h0 := hr.blk b B hB
      cases B with
      | dead => trivial
      | cells el' cs' =>
        obtain ⟨us', h1, h2, h3⟩ := h0
        have hl : Live s.blocks b := ⟨el', cs', hB⟩
        refine ⟨us', ?_, AV.Rels.mono hx _ _ h2, ?_⟩
        · rw [hold b hl, heap_alloc_old w _ _ (hr.live_lt hl).2]; exact h1
        · rw [hold b hl]; exact h3
    · rename_i hge
      have hb0 : b = s.blocks.length := by
        rcases Nat.lt_or_ge s.blocks.length b with h1 | h1
        · rw [List.getElem?_eq_none (by simp; omega)] at hB; cases hB
        · omega
      subst hb0
      rw [Nat.sub_self] at hB
      simp only [List.getElem?_cons_zero, Option.some.injEq] at hB
      subst hB
      refine ⟨us, by rw [hnew, heap_alloc_new w _]; exact hk, AV.Rels.mono hx _ _ hc, fun i hi => ?_⟩
      rw [hnew] at hi
      exact Nat.lt_irrefl _ (hr.fz _ _ hi)
  · intro b hl
    by_cases hb : b = s.blocks.length
    · rw [hb, hnew]; show G.B ≤ _; rw [hr.B]; exact hr.bel.size
    · rw [hold b (hlive b hl hb)]; exact hr.lo b (hlive b hl hb)
  · intro b b' hl hl' heq
    by_cases hb : b = s.blocks.length <;> by_cases hb' : b' = s.blocks.length
    · omega
    · rw [hb, hnew, hold b' (hlive b' hl' hb')] at heq
      have := (hr.live_lt (hlive b' hl' hb')).2
      omega
    · rw [hb', hnew, hold b (hlive b hl hb)] at heq
      have := (hr.live_lt (hlive b hl hb)).2
      omega
    · rw [hold b (hlive b hl hb), hold b' (hlive b' hl' hb')] at heq
      exact hr.inj b b' (hlive b hl hb) (hlive b' hl' hb') heq
  · intro k g hk hg
    obtain ⟨h1, h2, h3⟩ := hr.tlo k g hk hg
    refine ⟨h1, by simp; omega, fun b hl => ?_⟩
    by_cases hb : b = s.blocks.length
    · rw [hb, hnew]; omega
    · rw [hold b (hlive b hl hb)]; exact h3 b (hlive b hl hb)
  · refine ⟨⟨by simp [Gh.newBlk, hnb], ?_⟩, by simp [Gh.newBlk, hnb], ?_⟩ <;> rw [hnew]
theorem putCells_list : ∀ (vs : List (AV E)) (cs : List (AV E)) (us ns : List Value) (o : Nat), AV.Rels G w e cs us → AV.Rels G w e vs ns → o + ns.length ≤ us.length → AV.Rels G w e (putCells cs o vs) (us.take o ++ ns ++ us.drop (o + ns.length))
  | [], cs, us, ns, o, h, hn, hl => by
    rw [show ns = [] from hn]
    simp only [putCells, List.append_nil, List.length_nil, Nat.add_zero, List.take_append_drop]
    exact h
  | v :: vs, cs, us, ns, o, h, hn, hl => by
    obtain ⟨u, r, rfl, h1, h2⟩ := hn
    have hlt : o < us.length := by simp at hl; omega
    have := putCells_list vs (cs.set o v) (us.set o u) r (o + 1) (h.set o h1) h2 (by simp at hl ⊢; omega)
    unfold putCells
    have he : us.take o ++ (u :: r) ++ us.drop (o + (u :: r).length) = (us.set o u).take (o + 1) ++ r ++ (us.set o u).drop (o + 1 + r.length) := by
      rw [List.drop_set_of_lt (by omega), List.take_set, List.set_eq_take_append_cons_drop]
      rw [if_pos (by simp; omega)]
      simp only [List.take_take, List.length_cons]
      rw [Nat.min_eq_left (by omega)]
      have : (us.take (o + 1)).drop (o + 1) = [] := by rw [List.drop_eq_nil_of_le (by simp; omega)]
      rw [this]
      simp [List.append_assoc, Nat.add_assoc, Nat.add_comm 1]
    rw [he]
    exact this
/-- A block of our own that holds something else now. -/
theorem RelG.turn (hr : RelG Z w0 s e acts a w G) {b : Nat} {K K' : BK} {cs vs : List (AV E)} {us' : List Value} {w' : World} (hb : s.blocks[b]? = some (.cells K cs)) (hos : w'.os = w.os) (htp : w'.tape = w.tape) (hout : w'.output = w.output) (hsz : w'.heap.size = w.heap.size)
    (hother : ∀ g, g ≠ G.ρ b → w'.heap[g]? = w.heap[g]?) (hthis : KIs (w'.heap[G.ρ b]?) us' K') (hv : AV.Rels G w e vs us') :
    RelG Z w0 { s with blocks := s.blocks.set b (.cells K' vs) } e acts a w' G ∧ FExt G.Φ w G.Φ w' := by
  have hlive : Live s.blocks b := ⟨K, cs, hb⟩
  have hblt := hr.live_lt hlive
  obtain ⟨us0, hu0, _, hn0⟩ := hr.blk b _ hb
  have hfx : FExt G.Φ w G.Φ w' := ⟨fun _ _ h => h, fun c i h => World.cell?_of_block (w := w) (a := ⟨c, i, none⟩) (hother c (fun he => hn0 i (he ▸ h)))⟩
  have hx : GExt G w G w' := ⟨hfx, Nat.le_refl _, Nat.le_refl _, rfl, fun _ _ => rfl, fun k hk bo hbo => ⟨hbo, fun g hg => by
    subst hg
    exact ⟨hother g (fun he => (hr.tlo k g hk hbo).2.2 b hlive he.symm), fun i hi => hi⟩⟩⟩
  have hl2 : ∀ c, Live (s.blocks.set b (Blk.cells K' (vs))) c ↔ Live s.blocks c := by
    intro c
    unfold Live
    rw [List.getElem?_set]
    by_cases hbc : b = c
    · subst hbc
      rw [if_pos rfl, if_pos (by rw [← hr.nb]; exact hblt.1), hb]
      simp
    · rw [if_neg hbc]
  have hbel : Below w0.heap.size w0 w' := by
    refine hr.bel.trans ⟨hos, htp, hout, by omega, fun k hk => hother k ?_⟩
    have := hr.lo b hlive
    rw [hr.B] at this
    omega
  refine ⟨⟨hr.B, hbel, hr.defers, hr.size, by simp [hr.nb], hr.nt, fun c i h => by have := hr.fz c i h; omega, hr.tm.mono hx, hr.stk.mono hx, ?_, fun c hl => hr.lo c ((hl2 c).1 hl), fun c c' hl hl' => hr.inj c c' ((hl2 c).1 hl) ((hl2 c').1 hl'), fun k g hk hg => ?_, hr.tinj, hr.zz⟩, hfx⟩
  · intro c B hB
    simp only at hB
    rw [List.getElem?_set] at hB
    by_cases hbc : b = c
    · subst hbc
      rw [if_pos rfl, if_pos (by rw [← hr.nb]; exact hblt.1)] at hB
      obtain rfl := Option.some.inj hB
      exact ⟨_, hthis, AV.Rels.mono hx _ _ hv, hn0⟩
    · rw [if_neg hbc] at hB
      have h0 := hr.blk c B hB
      cases B with
      | dead => trivial
      | cells el' cs' =>
        obtain ⟨us', h1, h2, h3⟩ := h0
        refine ⟨us', ?_, AV.Rels.mono hx _ _ h2, h3⟩
        rw [hother _ (fun he => hbc (hr.inj b c hlive ⟨el', cs', hB⟩ he.symm))]
        exact h1
  · obtain ⟨h1, h2, h3⟩ := hr.tlo k g hk hg
    exact ⟨h1, by omega, fun c hl => h3 c ((hl2 c).1 hl)⟩
/-- Cells of a block of our own are written. -/
theorem RelG.store (hr : RelG Z w0 s e acts a w G) {b o : Nat} {el : TypeId} {cs vs : List (AV E)} {us : Array Value} {ns : List Value} (hb : s.blocks[b]? = some (.cells (.row el) cs)) (hu : w.heap[G.ρ b]? = some (.cells us el (0, 0))) (hc : AV.Rels G w e cs us.toList) (hv : AV.Rels G w e vs ns) (hl : o + ns.length ≤ us.size) :
    RelG Z w0 { s with blocks := s.blocks.set b (.cells (.row el) (putCells cs o vs)) } e acts a (w.setRow (G.ρ b) (us.toList.take o ++ ns ++ us.toList.drop (o + ns.length)).toArray) G ∧ FExt G.Φ w G.Φ (w.setRow (G.ρ b) (us.toList.take o ++ ns ++ us.toList.drop (o + ns.length)).toArray) :=
  hr.turn (us' := us.toList.take o ++ ns ++ us.toList.drop (o + ns.length)) hb rfl rfl rfl (by simp [World.setRow]) (fun g hg => setRow_other w (G.ρ b) g _ hg) (setRow_heap w (G.ρ b) us _ el _ hu) (putCells_list vs cs us.toList ns o hc hv (by simpa using hl))
end
end Go.Proofs.YtkjjegjafpefcaaDoor.R
