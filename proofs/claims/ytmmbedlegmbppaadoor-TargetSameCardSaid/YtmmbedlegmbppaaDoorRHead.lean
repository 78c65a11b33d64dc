/- head.All and strings.Join as specs. -/
import Derived.Test.YtmmbedlegmbppaaDoorRT
import Derived.Test.YtmmbedlegmbppaaDoorXG
import Derived.Test.YtmmbedlegmbppaaDoorShelf
namespace Go.Proofs.YtmmbedlegmbppaaDoor.R
open Go Go.RowKit
set_option linter.unusedVariables false
/-- A new row of texts, as a view. -/
theorem new_row {w w' : World} {el : TypeId} {xs : List ByteArray} {v : Value} {Φ : Fz} (hfz : ∀ b i, Φ b i → b < w.heap.size) (hrow : w'.ownsRow w.heap.size el 1 v xs.length (xs.map Value.string)) :
    ∃ Φ' : Fz, (∀ b i, Φ b i → Φ' b i) ∧ (∀ b i, b < w.heap.size → Φ' b i → Φ b i) ∧ (w.heap.size ≤ w'.heap.size → ∀ b i, Φ' b i → b < w'.heap.size) ∧ VRel Φ' w' (.sl el .str) xs v := by
  have hg : ∀ g, v.ownBlock = some g → w.heap.size ≤ g ∧ g < w'.heap.size := by
    intro g hg
    rcases hrow.2 with ⟨rfl, _⟩ | ⟨g', cap, cur, rfl, hb, hgb, _⟩
    · cases hg
    · obtain rfl : g' = g := Option.some.inj hg
      exact ⟨hb, (Array.getElem?_eq_some_iff.1 hgb).1⟩
  refine ⟨fun b i => Φ b i ∨ (v.ownBlock = some b ∧ i < xs.length * Ty.size .str), fun b i h => .inl h, fun b i hb h => h.resolve_right (fun h => by have := (hg b h.1).1; omega), fun hsz b i h => h.elim (fun h => Nat.lt_of_lt_of_le (hfz b i h) hsz) (fun h => (hg b h.1).2), ?_⟩
  have ho : OwnRel (fun b i => Φ b i ∨ (v.ownBlock = some b ∧ i < xs.length * Ty.size .str)) w' w.heap.size el .str xs v v.ownBlock := by
    refine ⟨rfl, xs.map Value.string, hrow, fun j x hj => ?_, fun g hgg i => ⟨fun h => h.elim (fun h => by have := hfz g i h; have := (hg g hgg).1; omega) (·.2), fun h => .inr ⟨hgg, h⟩⟩⟩
    have hl : j < (xs.map Value.string).length := by rw [List.length_map]; exact (List.getElem?_eq_some_iff.1 hj).1
    show CRel _ w' .str x _
    rw [show j * Ty.size .str = j from Nat.mul_one j, List.drop_eq_getElem_cons hl]
    have hx : xs[j]'(by simpa using hl) = x := by
      have := List.getElem?_eq_getElem (l := xs) (i := j) (by simpa using hl)
      rw [this] at hj; exact Option.some.inj hj
    rw [List.getElem_map, hx]
    rfl
  exact ho.view
def head_All.f (k : Nat) (x : Tup [.sl 35 (.agg (.pair .str .str)), .str]) : Option (Tup [.sl 9 .str]) := if x.1.length ≤ 100000 then some (XG.vals x.2 x.1) else none
theorem head_All.ok : Spec.Sound P T 85 ⟨[.sl 35 (.agg (.pair .str .str)), .str], [.sl 9 .str], head_All.f⟩ := by
  rintro k ⟨l, nm⟩ r hF Φ w vs hT hfz hargs
  simp only [head_All.f] at hF
  split at hF
  case isFalse => cases hF
  case isTrue hlen =>
  obtain rfl := Option.some.inj hF
  obtain ⟨v0, vs1, hvs, h0, h1⟩ := hargs
  obtain ⟨v1, rfl, h1⟩ := h1
  obtain rfl : vs = #[v0, v1] := by apply Array.ext'; exact hvs
  obtain ⟨A, c, hA, hc1, hc2, g, o, hg, hcell⟩ : CRel Φ w (.sl _ _) l [v0] := h0
  obtain rfl : v0 = .slice A l.length c := (List.cons.inj hA).1
  obtain rfl : v1 = .string nm := (List.cons.inj (show [v1] = [Value.string nm] from h1)).1
  have hI : XG.Flds w.heap.size w A l := by
    by_cases hl : l = []
    · exact .inl hl
    · have hl0 : l.length ≠ 0 := fun h => hl (List.eq_nil_of_length_eq_zero h)
      have hA' := hg.resolve_left hl0
      have hb : g < w.heap.size := by
        obtain ⟨us, hul, hur, huc⟩ := hcell 0 _ (List.getElem?_eq_getElem (by omega))
        obtain ⟨p, q, rfl, hp, hq⟩ : CRel Φ w (.pair .str .str) l[0] us := hur
        have hp' : p = [.string (l[0]).1] := hp
        rw [hp'] at huc
        exact hfz _ _ (huc 0 _ rfl).1
      refine .inr ⟨g, o, hA', hb, fun j f hj => ?_⟩
      obtain ⟨us, hul, hur, huc⟩ := hcell j f hj
      obtain ⟨p, q, rfl, hp, hq⟩ : CRel Φ w (.pair .str .str) f us := hur
      obtain rfl : p = [.string f.1] := hp
      obtain rfl : q = [.string f.2] := hq
      exact ⟨(huc 0 _ rfl).2, (huc 1 _ rfl).2⟩
  refine (callsIn_wide.1 (XG.All_in Fence.wide 3 trivial trivial trivial rfl (Nat.le_refl _) A c l nm hlen w hI)).mono ?_
  rintro en w' ⟨v, rfl, hrow, hb⟩
  obtain ⟨Φ', h2, h3, h4, h5⟩ := new_row hfz hrow
  exact ⟨v, Φ', rfl, hb, h2, h3, h4 hb.size, [v], ⟨v, rfl, h5⟩, rfl⟩
def x_Join.f (k : Nat) (x : Tup [.sl 9 .str, .str]) : Option (Tup [.str]) :=
  if x.1.length ≤ 140737488355328 ∧ (Lib.join (x.1.map (·.data.toList)) x.2.data.toList).length ≤ 140737488355328 then some ⟨(Lib.join (x.1.map (·.data.toList)) x.2.data.toList).toArray⟩ else none
theorem x_Join.ok : Spec.Sound P T 50 ⟨[.sl 9 .str, .str], [.str], x_Join.f⟩ := by
  rintro k ⟨l, nm⟩ r hF Φ w vs hT hfz hargs
  simp only [x_Join.f] at hF
  split at hF
  case isFalse => cases hF
  case isTrue hlen =>
  obtain rfl := Option.some.inj hF
  obtain ⟨v0, vs1, hvs, h0, h1⟩ := hargs
  obtain ⟨v1, rfl, h1⟩ := h1
  obtain rfl : vs = #[v0, v1] := by apply Array.ext'; exact hvs
  obtain ⟨A, c, hA, hc1, hc2, g, o, hg, hcell⟩ : CRel Φ w (.sl _ _) l [v0] := h0
  obtain rfl : v0 = .slice A l.length c := (List.cons.inj hA).1
  obtain rfl : v1 = .string nm := (List.cons.inj (show [v1] = [Value.string nm] from h1)).1
  by_cases hl : l = []
  · subst hl
    refine (Tryd.strings_Join_none A c nm w).mono ?_
    rintro en w' ⟨rfl, rfl⟩
    exact ⟨_, Φ, rfl, Below.refl _ _, fun _ _ h => h, fun _ _ _ h => h, hfz, _, ⟨_, rfl, rfl⟩, rfl⟩
  · have hl0 : l.length ≠ 0 := fun h => hl (List.eq_nil_of_length_eq_zero h)
    obtain rfl := hg.resolve_left hl0
    have hc : ∀ (j : Nat) (x : ByteArray), l[j]? = some x → Φ g (o + j) ∧ w.cell? ⟨g, o + j, none⟩ = some (.string x) := by
      intro j x hj
      obtain ⟨us, hul, hur, huc⟩ := hcell j x hj
      obtain rfl : us = [.string x] := hur
      have := huc 0 _ rfl
      rw [show j * Ty.size .str = j from Nat.mul_one j] at this
      exact this
    refine (Tryd.strings_Join g o c l nm w (fun j x hj => (hc j x hj).2) (hfz _ _ (hc 0 _ (List.getElem?_eq_getElem (by omega))).1) hlen.1 hc1 hlen.2).mono ?_
    rintro en w' ⟨rfl, hb⟩
    exact ⟨_, Φ, rfl, hb, fun _ _ h => h, fun _ _ _ h => h, fun b i h => Nat.lt_of_lt_of_le (hfz b i h) hb.size, _, ⟨_, rfl, rfl⟩, rfl⟩
end Go.Proofs.YtmmbedlegmbppaaDoor.R
