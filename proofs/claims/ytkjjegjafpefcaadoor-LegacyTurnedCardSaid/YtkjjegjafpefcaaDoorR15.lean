/- An operation that changes something does what the compiler says. -/
import Derived.Test.YtkjjegjafpefcaaDoorR14
import Derived.Lib.ConvBytes
namespace Go.Proofs.YtkjjegjafpefcaaDoor.R
open Go Go.RowKit
set_option linter.unusedVariables false
set_option linter.unusedSimpArgs false
section
variable {E : Type} {G : Gh} {w w0 : World} {Z : Fz} {e : E} {P : Program} {s : St E} {a : Act} {acts : List (Array Value)} {R : Type} {K : Kont R} {r : R}
theorem fitsL_iff {n m : Int} {b : Nat} : fitsL n m b = true ↔ (n + m) * b ≤ 140737488355328 ∧ n + m ≤ 140737488355328 := by simp [fitsL]
theorem posI_iff {n : Int} : posI n = true ↔ 0 < n := by simp [posI]
theorem guardIf_spec {c : Option (E → Bool)} {k : Option (E → Option R)} {F : E → Option R} (h : guardIf c k = some F) (hF : F e = some r) : ∃ f, k = some f ∧ (∀ g, c = some g → g e = true) ∧ f e = some r := by
  unfold guardIf at h
  split at h
  · exact ⟨F, h, (fun g hg => nomatch hg), hF⟩
  · rename_i c
    rw [Option.map_eq_some_iff] at h
    obtain ⟨f, hf, rfl⟩ := h
    simp only [ifO] at hF
    split at hF
    · rename_i hc
      exact ⟨f, hf, fun g hg => by cases hg; exact hc, hF⟩
    · cases hF
theorem splitB_spec {x : E → Bool} {A B : Option (E → Option R)} {F : E → Option R} (h : splitB x A B = some F) : ∃ f g, A = some f ∧ B = some g ∧ F = fun e => ifO (x e) (f e) (g e) := by
  unfold splitB at h
  split at h
  · exact ⟨_, _, rfl, rfl, (Option.some.inj h).symm⟩
  · cases h
theorem St.put_size (s : St E) (d : Option Tmp) (v : AV E) : (s.put d v).size = s.size := by cases d <;> rfl
theorem dstOk'_newTok {d : Option Tmp} (h : dstOk' s d) : dstOk' (newTok s) d := h
theorem dstOk'_drop {d : Option Tmp} {k : Option Nat} (h : dstOk' s d) : dstOk' (s.drop k) d := by cases k <;> exact h
/-- What 'append' does. -/
theorem appendTo_sound {dst : Option Tmp} {t u ty : TypeId} {x y : AV E} {vx vy : Value} {F : E → Option R} (h : appendTo P s dst t u x y K = some F) (hF : F e = some r) (hr : RelG Z w0 s e acts a w G) (hd : dstOk' s dst) (hx : x.Rel G w e vx) (hy : y.Rel G w e vy) :
    ∃ v w', (Builtin.append_ #[t, u] ty #[vx, vy]).run P w = .ok v w' ∧ After Z w0 acts K r G w (a.put dst v) w' := by
  unfold appendTo at h
  split at h
  rotate_left
  · cases h
  rename_i el ht
  simp only [Option.bind_eq_some_iff] at h
  obtain ⟨tt, htt, ⟨tok, full, xs⟩, hb, ys, hys, h⟩ := h
  split at h
  rotate_left
  · cases h
  rename_i hck
  simp only [Bool.and_eq_true, decide_eq_true_eq, Option.any_eq_true] at hck
  obtain ⟨⟨⟨⟨hsz, hpos⟩, hby⟩, rfl⟩, z, hz, hzs⟩ := hck
  obtain ⟨F1, hK, hc, hF1⟩ := guardIf_spec h hF
  have hfit := hc _ rfl
  obtain ⟨it, zv, hit, hiz, hzc⟩ := zero_some hz
  have hsize : it.size = tt.size := by rw [hsz]; simp [sizeT, Program.cellsOf, hit]
  have hbytes : bytesT P el = it.bytes := by simp [bytesT, Program.bytesOf, hit]
  have hzcs : zv.cells.size = it.size := by rw [hzc, hsize]; exact hzs
  have hyr := AV.to1_rel hys hy
  obtain ⟨A2, c2, hv2, _, _⟩ := id hyr
  obtain rfl := (List.cons.inj hv2).1
  obtain ⟨news, n1, n2, n3, n4⟩ := slice_cells hyr
  have hfit' : ((xs e).length + (ys e).length) * it.bytes ≤ 140737488355328 ∧ (xs e).length + (ys e).length ≤ 140737488355328 := by
    rw [fitsL_iff, hbytes] at hfit
    obtain ⟨f1, f2⟩ := hfit
    have f1' : (((xs e).length : Int) + ((ys e).length : Int)) * (it.bytes : Int) ≤ 140737488355328 := f1
    have f2' : ((xs e).length : Int) + ((ys e).length : Int) ≤ 140737488355328 := f2
    refine ⟨?_, by omega⟩
    have h2 : ((((xs e).length + (ys e).length) * it.bytes : Nat) : Int) ≤ ((140737488355328 : Nat) : Int) := by rw [Int.natCast_mul, Int.natCast_add]; exact f1'
    exact Int.ofNat_le.1 h2
  have hA : (ys e).length = 0 ∨ ∃ ad, A2 = some ad ∧ ∀ j u, news[j]? = some u → w.cell? (ad.add j) = some u := by
    rcases n4 with h0 | ⟨g, o, rfl, hc4⟩
    · exact .inl h0
    · exact .inr ⟨⟨g, o, none⟩, rfl, fun j u hj => by rw [add_cell]; exact (hc4 j u hj).2⟩
  have hbase : w0.heap.size ≤ w.heap.size := hr.bel.size
  -- what the row holds then
  have finish : ∀ (v' : Value) (w' : World) (us : List Value) (n : Nat), n = (xs e).length → w'.ownsRow G.B el it.size v' (n + (ys e).length) (us ++ news) → us.length = n * tt.size → (∀ (j : Nat) (x : tt.den), (xs e)[j]? = some x → CRel G.Φ w tt x ((us.drop (j * tt.size)).take tt.size)) →
      ∀ G' : Gh, FExt G.Φ w G'.Φ w' → G'.B = G.B → (∀ g, v'.ownBlock = some g → ∀ i, G'.Φ g i ↔ i < (n + (ys e).length) * tt.size) → OwnRel G'.Φ w' G'.B el tt (catL (xs e) (ys e)) v' v'.ownBlock := by
    intro v' w' us n hn hrow hus hcr G' hfx hB hΦ
    subst hn
    have hlen : (catL (xs e) (ys e)).length = (xs e).length + (ys e).length := List.length_append
    refine ⟨rfl, us ++ news, by rw [hlen, hB, ← hsize]; exact hrow, fun j x hj => ?_, fun g hg i => by rw [hlen]; exact hΦ g hg i⟩
    unfold catL at hj
    rw [List.getElem?_append] at hj
    split at hj
    · rename_i hlt
      have := (hcr j x hj).mono hfx
      have hle : (j + 1) * tt.size ≤ us.length := by rw [hus]; exact Nat.mul_le_mul_right _ hlt
      rw [Nat.succ_mul] at hle
      rw [List.drop_append_of_le_length (by omega), List.take_append_of_le_length (by rw [List.length_drop]; omega)]
      exact this
    · rename_i hge
      have := (n2 _ x hj).mono hfx
      have hj' : j * tt.size = us.length + (j - (xs e).length) * tt.size := by
        rw [hus, ← Nat.add_mul]; congr 1; omega
      rw [hj', List.drop_append]
      rw [List.drop_eq_nil_of_le (by omega), List.nil_append, Nat.add_sub_cancel_left]
      exact this
  rcases base_rel hb hx with ⟨rfl, htok, hnone, hown, hemp⟩ | ⟨rfl, rfl, hcr, A, n, rfl⟩
  · -- a row of our own
    replace hK : K E ((newTok (s.drop tok)).put dst (.own x.emptyNil s.nt el tt fun e' => catL (xs e') (ys e'))) = some F1 := hK
    obtain ⟨_, us, hrow, hreps, hΦ0⟩ := hown
    rw [hr.B, ← hsize] at hrow
    obtain ⟨v', w', hrun, hrow', hg, hm0⟩ := append_own (P := P) (ty := ty) (c := c2) ht hit hiz hzcs (by omega) hrow hbase (by rw [n1, hsize]) hA n3 hfit'.1 hfit'.2
    refine ⟨v', w', hrun, ?_⟩
    have hus : us.length = (xs e).length * tt.size := by rw [← hsize]; exact hrow.1
    obtain ⟨q1, q2, q3, q4⟩ := hr.grow (tok := tok) (w' := w') (bo := v'.ownBlock) (L := ((xs e).length + (ys e).length) * tt.size) hg.os hg.tape hg.output hg.size (fun k hk => (htok k hk).1)
      (fun b hb hne => by
        rcases hg.way with ⟨_, h2⟩ | ⟨_, _, h2⟩
        · refine h2 b (fun he => ?_)
          cases tok with
          | none => rw [hnone rfl] at he; cases he
          | some k => exact hne k rfl (by rw [(htok k rfl).2, ← he])
        · exact h2 b hb)
      (fun g hgg => by
        rcases hg.way with ⟨h1, _⟩ | ⟨h1, h2, _⟩
        · rw [h1] at hgg
          cases tok with
          | none => rw [hnone rfl] at hgg; cases hgg
          | some k => exact .inr ⟨k, rfl, by rw [(htok k rfl).2, hgg]⟩
        · rw [h1] at hgg; cases hgg; exact .inl ⟨rfl, h2⟩)
      (fun k g hk hkg i hi => by
        have hvg : vx.ownBlock = some g := by have := (htok k hk).2; rw [hkg] at this; exact (Option.some.inj this).symm
        rcases hg.way with ⟨h1, _⟩ | ⟨_, _, h2⟩
        · have hlt := (hΦ0 g hvg i).1 hi
          have hlt' : i < us.length := by rw [hus]; exact hlt
          have e1 := own_cell hrow hvg (List.getElem?_eq_getElem hlt')
          have e2 := own_cell hrow' (h1.trans hvg) (i := i) (u := us[i]) (by rw [List.getElem?_append_left hlt']; exact List.getElem?_eq_getElem hlt')
          rw [e1, e2]
        · exact World.cell?_of_block (w := w) (a := ⟨g, i, none⟩) (h2 g (hr.fz g i hi)))
      (fun k g hk hkg hbo i hi => by
        have hvg : vx.ownBlock = some g := by have := (htok k hk).2; rw [hkg] at this; exact (Option.some.inj this).symm
        have hlt := (hΦ0 g hvg i).1 hi
        exact Nat.lt_of_lt_of_le hlt (Nat.mul_le_mul_right _ (Nat.le_add_right _ _)))
    have hown' := finish v' w' us _ rfl (by rw [hr.B]; exact hrow') hus hreps _ q2 rfl q3
    have hput := (q1.newTok (bo := v'.ownBlock) q4).put (d := dst) (dstOk'_drop hd) (own_rel (z := x.emptyNil) (x := fun e' => catL (xs e') (ys e')) (el := el) hown' (fun hz hx => by
      have hl : (xs e ++ ys e).length = 0 := by rw [show xs e ++ ys e = [] from hx]; rfl
      rw [List.length_append] at hl
      rw [hm0 (by omega)]
      exact hemp hz (List.eq_nil_of_length_eq_zero (by omega))))
    rw [show ({ G with Φ := fun b i => G.Φ b i ∨ (v'.ownBlock = some b ∧ i < ((xs e).length + (ys e).length) * tt.size), γ := fun j => if tok = some j then none else G.γ j } : Gh).nt = s.nt from hr.nt] at hput
    exact ⟨E, _, e, F1, _, hK, hF1, hput, q2⟩
  · -- a slice that is full
    have hcr' : CRel G.Φ w (.sl el tt) (xs e) [.slice A (xs e).length n] ∧ n = (xs e).length := by
      obtain ⟨A', c', hv, _⟩ := id hcr
      have := (List.cons.inj hv).1
      simp only [Value.slice.injEq] at this
      obtain ⟨_, h2, _⟩ := this
      rw [← h2]
      rw [h2] at hcr ⊢
      exact ⟨hcr, rfl⟩
    obtain ⟨hcr', rfl⟩ := hcr'
    obtain ⟨us, m1, m2, _, m4⟩ := slice_cells hcr'
    obtain ⟨f1, f2, hk1, hk2, rfl⟩ := splitB_spec (show splitB (fun e' => posI (lenL (ys e'))) (K E ((newTok (s.drop none)).put dst (.own x.emptyNil s.nt el tt fun e' => catL (xs e') (ys e')))) (K E (s.put dst x)) = some F1 from hK)
    cases hp : posI (lenL (ys e)) with
    | false =>
      have h0 : (ys e).length = 0 := by
        have hp' : ¬ (0 < lenL (ys e)) := fun h => by rw [(posI_iff (n := lenL (ys e))).2 h] at hp; cases hp
        unfold lenL at hp'
        omega
      refine ⟨_, w, ?_, E, _, e, f2, G, hk2, ?_, hr.put hd hx, .refl _ _⟩
      · rw [h0]; exact append_none ht hit (Nat.le_refl _)
      · rw [← hF1]; simp only [hp, ifO]; rfl
    | true =>
    replace hF1 : f1 e = some r := by rw [← hF1]; simp only [hp, ifO]; rfl
    have hm : 0 < (ys e).length := by
      rw [posI_iff] at hp
      unfold lenL at hp
      omega
    obtain ⟨v', w', hrun, hrow', hg, hvo, hgt, hsame⟩ := append_full (P := P) (ty := ty) (A := A) (base := w0.heap.size) (c := c2) (us := us) ht hit hiz hzcs (by omega) (by rw [m1, hsize]) (by
      rcases m4 with h0 | ⟨g, o, rfl, hc4⟩
      · exact .inl h0
      · exact .inr ⟨⟨g, o, none⟩, rfl, fun j u hj => by rw [add_cell]; exact (hc4 j u hj).2⟩) hbase (by rw [n1, hsize]) hA hm hfit'.1 hfit'.2
    refine ⟨v', w', hrun, ?_⟩
    obtain ⟨q1, q2, q3, q4⟩ := hr.grow (tok := none) (w' := w') (bo := v'.ownBlock) (L := ((xs e).length + (ys e).length) * tt.size) hg.os hg.tape hg.output hg.size (fun k hk => nomatch hk)
      (fun b hb _ => hsame b hb) (fun g hgg => by rw [hvo] at hgg; cases hgg; exact .inl ⟨rfl, hgt⟩) (fun k g hk => nomatch hk) (fun k g hk => nomatch hk)
    have hown' := finish v' w' us _ rfl (by rw [hr.B]; exact hrow') m1 m2 _ q2 rfl q3
    have hput := (q1.newTok (bo := v'.ownBlock) q4).put (d := dst) (dstOk'_drop (k := none) hd) (own_rel (z := x.emptyNil) (x := fun e' => catL (xs e') (ys e')) (el := el) hown' (fun hz hx => by
      have hl : (xs e ++ ys e).length = 0 := by rw [show xs e ++ ys e = [] from hx]; rfl
      rw [List.length_append] at hl
      omega))
    rw [show ({ G with Φ := fun b i => G.Φ b i ∨ (v'.ownBlock = some b ∧ i < ((xs e).length + (ys e).length) * tt.size), γ := fun j => if (none : Option Nat) = some j then none else G.γ j } : Gh).nt = s.nt from hr.nt] at hput
    exact ⟨E, _, e, f1, _, hk1, hF1, hput, q2⟩
/-- What 'append' does with a text. -/
theorem appendStr_sound {dst : Option Tmp} {t u ty : TypeId} {x y : AV E} {vx vy : Value} {F : E → Option R} (h : appendStr P s dst t u x y K = some F) (hF : F e = some r) (hr : RelG Z w0 s e acts a w G) (hd : dstOk' s dst) (hx : x.Rel G w e vx) (hy : y.Rel G w e vy) :
    ∃ v w', (Builtin.append_ #[t, u] ty #[vx, vy]).run P w = .ok v w' ∧ After Z w0 acts K r G w (a.put dst v) w' := by
  unfold appendStr at h
  split at h
  rotate_left
  · cases h
  rename_i el ys ht
  split at h
  rotate_left
  · cases h
  rename_i i hi htt
  simp only [Option.bind_eq_some_iff] at h
  obtain ⟨⟨tok, full, xs⟩, hb, h⟩ := h
  split at h
  rotate_left
  · cases h
  rename_i hck
  simp only [Bool.and_eq_true, decide_eq_true_eq, Bool.not_eq_true'] at hck
  obtain ⟨⟨⟨⟨hs1, hby⟩, hz⟩, hu⟩, hfull⟩ := hck
  have hz : i.zero = some (.int .u8 0) := by
    unfold isU80 at hz
    split at hz
    · rename_i n hn
      rw [hn, show n = 0 by simpa using hz]
    · cases hz
  obtain ⟨F1, hK, hc, hF1⟩ := guardIf_spec h hF
  have hfit := hc _ rfl
  rw [fitsL_iff] at hfit
  have hy' : vy = .string (ys e) := (List.cons.inj hy).1
  subst hy'
  have hbase : w0.heap.size ≤ w.heap.size := hr.bel.size
  rcases base_rel hb hx with ⟨_, htok, hnone, hown, hemp⟩ | ⟨hh, _⟩
  rotate_left
  · rw [show full = false from hfull] at hh; cases hh
  obtain ⟨_, us, hrow, hreps, hΦ0⟩ := hown
  have hsz1 : (Ty.int IntKind.u8).size = 1 := rfl
  rw [hr.B, hsz1] at hrow
  have hfit' : (xs e).length + (ys e).size ≤ 140737488355328 := by
    obtain ⟨_, f2⟩ := hfit
    have f2' : ((xs e).length : Int) + ((ys e).size : Int) ≤ 140737488355328 := f2
    omega
  obtain ⟨v', w', hrun, hrow', hg, hm0⟩ := append_own_str (P := P) (ty := ty) ht (isStrT_spec hu) hi hz hs1 hby hrow hbase (ys e) hfit'
  refine ⟨v', w', hrun, ?_⟩
  have hus : us.length = (xs e).length := by simpa using hrow.1
  have hbl : (bytesI (ys e)).length = (ys e).size := by unfold bytesI; rw [List.length_map]; exact Array.length_toList
  obtain ⟨q1, q2, q3, q4⟩ := hr.grow (tok := tok) (w' := w') (bo := v'.ownBlock) (L := (xs e).length + (ys e).size) hg.os hg.tape hg.output hg.size (fun k hk => (htok k hk).1)
    (fun b hb hne => by
      rcases hg.way with ⟨_, h2⟩ | ⟨_, _, h2⟩
      · refine h2 b (fun he => ?_)
        cases tok with
        | none => rw [hnone rfl] at he; cases he
        | some k => exact hne k rfl (by rw [(htok k rfl).2, ← he])
      · exact h2 b hb)
    (fun g hgg => by
      rcases hg.way with ⟨h1, _⟩ | ⟨h1, h2, _⟩
      · rw [h1] at hgg
        cases tok with
        | none => rw [hnone rfl] at hgg; cases hgg
        | some k => exact .inr ⟨k, rfl, by rw [(htok k rfl).2, hgg]⟩
      · rw [h1] at hgg; cases hgg; exact .inl ⟨rfl, h2⟩)
    (fun k g hk hkg j hj => by
      have hvg : vx.ownBlock = some g := by have := (htok k hk).2; rw [hkg] at this; exact (Option.some.inj this).symm
      rcases hg.way with ⟨h1, _⟩ | ⟨_, _, h2⟩
      · have hlt := (hΦ0 g hvg j).1 hj
        rw [hsz1, Nat.mul_one] at hlt
        have hlt' : j < us.length := by rw [hus]; exact hlt
        have e1 := own_cell hrow hvg (List.getElem?_eq_getElem hlt')
        have e2 := own_cell hrow' (h1.trans hvg) (i := j) (u := us[j]) (by rw [List.getElem?_append_left hlt']; exact List.getElem?_eq_getElem hlt')
        rw [e1, e2]
      · exact World.cell?_of_block (w := w) (a := ⟨g, j, none⟩) (h2 g (hr.fz g j hj)))
    (fun k g hk hkg hbo j hj => by
      have hvg : vx.ownBlock = some g := by have := (htok k hk).2; rw [hkg] at this; exact (Option.some.inj this).symm
      have hlt := (hΦ0 g hvg j).1 hj
      rw [hsz1, Nat.mul_one] at hlt
      exact Nat.lt_of_lt_of_le hlt (Nat.le_add_right _ _))
  have hlen : (catL (xs e) (bytesI (ys e))).length = (xs e).length + (ys e).size := by unfold catL; rw [List.length_append, hbl]
  have hown' : OwnRel (fun b i => G.Φ b i ∨ (v'.ownBlock = some b ∧ i < (xs e).length + (ys e).size)) w' G.B el (.int .u8) (catL (xs e) (bytesI (ys e))) v' v'.ownBlock := by
    refine ⟨rfl, us ++ Lib.strCells (ys e), by rw [hlen, hr.B]; exact hrow', fun j x hj => ?_, fun g hg j => by rw [hlen, hsz1, Nat.mul_one]; exact q3 g hg j⟩
    unfold catL at hj
    rw [List.getElem?_append] at hj
    rw [hsz1, Nat.mul_one]
    split at hj
    · rename_i hlt
      have := (hreps j x hj).mono q2
      rw [hsz1, Nat.mul_one] at this
      rw [List.drop_append_of_le_length (by omega), List.take_append_of_le_length (by rw [List.length_drop]; omega)]
      exact this
    · rename_i hge
      have hj2 : (bytesI (ys e))[j - (xs e).length]? = some x := hj
      unfold bytesI at hj2
      rw [List.getElem?_map, Option.map_eq_some_iff] at hj2
      obtain ⟨b, hb2, rfl⟩ := hj2
      have hlt2 := (List.getElem?_eq_some_iff.1 hb2).1
      rw [List.drop_append, List.drop_eq_nil_of_le (by omega), List.nil_append, hus]
      have hc : (Lib.strCells (ys e))[j - (xs e).length]? = some (.int .u8 b.toNat) := by
        unfold Lib.strCells
        simp [hb2]
      obtain ⟨hlt3, hc'⟩ := List.getElem?_eq_some_iff.1 hc
      rw [List.drop_eq_getElem_cons hlt3, hc', List.take_succ_cons, List.take_zero]
      rfl
  have hput := (q1.newTok (bo := v'.ownBlock) q4).put (d := dst) (dstOk'_drop hd) (own_rel (z := x.emptyNil) (x := fun e' => catL (xs e') (bytesI (ys e'))) (el := el) hown' (fun hz hx => by
    have hl : (xs e ++ bytesI (ys e)).length = 0 := by rw [show xs e ++ bytesI (ys e) = [] from hx]; rfl
    rw [List.length_append, hbl] at hl
    rw [hm0 (by omega)]
    exact hemp hz (List.eq_nil_of_length_eq_zero (by omega))))
  rw [show ({ G with Φ := fun b i => G.Φ b i ∨ (v'.ownBlock = some b ∧ i < (xs e).length + (ys e).size), γ := fun j => if tok = some j then none else G.γ j } : Gh).nt = s.nt from hr.nt] at hput
  exact ⟨E, _, e, F1, _, hK, hF1, hput, q2⟩
end
end Go.Proofs.YtkjjegjafpefcaaDoor.R
