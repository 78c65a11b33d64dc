/- The document's paths without dots are the program's. -/
import Derived.Test.YtmmbedlegmbppaaDoorPDots2
import Derived.Test.YtmmbedlegmbppaaDoorPCut
namespace Go.Proofs.YtmmbedlegmbppaaDoor.R
open Go Go.RowKit
set_option linter.unusedSimpArgs false
set_option linter.unusedVariables false
theorem getLastD_mem' : ∀ (ps : List Bs), ps ≠ [] → ps.getLastD [] = ps[ps.length - 1]?.getD [] := fun ps h => by
  rw [List.getLastD_eq_getLast?, List.getLast?_eq_getElem?]
def slash1 (p : Bs) : Bs := 47 :: p
theorem cat_slash : ∀ ks : List Bs, ks ≠ [] → ks.flatMap slash1 = 47 :: joinB 47 ks
  | [], h => absurd rfl h
  | [p], _ => by simp [joinB, slash1]
  | p :: q :: r, _ => by
    have ih := cat_slash (q :: r) (by simp)
    rw [List.flatMap_cons, ih, joinB]
    simp [slash1]
theorem cat_tot : ∀ ks : List Bs, (ks.flatMap slash1).length = tot ks
  | [] => rfl
  | p :: r => by
    have ih := cat_tot r
    rw [List.flatMap_cons, List.length_append, ih, tot]
    simp [slash1]
theorem tot_take (ks : List Bs) (i : Nat) : tot (ks.take i) ≤ tot ks := by
  have := tot_app (ks.take i) (ks.drop i)
  rw [List.take_append_drop] at this
  omega
theorem r9join (ks : List Bs) (h1 : ks.length ≤ 300000) (h2 : tot ks ≤ 300000) (k : Nat) (hk : ks.length + 1 < k) : ref09_Dots.j6 k (ks.map B) = some (B (47 :: joinB 47 ks)) := by
  unfold ref09_Dots.j6 ref09_Dots.l7
  refine iter_eq (f := ref09_Dots.l7b k) (fun v => ∃ i : Nat, v = (ks.map B, (B ((ks.take i).flatMap slash1), (i : Int))) ∧ i ≤ ks.length) (fun v => ((ks.length : Int) + 1 - v.2.2).toNat) (fun _ => some (B (47 :: joinB 47 ks))) ?_ k _ ⟨0, rfl, Nat.zero_le _⟩ (by show ((ks.length : Int) + 1 - 0).toNat < k; omega)
  rintro r _ ⟨i, rfl, hi⟩ hr
  unfold ref09_Dots.l7b
  simp only []
  rw [lenL_nat, List.length_map, ltI_nat, show (⟨#[47]⟩ : ByteArray) = B [47] from rfl, show (⟨#[]⟩ : ByteArray) = B [] from rfl]
  have ht : ((ks.take i).flatMap slash1).length ≤ 300000 := by
    rw [cat_tot]
    have := tot_take ks i
    omega
  by_cases h : i < ks.length
  · rw [decide_eq_true h, ifO_true, inB_yes h, ifO_true]
    have hel : elT .str (ks.map B) (i : Int) = B ks[i] := by
      rw [elT_get (by simpa using h)]
      simp
    have hp : ks[i].length ≤ tot ks := by
      have h1 := tot_app (ks.take i) (ks.drop i)
      rw [List.take_append_drop, List.drop_eq_getElem_cons h, tot] at h1
      omega
    rw [hel, B_fits, ifO_yes (decide_eq_true (by simp only [List.length_cons, List.length_nil]; omega)), B_cat, B_fits, ifO_yes (decide_eq_true (by simp only [List.length_append, List.length_cons, List.length_nil]; omega)), B_cat, next64 (by omega)]
    have e : (ks.take i).flatMap slash1 ++ [47] ++ ks[i] = (ks.take (i + 1)).flatMap slash1 := by
      rw [List.take_add_one, List.getElem?_eq_getElem h, List.flatMap_append]
      simp [slash1]
    rw [e]
    exact hr _ ⟨i + 1, rfl, h⟩ (by show ((ks.length : Int) + 1 - ((i + 1 : Nat) : Int)).toNat < ((ks.length : Int) + 1 - (i : Int)).toNat; omega)
  · rw [decide_eq_false h, ifO_false, List.take_of_length_le (by omega), B_eq]
    by_cases h0 : ks = []
    · subst h0; rfl
    · rw [cat_slash ks h0, decide_eq_false (by simp), ifO_false]
theorem tot_len (ks : List Bs) : ks.length ≤ tot ks := by
  induction ks with
  | nil => exact Nat.le_refl _
  | cons p r ih => rw [tot, List.length_cons]; omega
theorem r9kept (ps : List Bs) (hne : ps ≠ []) (h1 : tot ps ≤ 200000) (k : Nat) (hk : tot ps + 5 < k) : ref09_Dots.l4 k (ps.map B, ([], 0)) = some (B (47 :: joinB 47 (keptM ps))) := by
  have hlen := tot_len ps
  have hpos : 0 < ps.length := List.length_pos_iff.2 hne
  unfold ref09_Dots.l4
  refine iter_eq (f := ref09_Dots.l4b k) (fun v => ∃ (i : Nat) (kept : List Bs), v = (ps.map B, (kept.map B, (i : Int))) ∧ i ≤ ps.length ∧ kept = (ps.take i).foldl stepD []) (fun v => ((ps.length : Int) + 1 - v.2.2).toNat) (fun _ => some (B (47 :: joinB 47 (keptM ps)))) ?_ k _ ⟨0, [], rfl, Nat.zero_le _, rfl⟩ (by show ((ps.length : Int) + 1 - 0).toNat < k; omega)
  rintro r _ ⟨i, kept, rfl, hi, hkept⟩ hr
  have hkt : tot kept ≤ tot ps := by
    rw [hkept]
    have := tot_fold (ps.take i) []
    have h2 := tot_take ps i
    rw [show tot ([] : List Bs) = 0 from rfl] at this
    omega
  have hkl := tot_len kept
  have hfit : ∀ q : Bs, fitsL (lenL (kept.map B)) (lenL (B q :: ([] : List ByteArray))) 16 = true := fun q => by
    have := fitsL_yes (n := kept.length) (m := 1) (bytes := 16) (by omega) (by omega)
    simpa [lenL_nat] using this
  unfold ref09_Dots.l4b
  simp only []
  rw [lenL_nat (ps.map B), List.length_map, ltI_nat, show (⟨#[46]⟩ : ByteArray) = B [46] from rfl, show (⟨#[46, 46]⟩ : ByteArray) = B [46, 46] from rfl, show (⟨#[]⟩ : ByteArray) = B [] from rfl]
  by_cases h : i < ps.length
  · have hel : elT .str (ps.map B) (i : Int) = B ps[i] := by
      rw [elT_get (by simpa using h)]
      simp
    have nx : ∀ kept' : List Bs, kept' = stepD kept ps[i] → ref09_Dots.j5 k r (ps.map B, (kept'.map B, (i : Int))) = some (B (47 :: joinB 47 (keptM ps))) := fun kept' he => by
      unfold ref09_Dots.j5
      simp only []
      rw [next64 (by omega)]
      refine hr _ ⟨i + 1, kept', rfl, h, ?_⟩ (by show ((ps.length : Int) + 1 - ((i + 1 : Nat) : Int)).toNat < ((ps.length : Int) + 1 - (i : Int)).toNat; omega)
      rw [he, hkept, List.take_add_one, List.getElem?_eq_getElem h, List.foldl_append]
      rfl
    rw [decide_eq_true h, ifO_true, inB_yes h, ifO_true, ifO_true, hel, B_eq, B_eq]
    by_cases hd1 : ps[i] = [46]
    · rw [decide_eq_true hd1, ifO_true]
      exact nx kept (by rw [hd1]; simp [stepD])
    rw [decide_eq_false hd1, ifO_false]
    by_cases hd2 : ps[i] = [46, 46]
    · rw [decide_eq_true hd2, ifO_true, lenL_nat, List.length_map, show ltI 0 (kept.length : Int) = decide (0 < kept.length) from ltI_nat 0 _]
      by_cases hz : 0 < kept.length
      · have es : subI .i64 (kept.length : Int) 1 = ((kept.length - 1 : Nat) : Int) := by rw [sub64 (by omega) (by omega)]; omega
        have hcut : cutL (kept.map B) 0 ((kept.length - 1 : Nat) : Int) = kept.dropLast.map B := by
          unfold cutL
          simp only [Int.toNat_natCast, Int.toNat_zero, List.drop_zero]
          rw [List.dropLast_eq_take, List.map_take]
        rw [decide_eq_true hz, ifO_true, es, boundB_yes (by omega), ifO_true, hcut]
        exact nx _ (by rw [hd2]; simp [stepD])
      · rw [decide_eq_false hz, ifO_false]
        refine nx _ ?_
        have : kept = [] := List.eq_nil_of_length_eq_zero (by omega)
        rw [this, hd2]; simp [stepD]
    · rw [decide_eq_false hd2, ifO_false, hfit, ifO_true]
      have := nx (kept ++ [ps[i]]) (by simp [stepD, hd1, hd2])
      rw [← this]
      simp [catL]
  · rw [decide_eq_false h, ifO_false]
    rw [List.take_of_length_le (by omega)] at hkept
    have hl : ps.length - 1 < ps.length := by omega
    have es : subI .i64 (ps.length : Int) 1 = ((ps.length - 1 : Nat) : Int) := by rw [sub64 (by omega) (by omega)]; omega
    have hel : elT .str (ps.map B) ((ps.length - 1 : Nat) : Int) = B ps[ps.length - 1] := by
      rw [elT_get (by simpa using hl)]
      simp
    have hlast : ps.getLastD [] = ps[ps.length - 1] := by rw [getLastD_mem' ps hne, List.getElem?_eq_getElem hl]; rfl
    have hkm : keptM ps = kept ++ (if dotB ps[ps.length - 1] = true then [[]] else []) := by unfold keptM; rw [hkept, hlast]
    have fin : ∀ kept' : List Bs, kept' = keptM ps → ref09_Dots.j6 k (kept'.map B) = some (B (47 :: joinB 47 (keptM ps))) := fun kept' he => by
      subst he
      have := tot_kept ps
      have h3 := tot_len (keptM ps)
      exact r9join _ (by omega) (by omega) k (by omega)
    rw [es, inB_yes hl, ifO_true, hel, B_eq, B_eq, hfit, ifO_true]
    have ea : catL (kept.map B) (B [] :: ([] : List ByteArray)) = (kept ++ [[]]).map B := by simp [catL]
    rw [ea]
    by_cases hd1 : ps[ps.length - 1] = [46]
    · rw [decide_eq_true hd1, ifO_true]
      exact fin _ (by rw [hkm, hd1]; simp [dotB])
    rw [decide_eq_false hd1, ifO_false]
    by_cases hd2 : ps[ps.length - 1] = [46, 46]
    · rw [decide_eq_true hd2, ifO_true]
      exact fin _ (by rw [hkm, hd2]; simp [dotB])
    rw [decide_eq_false hd2, ifO_false]
    exact fin _ (by rw [hkm]; simp [dotB, hd1, hd2])
theorem r9parts (b : Bs) (hb : b.length ≤ 100000) (k : Nat) (hk : b.length + 5 < k) : ref09_Dots.l0 k (B (47 :: b), ([], (1, 1))) = ref09_Dots.l4 k ((splitC 47 b).map B, ([], 0)) := by
  unfold ref09_Dots.l0
  have hlen : (47 :: b : Bs).length = b.length + 1 := rfl
  refine iter_eq (f := ref09_Dots.l0b k) (fun v => ∃ (j f : Nat) (ps : List Bs), v = (B (47 :: b), (ps.map B, (((f + 1 : Nat) : Int), ((j + 1 : Nat) : Int)))) ∧ ps.length ≤ j ∧ ((j ≤ b.length ∧ f ≤ j ∧ ps ++ splitC 47 (b.drop f) = splitC 47 b ∧ ∀ d ∈ (b.take j).drop f, d ≠ 47) ∨ (j = b.length + 1 ∧ ps = splitC 47 b))) (fun v => ((b.length : Int) + 3 - v.2.2.2).toNat) (fun _ => ref09_Dots.l4 k ((splitC 47 b).map B, ([], 0))) ?_ k _ ⟨0, 0, [], rfl, Nat.le_refl _, .inl ⟨Nat.zero_le _, Nat.le_refl _, rfl, by simp⟩⟩ (by show ((b.length : Int) + 3 - 1).toNat < k; omega)
  rintro r _ ⟨j, f, ps, rfl, hpl, hcase⟩ hr
  unfold ref09_Dots.l0b
  simp only []
  rw [B_len, hlen, leI_nat]
  rcases hcase with ⟨hj, hf, hsp, hno⟩ | ⟨hj, hps⟩
  · have hfit : ∀ q : Bs, fitsL (lenL (ps.map B)) (lenL (B q :: ([] : List ByteArray))) 16 = true := fun q => by
      have := fitsL_yes (n := ps.length) (m := 1) (bytes := 16) (by omega) (by omega)
      simpa [lenL_nat] using this
    have hcut : cutS (B (47 :: b)) ((f + 1 : Nat) : Int) ((j + 1 : Nat) : Int) = B ((b.take j).drop f) := B_cut (47 :: b) (f + 1) (j + 1)
    have ecat : ∀ q : Bs, catL (ps.map B) (B q :: ([] : List ByteArray)) = (ps ++ [q]).map B := fun q => by simp [catL]
    have hbd : andB (boundB ((j + 1 : Nat) : Int) ((b.length + 1 : Nat) : Int)) (boundB ((f + 1 : Nat) : Int) ((j + 1 : Nat) : Int)) = true := by rw [boundB_yes (by omega), boundB_yes (by omega)]; rfl
    have e2 : addI .i64 ((j + 1 : Nat) : Int) 1 = ((j + 1 + 1 : Nat) : Int) := next64 (by omega)
    have hm : ((b.length : Int) + 3 - ((j + 1 + 1 : Nat) : Int)).toNat < ((b.length : Int) + 3 - ((j + 1 : Nat) : Int)).toNat := by omega
    rw [decide_eq_true (show j + 1 ≤ b.length + 1 by omega), ifO_true, show eqI ((j + 1 : Nat) : Int) ((b.length + 1 : Nat) : Int) = decide (j = b.length) from by rw [eqI_dec]; exact decide_eq_decide.2 (by omega), hbd, ifO_true, ifO_true, hcut, hfit, ifO_true, ifO_true, ecat]
    by_cases hje : j = b.length
    · rw [decide_eq_true hje, ifO_true]
      unfold ref09_Dots.j1 ref09_Dots.j2
      simp only []
      rw [e2]
      refine hr _ ⟨j + 1, j + 1, ps ++ [(b.take j).drop f], rfl, by simp; omega, .inr ⟨by omega, ?_⟩⟩ hm
      rw [List.take_of_length_le (by omega)] at hno ⊢
      rw [← hsp, splitC_one 47 _ hno]
    · have hlt : j < b.length := by omega
      rw [decide_eq_false hje, ifO_false, inB_yes (by omega), ifO_true]
      have hbt : btI (B (47 :: b)) ((j + 1 : Nat) : Int) = (b[j].toNat : Int) := by rw [B_at (l := 47 :: b) (i := j + 1) (by rw [hlen]; omega)]; rfl
      rw [hbt, show eqI (b[j].toNat : Int) 47 = decide (b[j] = 47) from eq_byte _ 47]
      have hbd2 : b.drop f = (b.take j).drop f ++ b[j] :: b.drop (j + 1) := by
        rw [← List.drop_eq_getElem_cons hlt]
        conv => lhs; rw [← List.take_append_drop j b]
        rw [List.drop_append, show f - (b.take j).length = 0 by rw [List.length_take]; omega, List.drop_zero]
      by_cases h47 : b[j] = 47
      · rw [decide_eq_true h47, ifO_true]
        unfold ref09_Dots.j3 ref09_Dots.j2
        simp only []
        rw [e2]
        refine hr _ ⟨j + 1, j + 1, ps ++ [(b.take j).drop f], rfl, by simp; omega, .inl ⟨hlt, Nat.le_refl _, ?_, ?_⟩⟩ hm
        · rw [← hsp, hbd2, h47, splitC_app 47 _ _ hno, List.append_assoc]; rfl
        · rw [List.drop_of_length_le (by rw [List.length_take]; omega)]; simp
      · rw [decide_eq_false h47, ifO_false]
        unfold ref09_Dots.j2
        simp only []
        rw [e2]
        refine hr _ ⟨j + 1, f, ps, rfl, by omega, .inl ⟨hlt, by omega, hsp, ?_⟩⟩ hm
        intro d hd
        rw [List.take_add_one, List.getElem?_eq_getElem hlt, List.drop_append] at hd
        rcases List.mem_append.1 hd with hd | hd
        · exact hno d hd
        · have := List.mem_of_mem_drop hd
          rw [Option.toList_some, List.mem_singleton] at this
          rw [this]; exact h47
  · rw [decide_eq_false (show ¬ j + 1 ≤ b.length + 1 by omega), ifO_false, hps]
/-- The document's path without dots. -/
theorem r9dots (l : Bs) (hl : l.length ≤ 100000) (k : Nat) (hk : l.length + 10 < k) : ref09_Dots.f k (B l) = some (B (dotsM l)) := by
  unfold ref09_Dots.f
  rw [show (⟨#[]⟩ : ByteArray) = B [] from rfl, B_eq]
  cases l with
  | nil => rfl
  | cons c b =>
    rw [List.length_cons] at hl hk
    rw [decide_eq_false (by simp), ifO_false, B_len, ifO_yes (show inB 0 _ = true from inB_yes (i := 0) (by simp)), show btI (B (c :: b)) 0 = (c.toNat : Int) from rfl, show neI (c.toNat : Int) 47 = decide (¬ c = 47) from ne_byte c 47]
    by_cases hc : c = 47
    · subst hc
      have ht := tot_split b
      rw [decide_eq_false (by simp), ifO_false]
      refine (r9parts b (by omega) k (by omega)).trans ?_
      rw [r9kept _ (splitC_ne 47 b) (by omega) k (by omega), dotsM_slash]
    · rw [decide_eq_true hc, ifO_true]
      simp only [dotsM]
      rw [if_neg hc]
end Go.Proofs.YtmmbedlegmbppaaDoor.R
