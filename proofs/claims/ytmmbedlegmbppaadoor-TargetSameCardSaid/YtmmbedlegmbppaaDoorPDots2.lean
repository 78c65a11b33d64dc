/- target.Dots is the plain theory's. -/
import Derived.Test.YtmmbedlegmbppaaDoorPDots
namespace Go.Proofs.YtmmbedlegmbppaaDoor.R
open Go Go.RowKit
set_option linter.unusedSimpArgs false
set_option linter.unusedVariables false
theorem joinB_is : ∀ ps : List Bs, Lib.join ps [47] = joinB 47 ps
  | [] => rfl
  | [p] => by simp [Lib.join, joinB, List.intercalate]
  | p :: q :: r => by
    have ih := joinB_is (q :: r)
    unfold Lib.join at ih ⊢
    rw [joinB, ← ih]
    simp [List.intercalate, List.intersperse]
def lastD (ps : List Bs) : List Bs := if dotB (ps.getLastD []) = true then [[]] else []
theorem dots_loop (k : Nat) (ps : List Bs) (hps : ps.length ≤ 1000000) : ∀ (m fuel i : Nat) (kept : List Bs), i + m = ps.length → m < fuel → kept.length ≤ i → 0 < ps.length →
    (joinB 47 ((ps.drop i).foldl stepD kept ++ (if i < ps.length then lastD ps else []))).length ≤ 1000000 →
    iter (target_Dots.l2b k) fuel (ps.map B, (kept.map B, (ps.map B, ((ps.length : Int), (i : Int))))) = some (B (47 :: joinB 47 ((ps.drop i).foldl stepD kept ++ (if i < ps.length then lastD ps else []))))
  | m, 0, i, kept, h1, h2, h3, h4, h5 => absurd h2 (Nat.not_lt_zero _)
  | 0, f + 1, i, kept, h1, h2, h3, h4, h5 => by
    have hi : ¬ i < ps.length := by omega
    rw [if_neg hi, List.append_nil, List.drop_of_length_le (by omega)] at h5 ⊢
    show target_Dots.l2b k _ _ = _
    unfold target_Dots.l2b
    simp only []
    rw [ltI_nat, ifO_no (by simp; omega)]
    have hj : x_Join.f k (kept.map B, B [47]) = some (B (joinB 47 kept)) := by
      unfold x_Join.f
      have hm : (kept.map B).map (fun s => s.data.toList) = kept := by
        rw [List.map_map]
        exact (List.map_congr_left fun l _ => B_data l).trans (List.map_id _)
      simp only [B_data]
      rw [hm, joinB_is]
      rw [if_pos ⟨by simp; omega, by simp only [List.foldl_nil] at h5; omega⟩]
      rfl
    rw [show (⟨#[47]⟩ : ByteArray) = B [47] from rfl, hj, bindO_some, B_fits]
    simp only [List.foldl_nil] at h5 ⊢
    rw [ifO_yes (by simp; omega), B_cat]
    rfl
  | m + 1, f + 1, i, kept, h1, h2, h3, h4, h5 => by
    have hi : i < ps.length := by omega
    have hd : ps.drop i = ps[i] :: ps.drop (i + 1) := List.drop_eq_getElem_cons hi
    obtain ⟨p, hp⟩ : ∃ p, ps[i] = p := ⟨_, rfl⟩
    rw [hp] at hd
    have hel : elT .str (ps.map B) (i : Int) = B p := by
      rw [elT_get (by simpa using hi)]
      simp [hp]
    -- what the round keeps
    have key : ∀ kept' : List Bs, kept'.length ≤ i + 1 → (ps.drop (i + 1)).foldl stepD kept' ++ (if i + 1 < ps.length then lastD ps else []) = (ps.drop i).foldl stepD kept ++ (if i < ps.length then lastD ps else []) →
        iter (target_Dots.l2b k) f (ps.map B, (kept'.map B, (ps.map B, ((ps.length : Int), ((i + 1 : Nat) : Int))))) = some (B (47 :: joinB 47 ((ps.drop i).foldl stepD kept ++ (if i < ps.length then lastD ps else [])))) := fun kept' hk he => by
      rw [dots_loop k ps hps m f (i + 1) kept' (by omega) (by omega) hk h4 (by rw [he]; exact h5), he]
    have hlast : eqI (i : Int) (subI .i64 (ps.length : Int) 1) = decide (i + 1 = ps.length) := by
      rw [sub64 (by omega) (by omega), eqI_dec]
      congr 1
      exact propext ⟨fun h => by omega, fun h => by omega⟩
    have hl1 : i + 1 = ps.length → ps.drop (i + 1) = [] ∧ ps.getLastD [] = p := fun h => by
      refine ⟨List.drop_of_length_le (by omega), ?_⟩
      rw [List.getLastD_eq_getLast?, List.getLast?_eq_getElem?, show ps.length - 1 = i by omega, List.getElem?_eq_getElem hi, hp]
      rfl
    show target_Dots.l2b k _ _ = _
    generalize hR : iter (target_Dots.l2b k) f = R at key
    unfold target_Dots.l2b
    simp only []
    rw [ltI_nat, ifO_yes (by simp; omega), lenL_nat, List.length_map, inB_yes hi, ifO_true, hel]
    rw [show (⟨#[46]⟩ : ByteArray) = B [46] from rfl, show (⟨#[46, 46]⟩ : ByteArray) = B [46, 46] from rfl, B_eq, B_eq]
    have hfit : ∀ q : Bs, fitsL (lenL (kept.map B)) (lenL (B q :: ([] : List ByteArray))) 16 = true := fun q => by
      have := fitsL_yes (n := kept.length) (m := 1) (bytes := 16) (by omega) (by omega)
      simpa [lenL_nat] using this
    by_cases hdd : p = [46, 46]
    · subst hdd
      rw [show decide (([46, 46] : Bs) = [46]) = false from by decide, ifO_false]
      unfold target_Dots.j3 target_Dots.j4 target_Dots.j5
      simp only []
      rw [show (⟨#[46, 46]⟩ : ByteArray) = B [46, 46] from rfl, B_eq, decide_eq_true rfl, ifO_true]
      have hmx : maxI (subI .i64 (lenL (kept.map B)) 1) 0 = ((kept.length - 1 : Nat) : Int) := by
        rw [lenL_nat, List.length_map, sub64 (by omega) (by omega)]
        unfold maxI
        split <;> omega
      have hcut : cutL (kept.map B) 0 ((kept.length - 1 : Nat) : Int) = kept.dropLast.map B := by
        unfold cutL
        simp only [Int.toNat_natCast, Int.toNat_zero, List.drop_zero]
        rw [List.dropLast_eq_take, List.map_take]
      rw [hmx, lenL_nat, List.length_map, ifO_yes (boundB_yes (by omega)), hcut]
      rw [ifO_no (show notB (decide True) = false from rfl), lenL_nat, List.length_map, hlast, next64 (by omega)]
      have hf : fitsL (lenL (kept.dropLast.map B)) (lenL ((⟨#[]⟩ : ByteArray) :: ([] : List ByteArray))) 16 = true := by
        have := fitsL_yes (n := kept.dropLast.length) (m := 1) (bytes := 16) (by simp; omega) (by simp; omega)
        simpa [lenL_nat] using this
      have hst : stepD kept [46, 46] = kept.dropLast := by simp [stepD]
      by_cases hz : i + 1 = ps.length
      · obtain ⟨z1, z2⟩ := hl1 hz
        rw [decide_eq_true hz, ifO_true, hf, ifO_true]
        have := key (kept.dropLast ++ [[]]) (by simp; omega) (by
          rw [hd, List.foldl_cons, hst, z1, if_neg (by omega), if_pos hi]
          unfold lastD
          rw [z2]
          simp [dotB])
        rw [← this]
        simp [catL]
        rfl
      · rw [decide_eq_false hz, ifO_false]
        exact key kept.dropLast (by simp; omega) (by rw [hd, List.foldl_cons, hst, if_pos (by omega), if_pos hi])
    · by_cases hd1 : p = [46]
      · subst hd1
        rw [decide_eq_true rfl, ifO_true]
        unfold target_Dots.j3 target_Dots.j4 target_Dots.j5
        simp only []
        rw [show (⟨#[46, 46]⟩ : ByteArray) = B [46, 46] from rfl, B_eq, decide_eq_false hdd, ifO_false]
        rw [ifO_no (show notB true = false from rfl), lenL_nat, List.length_map, hlast, next64 (by omega)]
        have hst : stepD kept [46] = kept := by simp [stepD]
        by_cases hz : i + 1 = ps.length
        · obtain ⟨z1, z2⟩ := hl1 hz
          rw [decide_eq_true hz, ifO_true, show (⟨#[]⟩ : ByteArray) = B [] from rfl, hfit, ifO_true]
          have := key (kept ++ [[]]) (by simp; omega) (by
            rw [hd, List.foldl_cons, hst, z1, if_neg (by omega), if_pos hi]
            unfold lastD
            rw [z2]
            simp [dotB])
          rw [← this]
          simp [catL]
        · rw [decide_eq_false hz, ifO_false]
          exact key kept (by omega) (by rw [hd, List.foldl_cons, hst, if_pos (by omega), if_pos hi])
      · rw [decide_eq_false hd1, ifO_false]
        unfold target_Dots.j3 target_Dots.j4 target_Dots.j5
        simp only []
        rw [show (⟨#[46, 46]⟩ : ByteArray) = B [46, 46] from rfl, B_eq, decide_eq_false hdd, ifO_false]
        rw [ifO_yes (show notB false = true from rfl), hfit, ifO_true, next64 (by omega)]
        have hst : stepD kept p = kept ++ [p] := by simp [stepD, hdd, hd1]
        have := key (kept ++ [p]) (by simp; omega) (by
          rw [hd, List.foldl_cons, hst]
          by_cases hz : i + 1 = ps.length
          · obtain ⟨z1, z2⟩ := hl1 hz
            rw [if_neg (by omega), if_pos hi]
            unfold lastD
            rw [z2, z1]
            simp [dotB, hdd, hd1]
          · rw [if_pos (by omega), if_pos hi])
        rw [← this]
        simp [catL]
theorem cutSlash_is (k : Nat) (l : Bs) (hl : l.length ≤ 1000000) : strings_CutPrefix.f k (B l, B [47]) = some (match l with
    | 47 :: b => (B b, true)
    | _ => (B l, false)) := by
  unfold strings_CutPrefix.f internal_stringslite_CutPrefix.f internal_stringslite_HasPrefix.f
  simp only [B_len]
  match l, hl with
  | [], _ => rfl
  | c :: b, hl =>
    have e1 : ((([47] : Bs).length : Nat) : Int) = ((1 : Nat) : Int) := rfl
    rw [e1, leI_nat, ifO_yes (by simp), boundB_yes (show 1 ≤ (c :: b).length by simp), boundB_yes (Nat.le_refl _), show (0 : Int) = ((0 : Nat) : Int) from rfl, boundB_yes (Nat.zero_le 1)]
    rw [show andB true true = true from rfl, ifO_true, bindO_some, B_cut, B_cut, B_eq]
    by_cases hc : c = 47
    · subst hc
      rw [decide_eq_true (show List.drop 0 (List.take 1 (47 :: b)) = [47] from rfl), ifO_no (show notB true = false from rfl)]
      rw [List.take_length]
      rfl
    · rw [decide_eq_false (show ¬ List.drop 0 (List.take 1 (c :: b)) = [47] from fun h => hc (List.cons.inj h).1)]
      rw [ifO_yes (show notB false = true from rfl), bindO_some]
      split
      · rename_i h _; exact absurd (List.cons.inj h).1 hc
      · rfl
def tot : List Bs → Nat
  | [] => 0
  | p :: r => p.length + 1 + tot r
theorem tot_app : ∀ a b : List Bs, tot (a ++ b) = tot a + tot b
  | [], b => by simp [tot]
  | p :: a, b => by simp only [List.cons_append, tot, tot_app a b]; omega
theorem joinB_tot : ∀ ps : List Bs, (joinB 47 ps).length ≤ tot ps
  | [] => Nat.le_refl _
  | [p] => by simp [joinB, tot]
  | p :: q :: r => by
    have ih := joinB_tot (q :: r)
    rw [joinB, tot]
    simp only [List.length_append, List.length_cons]
    omega
theorem tot_drop (l : List Bs) : tot l.dropLast ≤ tot l := by
  by_cases h : l = []
  · subst h; exact Nat.le_refl _
  · have := tot_app l.dropLast [l.getLast h]
    rw [List.dropLast_concat_getLast h] at this
    omega
theorem tot_step (kept : List Bs) (p : Bs) : tot (stepD kept p) ≤ tot kept + (p.length + 1) := by
  unfold stepD
  split
  · have := tot_drop kept; omega
  · split
    · omega
    · rw [tot_app]; simp [tot]
theorem tot_fold : ∀ (ps kept : List Bs), tot (ps.foldl stepD kept) ≤ tot kept + tot ps
  | [], kept => by simp [tot]
  | p :: ps, kept => by
    have h1 := tot_fold ps (stepD kept p)
    have h2 := tot_step kept p
    rw [List.foldl_cons, tot]
    omega
theorem tot_split : ∀ l : Bs, tot (splitC 47 l) = l.length + 1
  | [] => rfl
  | c :: l => by
    have ih := tot_split l
    by_cases hc : c = 47
    · subst hc
      simp only [splitC, if_true, tot, ih, List.length_cons, List.length_nil]; omega
    · cases h : splitC 47 l with
      | nil => exact absurd h (splitC_ne 47 l)
      | cons p ps =>
        rw [h] at ih
        simp only [splitC, hc, if_false, h, tot, List.length_cons] at ih ⊢
        omega
theorem tot_kept (ps : List Bs) : tot (keptM ps) ≤ tot ps + 1 := by
  unfold keptM
  rw [tot_app]
  have := tot_fold ps []
  split <;> simp [tot] at this ⊢ <;> omega
/-- target.Dots is the plain theory's. -/
theorem dots_is (k : Nat) (l : Bs) (hl : l.length ≤ 900000) (hk : l.length + 1 < k) : target_Dots.f k (B l) = some (B (dotsM l)) := by
  unfold target_Dots.f
  rw [show (⟨#[47]⟩ : ByteArray) = B [47] from rfl, cutSlash_is k l (by omega)]
  match l, hl, hk with
  | [], _, _ => rfl
  | c :: b, hl, hk =>
    by_cases hc : c = 47
    · subst hc
      simp only [bindO_some, List.length_cons] at hl hk ⊢
      rw [ifO_no (show notB true = false from rfl), splitS_is k b (by omega) (by omega), bindO_some]
      have hlen : (splitC 47 b).length = b.count 47 + 1 := split_count b
      have hcnt : b.count 47 ≤ b.length := List.count_le_length
      rw [lenL_nat, List.length_map, next64 (by omega)]
      rw [ifO_yes (by unfold makeB; simp; omega)]
      have htot := tot_kept (splitC 47 b)
      rw [tot_split] at htot
      have hj := joinB_tot (keptM (splitC 47 b))
      have hpos : 0 < (splitC 47 b).length := by omega
      have := dots_loop k (splitC 47 b) (by omega) (splitC 47 b).length k 0 [] (by omega) (by omega) (by simp) hpos (by
        rw [if_pos hpos]
        exact Nat.le_trans hj (by omega))
      rw [if_pos hpos] at this
      unfold target_Dots.l2
      rw [dotsM_slash]
      exact this
    · rw [dotsM, if_neg hc]
      split
      · rename_i h _; exact absurd (List.cons.inj h).1 hc
      · rfl
end Go.Proofs.YtmmbedlegmbppaaDoor.R
