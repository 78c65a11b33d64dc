/- EtagBack: what was printed is parsed; lists of tags, with commas between, are these; likeness goes either way. -/
import Derived.Test.YtkjjegjafpefcaaDoorPTagB
import Derived.Test.YtkjjegjafpefcaaDoorRW
namespace Go.Proofs.YtkjjegjafpefcaaDoor.R
open Go Go.RowKit
set_option linter.unusedSimpArgs false
set_option linter.unusedVariables false
def ofT (t : TagB) : Bool × Bs := (t.1, t.2.data.toList)
theorem toT_ofT (t : TagB) : toT (ofT t) = t := by
  obtain ⟨b, s⟩ := t
  unfold toT ofT
  rw [← B_of s]
theorem map_toT (l : List TagB) : (l.map ofT).map toT = l := by
  rw [List.map_map]
  conv => rhs; rw [← List.map_id l]
  exact List.map_congr_left fun t _ => toT_ofT t
/-- So many blanks. -/
def padB (n : Nat) : Bs := List.replicate n 32
theorem pad_cut (n : Nat) (h : n ≤ 3) : cutS (⟨#[32, 32, 32]⟩ : ByteArray) 0 (n : Int) = B (padB n) := by
  match n, h with
  | 0, _ => rfl
  | 1, _ => rfl
  | 2, _ => rfl
  | 3, _ => rfl
theorem pad_bl (n : Nat) : ∀ c ∈ padB n, blB c = true := by
  intro c hc
  rw [List.eq_of_mem_replicate hc]
  rfl
theorem inner_back (l : List TagB) (n : Int) (s : ByteArray) (i : Nat) (hi : i < l.length) (hl : l.length ≤ 20) (K : Nat) (hK : 1000010 ≤ K) (r : _) (res : Option Bool) (hr : r (l, (n, (true, (s, ((i + 1 : Nat) : Int))))) = res) :
    law12_EtagBack.l5 K r (l, (n, (true, (s, ((i : Int), 0))))) = res := by
  unfold law12_EtagBack.l5
  have := iter_eq (f := law12_EtagBack.l5b K r) (fun v => ∃ j, j ≤ i ∧ v = (l, (n, (true, (s, ((i : Int), (j : Int))))))) (fun v => i - v.2.2.2.2.2.toNat) (fun _ => res) ?_ K (l, (n, (true, (s, ((i : Int), 0))))) ⟨0, by omega, rfl⟩ (by simp only [Int.toNat_zero]; omega)
  · exact this
  · rintro q v ⟨j, hj, rfl⟩ ih
    unfold law12_EtagBack.l5b
    dsimp only
    rw [ltI_nat, ifO_dec]
    by_cases h : j < i
    · have hq : law12_EtagBack.j8 K r q (l, (n, (true, (s, ((i : Int), ((j : Int), false)))))) = res := by
        unfold law12_EtagBack.j8
        dsimp only
        rw [ifO_false, next64 (by omega)]
        exact ih _ ⟨j + 1, h, rfl⟩ (by simp only [Int.toNat_natCast]; omega)
      have hjl : j < l.length := by omega
      rw [if_pos h, lenL_nat]
      simp only [inB_yes hi, inB_yes hjl, ifO_true]
      obtain ⟨x, hx⟩ : ∃ x : TagB, x = elT (.agg (.pair .bool .str)) l (i : Int) := ⟨_, rfl⟩
      obtain ⟨y, hy⟩ : ∃ y : TagB, y = elT (.agg (.pair .bool .str)) l (j : Int) := ⟨_, rfl⟩
      rw [← hx, ← hy, like_weak x y, bindO_some, like_weak y x, bindO_some, eqS_comm y.2 x.2, eqB_self, show notB true = false from rfl, ifO_false, like_strong x y, bindO_some, bindO_some]
      cases hs : eqS x.2 y.2 with
      | false => rw [Bool.false_and, ifO_false]; exact hq
      | true =>
        cases hb : (true && (eqB x.1 y.1 && notB x.1)) with
        | false => rw [ifO_false]; exact hq
        | true => rw [ifO_true, show notB true = false from rfl]; exact hq
    · rw [if_neg h, next64 (by omega)]
      exact hr
theorem cats_snoc (p : Bs) (ts : List (Bool × Bs)) (t : Bool × Bs) : cats p (ts ++ [t]) = cats p ts ++ (p ++ (pT t ++ (p ++ [44]))) := by
  unfold cats
  rw [List.flatMap_append, List.flatMap_singleton]
  rfl
theorem pT_len (t : Bool × Bs) : (pT t).length ≤ t.2.length + 4 := by
  unfold pT
  obtain ⟨wk, a⟩ := t
  cases wk <;> simp
theorem cats_len (p : Bs) (hp : p.length ≤ 3) : ∀ ts : List (Bool × Bs), (∀ t ∈ ts, t.2.length ≤ 100) → (cats p ts).length ≤ 200 * ts.length
  | [], _ => by simp [cats]
  | t :: ts, h => by
    have h1 := cats_len p hp ts (fun u hu => h u (by simp [hu]))
    have h2 := pT_len t
    have h3 := h t (by simp)
    have h4 : (itemS p t).length = p.length + ((pT t).length + (p.length + 1)) := by
      unfold itemS
      simp only [List.length_append, List.length_cons, List.length_nil]
    unfold cats at h1 ⊢
    rw [List.flatMap_cons, List.length_append, h4, List.length_cons]
    omega
theorem back_loop (l : List TagB) (n : Nat) (hn : n ≤ 3) (hl : l.length ≤ 20) (h0 : 0 < l.length) : law12_EtagBack.l2 1000010 (l, ((n : Int), (true, (B [], 0)))) = some true := by
  unfold law12_EtagBack.l2
  have hp := pad_bl n
  have hpl : (padB n).length = n := List.length_replicate
  have := iter_eq (f := law12_EtagBack.l2b 1000010) (fun v => ∃ i, i ≤ l.length ∧ v = (l, ((n : Int), (true, (B (cats (padB n) ((l.take i).map ofT)), (i : Int))))) ∧ ∀ t ∈ (l.take i).map ofT, t.2.all inT = true ∧ t.2.length ≤ 100) (fun v => l.length - v.2.2.2.2.toNat) (fun _ => some true) ?_ 1000010 (l, ((n : Int), (true, (B [], 0)))) ⟨0, by omega, rfl, by simp⟩ (by simp only [Int.toNat_zero]; omega)
  · exact this
  · rintro r v ⟨i, hi, rfl, hall⟩ ih
    have hcl := cats_len (padB n) (by omega) ((l.take i).map ofT) (fun t ht => (hall t ht).2)
    rw [List.length_map, List.length_take] at hcl
    unfold law12_EtagBack.l2b
    dsimp only
    rw [lenL_nat, ltI_nat, ifO_dec]
    by_cases h : i < l.length
    · rw [if_pos h]
      simp only [inB_yes h, ifO_true]
      rw [elT_get (t := .agg (.pair .bool .str)) (xs := l) h]
      obtain ⟨t, ht⟩ : ∃ t, t = l[i] := ⟨_, rfl⟩
      rw [← ht]
      have hlen : lenS t.2 = ((ofT t).2.length : Int) := by unfold lenS ofT; rw [Array.length_toList]; rfl
      rw [hlen, show (100 : Int) = ((100 : Nat) : Int) from rfl, ltI_nat, ifO_dec]
      by_cases h100 : 100 < (ofT t).2.length
      · rw [if_pos h100]
      · rw [if_neg h100]
        have hpr := print_tag (ofT t) (by omega) 1000010 (by omega)
        rw [show ((ofT t).1, B (ofT t).2) = ((t.1, t.2) : TagB) from toT_ofT t] at hpr
        rw [hpr, bindO_some]
        by_cases hin : (ofT t).2.all inT = true
        · have hptl := pT_len (ofT t)
          have hps := parse_tag (pT (ofT t)) (by omega) 1000010 (by omega)
          rw [show tagM (pT (ofT t)) = some (ofT t, []) by have := tagM_of (ofT t) hin []; rwa [List.append_nil] at this] at hps
          rw [if_pos hin]
          dsimp only
          rw [show neI 0 0 = false from rfl, ifO_false, hps, bindO_some]
          dsimp only
          rw [show ((ofT t).1, B (ofT t).2) = ((t.1, t.2) : TagB) from toT_ofT t]
          rw [eqD_tag, eqB_self, eqS_self, show notB (true && true) = false from rfl, ifO_false, show neI 0 0 = false from rfl, ifO_false]
          rw [show (⟨#[32, 32, 32]⟩ : ByteArray) = B [32, 32, 32] from rfl, B_len, show (([32, 32, 32] : Bs).length : Int) = ((3 : Nat) : Int) from rfl, boundB_yes hn, show boundB 0 (n : Int) = true from boundB_yes (i := 0) (by omega), show andB true true = true from rfl, ifO_true, ifO_true, show cutS (B [32, 32, 32]) 0 (n : Int) = B (padB n) from pad_cut n hn]
          rw [B_fits, decide_eq_true (by omega), ifO_true, B_cat, B_fits, decide_eq_true (by rw [List.length_append]; omega), ifO_true, B_cat, B_fits, decide_eq_true (by simp only [List.length_append]; omega), ifO_true, B_cat, show (⟨#[44]⟩ : ByteArray) = B [44] from rfl, B_fits, decide_eq_true (by simp only [List.length_append, List.length_cons, List.length_nil]; omega), ifO_true, B_cat]
          refine inner_back l (n : Int) _ i h hl 1000010 (by omega) r (some true) ?_
          have htk : (l.take (i + 1)).map ofT = (l.take i).map ofT ++ [ofT t] := by rw [take_snoc l i h, List.map_append, ht]; rfl
          refine ih _ ⟨i + 1, h, ?_, fun u hu => ?_⟩ (by simp only [Int.toNat_natCast]; omega)
          · rw [htk, cats_snoc]
            simp only [List.append_assoc]
          · rw [htk] at hu
            rcases List.mem_append.1 hu with hu | hu
            · exact hall u hu
            · rw [List.mem_singleton] at hu
              rw [hu]
              exact ⟨hin, by omega⟩
        · rw [if_neg hin]; rfl
    · rw [if_neg h]
      have hil : l.take i = l := List.take_of_length_le (by omega)
      rw [hil] at hall hcl ⊢
      obtain ⟨t0, ts0, hts⟩ : ∃ t0 ts0, l.map ofT = t0 :: ts0 := by
        cases l with
        | nil => simp at h0
        | cons a b => exact ⟨_, _, rfl⟩
      rw [hts] at hall hcl ⊢
      rw [list_cats (padB n) hp t0 ts0 (fun u hu => (hall u hu).1) (by omega) 1000010 (by omega), bindO_some, ← hts, map_toT]
      dsimp only
      rw [own_tags l (by omega) 1000010 (by omega), bindO_some, bindO_some, same_tags l (by omega) 1000010 (by omega), bindO_some]
      rfl
theorem EtagBack (l : List TagB) (n : Int) (w0 : l.length ≤ 140737488351232 ∧ ∀ x ∈ l, Ty.Wf (.agg (.pair .bool .str)) x) (w1 : (Lit.int .i64 n).wf = true) : ∃ k, law12_EtagBack.f k (l, n) = some true := by
  refine ⟨1000010, ?_⟩
  unfold law12_EtagBack.f
  dsimp only
  have out : law12_EtagBack.j1 1000010 (l, (n, (true, true))) = some true := rfl
  rw [awake12, bindO_some, lenL_nat, show (20 : Int) = ((20 : Nat) : Int) from rfl, ltI_nat, ifO_dec]
  by_cases h20 : 20 < l.length
  · rw [if_pos h20]; exact out
  · rw [if_neg h20, eqI_dec, ifO_dec]
    by_cases h0 : (l.length : Int) = 0
    · rw [if_pos h0]; exact out
    · rw [if_neg h0, ltD, ifO_dec]
      by_cases hn : n < 0
      · rw [if_pos hn]; exact out
      · rw [if_neg hn, ltD]
        by_cases h3 : 3 < n
        · rw [decide_eq_true h3]; exact out
        · rw [decide_eq_false h3]
          unfold law12_EtagBack.j1
          dsimp only
          rw [ifO_false]
          obtain ⟨m, rfl⟩ : ∃ m : Nat, n = (m : Int) := ⟨n.toNat, by omega⟩
          exact back_loop l m (by omega) (by omega) (by omega)
end Go.Proofs.YtkjjegjafpefcaaDoor.R
