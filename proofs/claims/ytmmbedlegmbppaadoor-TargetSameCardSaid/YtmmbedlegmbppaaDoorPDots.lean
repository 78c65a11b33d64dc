/- strings.Split at a slash, and target.Dots: what the plain theory says. -/
import Derived.Test.YtmmbedlegmbppaaDoorPDotsM
import Derived.Test.YtmmbedlegmbppaaDoorF0
namespace Go.Proofs.YtmmbedlegmbppaaDoor.R
open Go Go.RowKit
set_option linter.unusedSimpArgs false
set_option linter.unusedVariables false
theorem index_split : ∀ (l : Bs), (splitC 47 l = [l] ∧ Lib.indexByte l 47 = -1) ∨ ∃ p r, l = p ++ 47 :: r ∧ (∀ d ∈ p, d ≠ (47 : UInt8)) ∧ Lib.indexByte l 47 = (p.length : Int)
  | [] => .inl ⟨rfl, rfl⟩
  | c :: l => by
    by_cases hc : c = 47
    · subst hc
      exact .inr ⟨[], l, rfl, by simp, by simp [Lib.indexByte]⟩
    · have hb : (c == 47) = false := by simpa using hc
      rcases index_split l with ⟨h1, h2⟩ | ⟨p, r, h1, h2, h3⟩
      · exact .inl ⟨by simp [splitC, hc, h1], by simp [Lib.indexByte, hb, h2]⟩
      · refine .inr ⟨c :: p, r, by rw [h1]; rfl, ?_, ?_⟩
        · intro d hd
          rcases List.mem_cons.1 hd with rfl | h
          · exact hc
          · exact h2 d h
        · have hne : ¬ ((p.length : Int) = -1) := by omega
          simp [Lib.indexByte, hb, h3, hne]
theorem split_count : ∀ l : Bs, (splitC 47 l).length = l.count 47 + 1
  | [] => rfl
  | c :: l => by
    have ih := split_count l
    by_cases hc : c = 47
    · subst hc
      simp [splitC, ih]
    · have : (splitC 47 (c :: l)).length = (splitC 47 l).length := by
        cases h : splitC 47 l with
        | nil => exact absurd h (splitC_ne 47 l)
        | cons p ps => simp [splitC, hc, h]
      rw [this, ih, List.count_cons_of_ne hc]
theorem split_loop (k : Nat) : ∀ (m fuel : Nat) (l : Bs) (a : List ByteArray) (i n : Nat), (splitC 47 l).length = m + 1 → i + m = n → a.length = n + 1 → n < 1000000000000 → m < fuel → l.length ≤ 1000000000000 →
    iter (strings_genSplit.l2b k) fuel (B l, (B [47], ((0 : Int), ((n : Int), (a, (i : Int)))))) = some (a.take i ++ (splitC 47 l).map B)
  | m, 0, l, a, i, n, h1, h2, h3, h4, h5, h6 => absurd h5 (Nat.not_lt_zero _)
  | 0, f + 1, l, a, i, n, h1, h2, h3, h4, h5, h6 => by
    have hs : splitC 47 l = [l] := by
      rcases index_split l with ⟨g, _⟩ | ⟨p, r, g1, g2, _⟩
      · exact g
      · rw [g1, splitC_app 47 r p g2] at h1
        simp at h1
        exact absurd h1 (splitC_ne 47 r)
    have hin : i = n := by omega
    subst hin
    show strings_genSplit.l2b k _ _ = _
    unfold strings_genSplit.l2b strings_genSplit.j4
    simp only [ltI_nat, Nat.lt_irrefl, decide_false, ifO_false, lenL_nat]
    rw [ifO_yes (inB_yes (by omega)), next64 (by omega)]
    have hl : (setL a (i : Int) (B l)).length = i + 1 := by unfold setL; rw [List.length_set, h3]
    rw [hl, ifO_yes (boundB_yes (Nat.le_refl _))]
    congr 1
    unfold cutL setL
    simp only [Int.toNat_natCast, Int.toNat_zero, List.drop_zero]
    rw [List.take_of_length_le (by rw [List.length_set]; omega), hs]
    rw [List.set_eq_take_append_cons_drop, if_pos (by omega), List.drop_of_length_le (by omega)]
    rfl
  | m + 1, f + 1, l, a, i, n, h1, h2, h3, h4, h5, h6 => by
    obtain ⟨p, r, g1, g2, g3⟩ : ∃ p r, l = p ++ 47 :: r ∧ (∀ d ∈ p, d ≠ (47 : UInt8)) ∧ Lib.indexByte l 47 = (p.length : Int) := by
      rcases index_split l with ⟨g, _⟩ | h
      · rw [g] at h1; simp at h1
      · exact h
    have hsp : splitC 47 l = p :: splitC 47 r := by rw [g1, splitC_app 47 r p g2]
    have hlen : l.length = p.length + 1 + r.length := by rw [g1]; simp; omega
    have hix : strings_Index.f k (B l, B [47]) = some (p.length : Int) := by
      unfold strings_Index.f x_Index.f
      simp only [B_data]
      rw [g3]; rfl
    show strings_genSplit.l2b k _ _ = _
    generalize hR : iter (strings_genSplit.l2b k) f = R
    unfold strings_genSplit.l2b
    simp only []
    rw [ltI_nat, ifO_yes (by simp; omega), hix, bindO_some]
    rw [ifO_no (by unfold ltI; simp)]
    have e0 : addI .i64 (p.length : Int) 0 = (p.length : Int) := by rw [add64 (by omega) (by omega)]; omega
    have e1 : addI .i64 (p.length : Int) (lenS (B [47])) = ((p.length + 1 : Nat) : Int) := by rw [B_len]; exact next64 (by omega)
    rw [e0, e1, B_len, boundB_yes (show p.length ≤ l.length by omega), boundB_yes (Nat.le_refl l.length), boundB_yes (show p.length + 1 ≤ l.length by omega)]
    have b0 : boundB 0 (p.length : Int) = true := boundB_yes (i := 0) (Nat.zero_le _)
    rw [b0, lenL_nat, inB_yes (by omega)]
    simp only [andB, Bool.and_self, ifO_true]
    rw [next64 (by omega)]
    have c1 : cutS (B l) ((p.length + 1 : Nat) : Int) (l.length : Int) = B r := by
      rw [B_cut, List.take_length, g1]; congr 1; simp
    have c2 : cutS (B l) 0 (p.length : Int) = B p := by
      have := B_cut l 0 p.length
      rw [show ((0 : Nat) : Int) = 0 from rfl] at this
      rw [this, g1]; congr 1; simp
    rw [c1, c2]
    have ih := split_loop k m f r (setL a (i : Int) (B p)) (i + 1) n (by rw [hsp] at h1; simpa using h1) (by omega) (by unfold setL; rw [List.length_set, h3]) h4 (by omega) (by omega)
    rw [← hR, ih, hsp]
    congr 1
    unfold setL
    simp only [Int.toNat_natCast]
    rw [List.take_set, List.set_eq_take_append_cons_drop, if_pos (by rw [List.length_take]; omega), List.drop_of_length_le (by rw [List.length_take]; omega), List.take_take, Nat.min_eq_left (by omega)]
    simp
theorem splitS_is (k : Nat) (l : Bs) (hl : l.length ≤ 1000000) (hk : l.length < k) : strings_Split.f k (B l, B [47]) = some ((splitC 47 l).map B) := by
  have hc : l.count 47 ≤ l.length := List.count_le_length
  have hsc := split_count l
  unfold strings_Split.f strings_genSplit.f
  simp only []
  rw [show eqI (-1) 0 = false from by decide, ifO_false]
  rw [ifO_no (show eqS (B [47]) ⟨#[]⟩ = false from by rw [show (⟨#[]⟩ : ByteArray) = B [] from rfl, B_eq]; simp)]
  rw [show ltI (-1) 0 = true from by decide, ifO_true]
  have hx : x_Count.f k (B l, B [47]) = some ((l.count 47 : Nat) : Int) := by
    unfold x_Count.f
    simp only [B_data]
    rfl
  rw [hx, bindO_some]
  unfold strings_genSplit.j1
  simp only []
  rw [B_len, next64 (by omega), next64 (by omega)]
  have hm : minI ((l.count 47 + 1 : Nat) : Int) ((l.length + 1 : Nat) : Int) = ((l.count 47 + 1 : Nat) : Int) := by
    unfold minI
    rw [if_neg (by omega)]
  rw [hm]
  rw [ifO_yes (by unfold makeB; simp; omega)]
  have hsub : subI .i64 ((l.count 47 + 1 : Nat) : Int) 1 = ((l.count 47 : Nat) : Int) := by rw [sub64 (by omega) (by omega)]; omega
  rw [hsub]
  unfold strings_genSplit.l2
  have := split_loop k (l.count 47) k l (List.replicate (l.count 47 + 1) ⟨#[]⟩) 0 (l.count 47) hsc (by omega) (by simp) (by omega) (by omega) (by omega)
  unfold repL
  simp only [Int.toNat_natCast]
  rw [show ((0 : Nat) : Int) = 0 from rfl] at this
  rw [this, bindO_some]
  simp
end Go.Proofs.YtmmbedlegmbppaaDoor.R
