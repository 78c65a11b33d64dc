/- AsciiJoins: tokens that are joined by commas, with blanks about them, are split to these; no condition. -/
import Derived.Test.YtpddbfodjeoofaaDoorPB
namespace Go.Proofs.YtpddbfodjeoofaaDoor.R
open Go Go.RowKit
open Go.Proofs.YtpddbfodjeoofaaDoor.Pure (blankB strip nbEnd)
set_option linter.unusedSimpArgs false
set_option linter.unusedVariables false
set_option maxRecDepth 100000 in
theorem awake_is (k : Nat) (hk : 100010 ≤ k) : law01_awake.f k () = some true := by
  have d : ascii_Digits.f k (⟨#[52, 50]⟩ : ByteArray) = some (42, true) := by kernel_rfl
  have s : ascii_Split.f k (⟨#[97, 44, 32, 34, 98, 44, 99, 34, 32, 44]⟩ : ByteArray) = some [B [97], B [34, 98, 44, 99, 34]] := by
    refine (split_is [97, 44, 32, 34, 98, 44, 99, 34, 32, 44] (by decide) k hk).trans ?_
    kernel_rfl
  have t1 : ascii_Token.f k (⟨#[109, 97, 120, 45, 97, 103, 101]⟩ : ByteArray) = some true := by kernel_rfl
  have t2 : ascii_Token.f k (⟨#[97, 32, 98]⟩ : ByteArray) = some false := by kernel_rfl
  have x1 : ascii_Text.f k (⟨#[97, 32, 98]⟩ : ByteArray) = some true := by kernel_rfl
  have x2 : ascii_Text.f k (⟨#[32, 97]⟩ : ByteArray) = some false := by kernel_rfl
  have lo : ascii_Lower.f k (⟨#[65, 98, 67]⟩ : ByteArray) = some (⟨#[97, 98, 99]⟩ : ByteArray) := by kernel_rfl
  have tr : ascii_Trim.f k (⟨#[32, 97, 9]⟩ : ByteArray) = some (⟨#[97]⟩ : ByteArray) := by kernel_rfl
  unfold law01_awake.f
  rw [d, bindO_some, s, bindO_some, t1, bindO_some, ifO_true, t2, bindO_some]
  show ifO true _ _ = _
  rw [ifO_true, x1, bindO_some, ifO_true, x2, bindO_some]
  show ifO true _ _ = _
  rw [ifO_true, lo, bindO_some, tr, bindO_some]
  kernel_rfl
theorem joins_loop (ts : List Bs) (an bn : Nat) (hn : ts.length ≤ 40) (ha : an ≤ 3) (hb : bn ≤ 3) : law01_AsciiJoins.l2 200000 (ts.map B, (true, ((⟨#[]⟩ : ByteArray), (0, ((an : Int), (bn : Int)))))) = some true := by
  have hsp : ∀ c ∈ ([32, 32, 32] : Bs).take bn, blankB c = true := fun c hc => by
    have := List.mem_of_mem_take hc
    simp at this; subst this; decide
  have htb : ∀ c ∈ ([9, 9, 9] : Bs).take an, blankB c = true := fun c hc => by
    have := List.mem_of_mem_take hc
    simp at this; subst this; decide
  have hsl : (([32, 32, 32] : Bs).take bn).length ≤ 3 := by rw [List.length_take]; exact Nat.min_le_right _ _
  have htl : (([9, 9, 9] : Bs).take an).length ≤ 3 := by rw [List.length_take]; exact Nat.min_le_right _ _
  have hcs : cutS (⟨#[32, 32, 32]⟩ : ByteArray) 0 (bn : Int) = B (([32, 32, 32] : Bs).take bn) := by
    rw [show (⟨#[32, 32, 32]⟩ : ByteArray) = B [32, 32, 32] from rfl, show (0 : Int) = ((0 : Nat) : Int) from rfl, B_cut, List.drop_zero]
  have hct : cutS (⟨#[9, 9, 9]⟩ : ByteArray) 0 (an : Int) = B (([9, 9, 9] : Bs).take an) := by
    rw [show (⟨#[9, 9, 9]⟩ : ByteArray) = B [9, 9, 9] from rfl, show (0 : Int) = ((0 : Nat) : Int) from rfl, B_cut, List.drop_zero]
  have bs : andB (boundB (bn : Int) (lenS (⟨#[32, 32, 32]⟩ : ByteArray))) (boundB 0 (bn : Int)) = true := by
    rw [show lenS (⟨#[32, 32, 32]⟩ : ByteArray) = ((3 : Nat) : Int) from rfl, boundB_yes hb, show (0 : Int) = ((0 : Nat) : Int) from rfl, boundB_yes (Nat.zero_le _)]; rfl
  have bt : andB (boundB (an : Int) (lenS (⟨#[9, 9, 9]⟩ : ByteArray))) (boundB 0 (an : Int)) = true := by
    rw [show lenS (⟨#[9, 9, 9]⟩ : ByteArray) = ((3 : Nat) : Int) from rfl, boundB_yes ha, show (0 : Int) = ((0 : Nat) : Int) from rfl, boundB_yes (Nat.zero_le _)]; rfl
  generalize ([32, 32, 32] : Bs).take bn = sp at hsp hsl hcs
  generalize ([9, 9, 9] : Bs).take an = tabs at htb htl hct
  unfold law01_AsciiJoins.l2
  refine iter_eq (f := law01_AsciiJoins.l2b 200000) (fun v => v.1 = ts.map B ∧ v.2.1 = true ∧ v.2.2.2.2.1 = (an : Int) ∧ v.2.2.2.2.2 = (bn : Int) ∧ ∃ i : Nat, v.2.2.2.1 = (i : Int) ∧ i ≤ ts.length ∧ v.2.2.1 = B (JL sp tabs (ts.take i)) ∧ ∀ u ∈ ts.take i, Good u) (fun v => (ts.length + 1 - v.2.2.2.1).toNat) (fun v => some true) ?_ 200000 _ ⟨rfl, rfl, rfl, rfl, 0, rfl, Nat.zero_le _, rfl, fun u hu => by cases hu⟩ (by show ((ts.length : Int) + 1 - 0).toNat < 200000; omega)
  rintro r ⟨l, up, s, x, y, z⟩ ⟨h1, h2, h3, h4, i, h5, hi, h6, hg⟩ hr
  simp only at h1 h2 h3 h4 h5 h6
  subst h1; subst h2; subst h3; subst h4; subst h5; subst h6
  have hJ := JL_len sp tabs hsl htl (ts.take i) hg
  rw [List.length_take, Nat.min_eq_left hi] at hJ
  unfold law01_AsciiJoins.l2b law01_AsciiJoins.j4
  simp only [lenL_nat, List.length_map, ltI_nat, inB_nat, ifO_dec]
  by_cases h : i < ts.length
  · rw [if_pos h, if_pos h, if_pos h, elT_get (t := .str) (xs := ts.map B) (by rw [List.length_map]; exact h), List.getElem_map]
    have htk : ts.take (i + 1) = ts.take i ++ [ts[i]] := by rw [List.take_add_one, List.getElem?_eq_getElem h]; rfl
    generalize ts[i] = u at htk
    rw [B_len]
    unfold ltI
    simp only [ifO_dec]
    by_cases hu : (40 : Int) < (u.length : Int)
    · rw [if_pos hu]
    rw [if_neg hu, token_is u _ (by omega), bindO_some]
    by_cases hgd : u = [] ∨ ¬ u.all X.isTchar = true
    · have : notB (if u = [] then false else u.all X.isTchar) = true := by
        rcases hgd with e | e
        · rw [if_pos e]; rfl
        · split
          · rfl
          · unfold notB; simpa using e
      rw [this, ifO_true]
    · have hgd1 : u ≠ [] := fun e => hgd (.inl e)
      have hgd2 : u.all X.isTchar = true := Classical.byContradiction fun e => hgd (.inr e)
      have hgu : Good u := ⟨hgd1, by omega, hgd2⟩
      have : notB (if u = [] then false else u.all X.isTchar) = false := by rw [if_neg hgd1, hgd2]; rfl
      rw [this, ifO_false]
      have fin : ∀ s' : Bs, s' ++ u ++ tabs = JL sp tabs (ts.take (i + 1)) → s'.length ≤ 10000 → (if i < ts.length then ifO (fitsS (B s') (B u)) (ifO (andB (boundB (an : Int) (lenS (⟨#[9, 9, 9]⟩ : ByteArray))) (boundB 0 (an : Int))) (ifO (fitsS (catS (B s') (B u)) (cutS (⟨#[9, 9, 9]⟩ : ByteArray) 0 (an : Int))) (r (ts.map B, true, catS (catS (B s') (B u)) (cutS (⟨#[9, 9, 9]⟩ : ByteArray) 0 (an : Int)), addI .i64 (i : Int) 1, (an : Int), (bn : Int))) none) none) none else none) = some true := by
        intro s' he hl'
        rw [if_pos h, B_fits, ifO_dec, if_pos (by omega), bt, ifO_true, hct, B_cat, B_fits, ifO_dec, if_pos (by rw [List.length_append]; omega), B_cat, he, next64 (by omega)]
        refine hr _ ⟨rfl, rfl, rfl, rfl, i + 1, rfl, h, rfl, ?_⟩ (by show ((ts.length : Int) + 1 - ((i + 1 : Nat) : Int)).toNat < ((ts.length : Int) + 1 - (i : Int)).toNat; omega)
        rw [htk]
        intro v hv
        rcases List.mem_append.1 hv with hv | hv
        · exact hg v hv
        · rw [List.mem_singleton.1 hv]; exact hgu
      by_cases h0 : (0 : Int) < (i : Int)
      · rw [if_pos h0, show (⟨#[44]⟩ : ByteArray) = B [44] from rfl, B_fits, ifO_dec, if_pos (by simp only [List.length_cons, List.length_nil]; omega), bs, ifO_true, hcs, B_cat, B_fits, ifO_dec, if_pos (by simp only [List.length_append, List.length_cons, List.length_nil]; omega), B_cat]
        refine fin _ ?_ (by simp only [List.length_append, List.length_cons, List.length_nil]; omega)
        rw [htk, JL_snoc, if_neg (by intro e; have := congrArg List.length e; rw [List.length_take, Nat.min_eq_left hi] at this; simp at this; omega)]
        simp
      · rw [if_neg h0]
        refine fin _ ?_ (by omega)
        obtain rfl : i = 0 := by omega
        rw [htk, JL_snoc]
        simp [JL]
  · rw [if_neg h]
    have he : ts.take i = ts := List.take_of_length_le (by omega)
    rw [he] at hJ hg ⊢
    rw [split_is _ (by omega) _ (by omega), bindO_some, C_joined sp tabs hsp htb ts hg, same_is _ (by rw [List.length_map]; omega) _ (by omega), bindO_some, ifO_true]
theorem AsciiJoins (l : List ByteArray) (a b : Int) : ∃ k, law01_AsciiJoins.f k (l, (a, b)) = some true := by
  refine ⟨200000, ?_⟩
  obtain ⟨ts, rfl⟩ : ∃ ts : List Bs, l = ts.map B := ⟨l.map fun s => s.data.toList, by
    rw [List.map_map]
    conv => lhs; rw [← List.map_id l]
    exact List.map_congr_left fun s _ => B_of s⟩
  unfold law01_AsciiJoins.f law01_AsciiJoins.j1
  rw [awake_is _ (by omega), bindO_some]
  simp only [ltI, ifO_dec, ifO_true, lenL_nat, List.length_map]
  by_cases h1 : (40 : Int) < (ts.length : Int)
  · rw [if_pos h1]
  rw [if_neg h1]
  by_cases h2 : a < 0
  · rw [if_pos h2]
  rw [if_neg h2]
  by_cases h3 : b < 0
  · rw [if_pos h3]
  rw [if_neg h3]
  by_cases h4 : 3 < a
  · rw [if_pos h4]
  rw [if_neg h4]
  by_cases h5 : 3 < b
  · rw [if_pos h5]
  rw [if_neg h5]
  obtain ⟨an, rfl⟩ := Int.eq_ofNat_of_zero_le (show 0 ≤ a by omega)
  obtain ⟨bn, rfl⟩ := Int.eq_ofNat_of_zero_le (show 0 ≤ b by omega)
  exact joins_loop ts an bn (by omega) (by omega) (by omega)
end Go.Proofs.YtpddbfodjeoofaaDoor.R
