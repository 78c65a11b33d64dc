/- HopsEnd, told in plain words. -/
import Derived.Test.YtkjjegjafpefcaaDoorPHopQ
namespace Go.Proofs.YtkjjegjafpefcaaDoor.R
open Go Go.RowKit
set_option linter.unusedSimpArgs false
set_option linter.unusedVariables false
theorem left_mem {ns : List ByteArray} {l : List Fld} {f : Fld} (h : f ∈ XW.left ns l) : f ∈ l ∧ hasN ns f = false := by
  rw [left_eq'] at h
  obtain ⟨h1, h2⟩ := List.mem_filter.1 h
  exact ⟨h1, by simpa using h2⟩
theorem left_id (ns : List ByteArray) (l : List Fld) (h : ∀ f ∈ l, hasN ns f = false) : XW.left ns l = l := by
  rw [left_eq', List.filter_eq_self]
  intro f hf
  rw [h f hf]; rfl
theorem hasN_app (a b : List ByteArray) (f : Fld) : hasN (a ++ b) f = (hasN a f || hasN b f) := by unfold hasN; rw [List.any_append]
theorem vals_no (nm : ByteArray) (l : List Fld) (h : ∀ f ∈ l, (f.1.toList == nm.toList) = false) : XG.vals nm l = [] := by
  unfold XG.vals
  rw [List.map_eq_nil_iff, List.filter_eq_nil_iff]
  intro f hf
  rw [h f hf]; decide
theorem vals_named {ns : List ByteArray} {nm : ByteArray} (hn : nm ∈ ns) (l : List Fld) : XG.vals nm (XW.left ns l) = [] := by
  refine vals_no nm _ (fun f hf => ?_)
  have h := (left_mem hf).2
  unfold hasN at h
  rw [List.any_eq_false] at h
  simpa using h nm hn
theorem conn_stat : conn ∈ statN := List.mem_cons_self
theorem ends_again (l : List Fld) : endsV (endsV l) = endsV l := by
  have hv : XG.vals conn (endsV l) = [] := vals_named (List.mem_append.2 (.inl conn_stat)) l
  have hg : getV conn (endsV l) = [] := vals_nil_get (by rw [hv]; decide)
  have hn : namesV (endsV l) = statN := by unfold namesV; rw [hg, C_none]; rfl
  show XW.left (namesV (endsV l)) (endsV l) = endsV l
  rw [hn]
  refine left_id _ _ (fun f hf => ?_)
  have h := (left_mem hf).2
  unfold namesV at h
  rw [hasN_app, Bool.or_eq_false_iff] at h
  exact h.1
theorem joinC_snoc (xs : List ByteArray) (y : ByteArray) : joinC (xs ++ [y]) = if xs = [] then y.data.toList else joinC xs ++ [44, 32] ++ y.data.toList := by
  unfold joinC
  rw [List.map_append]
  show Lib.join (_ ++ [y.data.toList]) _ = _
  rw [join_snoc]
  by_cases h : xs = []
  · subst h; rfl
  · rw [if_neg h, if_neg (by simpa using h)]
theorem joinC_JL (xs : List ByteArray) : joinC xs = JL [32] [] (xs.map (·.data.toList)) := by
  have main : ∀ n, n ≤ xs.length → joinC (xs.take n) = JL [32] [] ((xs.take n).map (·.data.toList)) := by
    intro n
    induction n with
    | zero => intro _; rfl
    | succ n ih =>
      intro hn
      have h' := ih (by omega)
      rw [take_snoc _ _ (show n < xs.length by omega), joinC_snoc, List.map_append]
      show _ = JL [32] [] (_ ++ [(xs[n]'(by omega)).data.toList])
      rw [JL_snoc, h']
      by_cases h : xs.take n = []
      · rw [if_pos h, if_pos (by rw [h]; rfl)]; simp
      · rw [if_neg h, if_neg (by simpa using h)]; simp
  have := main xs.length (Nat.le_refl _)
  rw [List.take_length] at this
  exact this
def notUp (c : UInt8) : Bool := decide (c.toNat < 65) || decide (90 < c.toNat)
theorem low_same (l : Bs) (h : l.all notUp = true) : lowL l = l := by
  unfold lowL
  conv => rhs; rw [← List.map_id l]
  apply List.map_congr_left
  intro c hc
  have := List.all_eq_true.1 h c hc
  unfold notUp at this
  simp at this
  exact X.lowB_no (by omega)
theorem end13 (names : List ByteArray) (n : List Fld) (i : Nat) (hi : i < names.length) (hn10 : names.length ≤ 10) (hs : names[i].size ≤ 1000) (is : Bool) (K : Nat) (hK : 100010 ≤ K) (r : _) :
    law18_HopsEnd.l13 K r (names, (true, (n, ((i : Int), (is, (true, 0)))))) = if is = true ∧ names[i].data.toList.all notUp = true then some false else r (names, (true, (n, ((i + 1 : Nat) : Int)))) := by
  have hl := len_data names[i]
  unfold law18_HopsEnd.l13
  refine iter_eq (f := law18_HopsEnd.l13b K r) (fun v => v.1 = names ∧ v.2.1 = true ∧ v.2.2.1 = n ∧ v.2.2.2.1 = (i : Int) ∧ v.2.2.2.2.1 = is ∧ ∃ j : Nat, v.2.2.2.2.2.2 = (j : Int) ∧ j ≤ names[i].data.toList.length ∧ v.2.2.2.2.2.1 = (names[i].data.toList.take j).all notUp) (fun v => (names[i].data.toList.length + 1 - v.2.2.2.2.2.2).toNat) (fun _ => if is = true ∧ names[i].data.toList.all notUp = true then some false else r (names, (true, (n, ((i + 1 : Nat) : Int))))) ?_ K _ ⟨rfl, rfl, rfl, rfl, rfl, 0, rfl, Nat.zero_le _, rfl⟩ (by show ((names[i].data.toList.length : Int) + 1 - 0).toNat < K; omega)
  rintro r' ⟨v0, v1, v2, v3, v4, v5, v6⟩ ⟨h0, h1, h2, h3, h4, j, h6, hj, h5⟩ hrr
  simp only at h0 h1 h2 h3 h4 h5 h6
  subst h0; subst h1; subst h2; subst h3; subst h4; subst h5; subst h6
  have hB : v0[i] = B v0[i].data.toList := B_of _
  have next : ∀ b : Bool, (j' : j < v0[i].data.toList.length) → b = (v0[i].data.toList.take (j + 1)).all notUp → law18_HopsEnd.j14 K r r' (v0, (true, (v2, ((i : Int), (v4, (b, (j : Int))))))) = if v4 = true ∧ v0[i].data.toList.all notUp = true then some false else r (v0, (true, (v2, ((i + 1 : Nat) : Int)))) := by
    intro b hj' hb
    unfold law18_HopsEnd.j14
    simp only
    rw [next64 (by omega)]
    exact hrr _ ⟨rfl, rfl, rfl, rfl, rfl, j + 1, rfl, hj', hb⟩ (by show ((v0[i].data.toList.length : Int) + 1 - ((j + 1 : Nat) : Int)).toNat < ((v0[i].data.toList.length : Int) + 1 - (j : Int)).toNat; omega)
  have e0 : elT .str v0 (i : Int) = v0[i] := elT_get (t := .str) (xs := v0) hi
  have e1 : lenS v0[i] = (v0[i].data.toList.length : Int) := by unfold lenS; rw [hl]
  unfold law18_HopsEnd.l13b
  simp only [lenL_nat, ltI_nat, inB_nat, ifO_dec, e0, e1]
  rw [if_pos hi]
  by_cases h : j < v0[i].data.toList.length
  · have eb : btI v0[i] (j : Int) = (v0[i].data.toList[j].toNat : Int) := by
      have := B_at (l := v0[i].data.toList) h
      rw [← hB] at this
      exact this
    rw [if_pos h, eb]
    cases hb : (v0[i].data.toList.take j).all notUp with
    | false =>
      rw [ifO_false]
      exact next false h (by rw [take_snoc _ _ h, List.all_append, hb, Bool.false_and])
    | true =>
      rw [ifO_true, if_pos hi, if_pos h, show ltI (v0[i].data.toList[j].toNat : Int) 65 = decide (v0[i].data.toList[j].toNat < 65) from ltI_nat _ 65, show ltI 90 (v0[i].data.toList[j].toNat : Int) = decide (90 < v0[i].data.toList[j].toNat) from ltI_nat 90 _, ifO_dec]
      have en : (v0[i].data.toList.take (j + 1)).all notUp = notUp v0[i].data.toList[j] := by rw [take_snoc _ _ h, List.all_append, hb]; simp
      by_cases hlt : v0[i].data.toList[j].toNat < 65
      · rw [if_pos hlt]
        exact next true h (by rw [en]; unfold notUp; rw [decide_eq_true hlt]; rfl)
      · rw [if_neg hlt, if_pos hi, if_pos h]
        exact next _ h (by rw [en]; unfold notUp; rw [decide_eq_false hlt, Bool.false_or])
  · rw [if_neg h, List.take_of_length_le (by omega)]
    unfold law18_HopsEnd.j15
    simp only
    rw [next64 (by omega)]
    cases v4 with
    | false => rw [ifO_false, if_neg (fun hh => by cases hh.1)]
    | true =>
      rw [ifO_true]
      cases v0[i].data.toList.all notUp with
      | false => rw [ifO_false, if_neg (fun hh => by cases hh.2)]
      | true => rw [ifO_true, if_pos ⟨rfl, rfl⟩]
theorem end11 (names : List ByteArray) (hn : names.length ≤ 10) (n : List Fld) (hsum : sumF n ≤ 90000) (hs : ∀ x ∈ names, x.size ≤ 1000) (hgone : ∀ x ∈ names, x.data.toList.all notUp = true → XG.vals x n = []) (K : Nat) (hK : 100010 ≤ K) : law18_HopsEnd.l11 K (names, (true, (n, 0))) = some true := by
  unfold law18_HopsEnd.l11
  refine iter_eq (f := law18_HopsEnd.l11b K) (fun v => v.1 = names ∧ v.2.1 = true ∧ v.2.2.1 = n ∧ ∃ i : Nat, v.2.2.2 = (i : Int) ∧ i ≤ names.length) (fun v => (names.length + 1 - v.2.2.2).toNat) (fun _ => some true) ?_ K _ ⟨rfl, rfl, rfl, 0, rfl, Nat.zero_le _⟩ (by show ((names.length : Int) + 1 - 0).toNat < K; omega)
  rintro r ⟨v0, v1, v2, v3⟩ ⟨h0, h1, h2, i, h3, hi⟩ hr
  simp only at h0 h1 h2 h3
  subst h0; subst h1; subst h2; subst h3
  unfold law18_HopsEnd.l11b
  simp only [lenL_nat, ltI_nat, inB_nat, ifO_dec]
  by_cases h : i < v0.length
  · rw [if_pos h, if_pos h, elT_get (t := .str) (xs := v0) h, get_is _ _ (by omega), bindO_some, end13 v0 v2 i h hn (hs _ (List.getElem_mem h)) _ K hK r, if_neg]
    · exact hr _ ⟨rfl, rfl, rfl, i + 1, rfl, h⟩ (by show ((v0.length : Int) + 1 - ((i + 1 : Nat) : Int)).toNat < ((v0.length : Int) + 1 - (i : Int)).toNat; omega)
    · rintro ⟨g1, g2⟩
      have := hgone _ (List.getElem_mem h) g2
      simp only [this] at g1
      exact absurd (of_decide_eq_true g1) (by decide)
  · rw [if_neg h]
theorem sumS_snoc (a : List ByteArray) (x : ByteArray) : sumS (a ++ [x]) = sumS a + x.size := by
  induction a with
  | nil => simp [sumS]
  | cons y a ih => simp only [List.cons_append, sumS, ih]; omega
theorem HopsEnd (l : List Fld) (names : List ByteArray) (w0 : l.length ≤ 140737488351232 ∧ ∀ x ∈ l, Ty.Wf (.agg (.pair .str .str)) x) (w1 : names.length ≤ 140737488351232 ∧ ∀ x ∈ names, Ty.Wf .str x) : ∃ k, law18_HopsEnd.f k (l, names) = some true := by
  refine ⟨1000010, ?_⟩
  unfold law18_HopsEnd.f
  rw [awake18, bindO_some, size_is' l w0.1 (fits_of' w0.2) _ (by omega), bindO_some]
  simp only
  rw [show ltI 2000 ((szs 0 l : Nat) : Int) = decide (2000 < szs 0 l) from ltI_nat 2000 _, ifO_dec, lenL_nat, show ltI 10 (names.length : Int) = decide (10 < names.length) from ltI_nat 10 _, ifO_dec]
  by_cases h1 : 2000 < szs 0 l
  · rw [if_pos h1]
  rw [if_neg h1]
  by_cases h2 : 10 < names.length
  · rw [if_pos h2]
  rw [if_neg h2]
  have hsum : sumF l ≤ 2000 := by have := szs_small 2000 (by decide) l 0 (by omega); omega
  have hlen := sumF_len l
  have he := sumF_left (namesV l) l
  have hel : (endsV l).length ≤ l.length := left_len _ l
  have hes : sumF (endsV l) ≤ 2000 := Nat.le_trans he hsum
  rw [ends_is l (by omega) _ (by omega), bindO_some, ends_is _ (by omega) _ (by omega), bindO_some, ends_again, r6same _ (by omega) _ (by omega), bindO_some, show notB true = false from rfl, ifO_false, lenL_nat, lenL_nat, ltI_nat, ifO_dec, if_neg (by omega)]
  unfold law18_HopsEnd.l5
  refine iter_eq (f := law18_HopsEnd.l5b 1000010) (fun v => v.1 = l ∧ v.2.1 = names ∧ v.2.2.1 = true ∧ ∃ i : Nat, v.2.2.2.2 = (i : Int) ∧ i ≤ names.length ∧ v.2.2.2.1 = B (joinC (names.take i)) ∧ ∀ x ∈ names.take i, idM x.data.toList = true ∧ x.size ≤ 50) (fun v => (names.length + 1 - v.2.2.2.2).toNat) (fun _ => some true) ?_ _ _ ⟨rfl, rfl, rfl, 0, rfl, Nat.zero_le _, rfl, fun x hx => by simp at hx⟩ (by show ((names.length : Int) + 1 - 0).toNat < 1000010; omega)
  rintro r ⟨v0, v1, v2, v3, v4⟩ ⟨g0, g1, g2, i, g4, hi, g3, g5⟩ hr
  simp only at g0 g1 g2 g3 g4
  subst g0; subst g1; subst g2; subst g3; subst g4
  have hjl : (joinC (v1.take i)).length ≤ 52 * 10 := by
    have b0 := joinC_len (v1.take i)
    have b1 : ∀ xs : List ByteArray, (∀ x ∈ xs, x.size ≤ 50) → sumS xs ≤ 50 * xs.length := by
      intro xs
      induction xs with
      | nil => intro _; simp [sumS]
      | cons y xs ih =>
        intro hx
        have := ih (fun x hx' => hx x (by simp [hx']))
        have := hx y (by simp)
        simp only [sumS, List.length_cons]; omega
    have b2 := b1 (v1.take i) (fun x hx => (g5 x hx).2)
    have b3 : (v1.take i).length ≤ 10 := by rw [List.length_take]; omega
    omega
  unfold law18_HopsEnd.l5b
  simp only [lenL_nat, ltI_nat, inB_nat, ifO_dec]
  by_cases h : i < v1.length
  · have hl := len_data v1[i]
    rw [if_pos h, if_pos h, elT_get (t := .str) (xs := v1) h, show ltI 50 (lenS v1[i]) = decide (50 < v1[i].size) from ltI_nat 50 _, ifO_dec]
    by_cases h50 : 50 < v1[i].size
    · rw [if_pos h50]
    have i2 : ref18_Id.f 1000010 v1[i] = some (idM v1[i].data.toList) := (congrArg (fun q => ref18_Id.f 1000010 q) (B_of v1[i])).trans (r18id _ (by omega) _ (by omega) (by omega))
    rw [if_neg h50, if_pos h, i2, bindO_some]
    cases hm : idM v1[i].data.toList with
    | false => rw [show eqB false false = true from rfl, ifO_true]
    | true =>
      rw [show eqB true false = false from rfl, ifO_false, show ltI 0 (i : Int) = decide (0 < i) from ltI_nat 0 i, ifO_dec]
      have j7 : ∀ x : Bs, x.length ≤ 1000 → x ++ v1[i].data.toList = joinC (v1.take (i + 1)) → law18_HopsEnd.j7 1000010 r (v0, (v1, (true, (B x, (i : Int))))) = some true := by
        intro x hx hj
        have hB : v1[i] = B v1[i].data.toList := B_of _
        have e1 : fitsS (B x) v1[i] = true := by rw [hB, B_fits]; exact decide_eq_true (by omega)
        have e2 : catS (B x) v1[i] = B (x ++ v1[i].data.toList) := by
          conv => lhs; rw [hB]
          rw [B_cat]
        unfold law18_HopsEnd.j7
        simp only [lenL_nat]
        rw [inB_yes h, ifO_true, elT_get (t := .str) (xs := v1) h, e1, ifO_true, e2, next64 (by omega), hj]
        refine hr _ ⟨rfl, rfl, rfl, i + 1, rfl, h, rfl, fun y hy => ?_⟩ (by show ((v1.length : Int) + 1 - ((i + 1 : Nat) : Int)).toNat < ((v1.length : Int) + 1 - (i : Int)).toNat; omega)
        rw [take_snoc _ _ h] at hy
        rcases List.mem_append.1 hy with hy | hy
        · exact g5 y hy
        · rw [List.mem_singleton.1 hy]; exact ⟨hm, by omega⟩
      have hjs := joinC_snoc (v1.take i) v1[i]
      rw [← take_snoc _ _ h] at hjs
      by_cases h0 : 0 < i
      · have hne : ¬ v1.take i = [] := by
          intro e
          have h9 : (v1.take i).length = 0 := by rw [e]; rfl
          rw [List.length_take] at h9
          omega
        rw [if_neg hne] at hjs
        have hfit : fitsS (B (joinC (v1.take i))) (B [44, 32]) = true := by rw [B_fits]; exact decide_eq_true (by simp only [List.length_cons, List.length_nil]; omega)
        rw [if_pos h0, show (⟨#[44, 32]⟩ : ByteArray) = B [44, 32] from rfl, hfit, ifO_true, B_cat]
        exact j7 _ (by simp only [List.length_append, List.length_cons, List.length_nil]; omega) hjs.symm
      · obtain rfl : i = 0 := by omega
        rw [if_pos (by simp)] at hjs
        rw [if_neg h0]
        exact j7 _ (by rw [List.take_zero]; exact Nat.zero_le _) (by rw [hjs, List.take_zero]; rfl)
  · rw [List.take_of_length_le (by omega)] at hjl g5 ⊢
    have hxl := left_len [conn] v0
    have hxs := sumF_left [conn] v0
    rw [if_neg h, without_is v0 [conn] (by omega) (by simp), bindO_some, with_is (XW.left [conn] v0) conn (B (joinC v1)) (by omega), bindO_some]
    have hsn : sumF (XW.left [conn] v0 ++ [(conn, B (joinC v1))]) ≤ 5000 := by
      rw [sumF_snoc]
      show sumF (XW.left [conn] v0) + (10 + (B (joinC v1)).size + 4) ≤ _
      rw [B_size]; omega
    rw [ends_is (XW.left [conn] v0 ++ [(conn, B (joinC v1))]) (by omega) _ (by omega), bindO_some]
    have hg : getV conn (XW.left [conn] v0 ++ [(conn, B (joinC v1))]) = joinC v1 := by
      unfold getV
      rw [vals_app, vals_left, vals_own]
      show Lib.join [(B (joinC v1)).data.toList] _ = _
      rw [Lib.join_one, B_data]
    have hC : C (joinC v1) 0 0 [] = v1 := by
      rw [joinC_JL, C_joined [32] [] (fun c hc => by rw [List.mem_singleton.1 hc]; decide) (fun c hc => by cases hc) _ (fun u hu => by
        obtain ⟨x, hx, rfl⟩ := List.mem_map.1 hu
        exact id_good _ (g5 x hx).1), List.map_map]
      conv => rhs; rw [← List.map_id v1]
      apply List.map_congr_left
      intro x _
      exact B_self x
    refine end11 v1 (by omega) (endsV (XW.left [conn] v0 ++ [(conn, B (joinC v1))])) (Nat.le_trans (sumF_left _ _) (by omega)) (fun x hx => by have := (g5 x hx).2; omega) (fun x hx hup => ?_) _ (by omega)
    refine vals_named ?_ _
    unfold namesV
    rw [hg, hC]
    refine List.mem_append.2 (.inr ?_)
    refine List.mem_map.2 ⟨x, hx, ?_⟩
    unfold lowT
    rw [low_same _ hup, B_self]
end Go.Proofs.YtkjjegjafpefcaaDoor.R
