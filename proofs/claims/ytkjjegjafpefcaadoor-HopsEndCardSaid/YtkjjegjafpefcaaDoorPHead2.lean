/- Fields, and whether they may be; as text, and out of one. -/
import Derived.Test.YtkjjegjafpefcaaDoorPHead
namespace Go.Proofs.YtkjjegjafpefcaaDoor.R
open Go Go.RowKit
set_option linter.unusedSimpArgs false
set_option linter.unusedVariables false
def fieldM (l : Bs) : Option (Bs × Bs) := match cutAt 58 l with
  | none => none
  | some (a, b) => if tokB a = true ∧ txtB (strip b) = true then some (lowL a, strip b) else none
theorem field_is (l : Bs) (hl : l.length ≤ 1000000) (k : Nat) : head_field.f k (B l) = some (match fieldM l with
    | some (n, v) => ((B n, B v), 0)
    | none => ((B [], B []), 2)) := by
  unfold head_field.f fieldM
  rw [show (⟨#[58]⟩ : ByteArray) = B [58] from rfl, cut_is l hl, bindO_some]
  cases hc : cutAt 58 l with
  | none =>
    show bindO (ascii_Trim.f k (B [])) _ = _
    rw [trim_is _ (by simp), bindO_some]; rfl
  | some p =>
    obtain ⟨a, b⟩ := p
    obtain ⟨h1, h2⟩ := cutAt_some hc
    have hlen : l.length = a.length + (b.length + 1) := by rw [h1]; simp
    have hs := strip_le b
    show bindO (ascii_Trim.f k (B b)) _ = _
    rw [trim_is b (by omega), bindO_some, show notB true = false from rfl, ifO_false]
    show bindO (ascii_Token.f k (B a)) _ = _
    rw [token_is a (by omega), bindO_some, text_is (strip b) (by omega)]
    simp only
    cases ht : tokB a with
    | false =>
      rw [show notB false = true from rfl, ifO_true, if_neg (by simp)]; rfl
    | true =>
      rw [show notB true = false from rfl, ifO_false, bindO_some]
      unfold head_field.j2
      cases hx : txtB (strip b) with
      | false => rw [if_neg (by simp)]; rfl
      | true =>
        show bindO (ascii_Lower.f k (B a)) _ = _
        rw [lower_is a (by omega), bindO_some, if_pos ⟨rfl, rfl⟩]
/-! ### whether fields may be -/
abbrev nmB (f : Fld) : Bs := f.1.data.toList
abbrev vlB (f : Fld) : Bs := f.2.data.toList
def okF (f : Fld) : Bool := tokB (nmB f) && (decide (lowL (nmB f) = nmB f) && (txtB (vlB f) && decide (f.1.size + f.2.size ≤ 1998)))
def rightV (l : List Fld) : Bool := decide (l.length ≤ 64) && l.all okF
theorem right1_is (f : Fld) (h : f.1.size + f.2.size ≤ 1000000) (k : Nat) : head_right.f k f = some (okF f) := by
  obtain ⟨n, v⟩ := f
  simp only at h
  unfold head_right.f okF nmB vlB
  simp only
  have hn : n = B n.data.toList := B_of n
  have hv : v = B v.data.toList := B_of v
  have en : n.data.toList.length = n.size := by rw [Array.length_toList]; rfl
  have ev : v.data.toList.length = v.size := by rw [Array.length_toList]; rfl
  have e1 : ascii_Token.f k n = some (tokB n.data.toList) := by
    conv => lhs; rw [hn]
    exact token_is _ (by omega) k
  have e2 : ascii_Lower.f k n = some (B (lowL n.data.toList)) := by
    conv => lhs; rw [hn]
    exact lower_is _ (by omega) k
  have e3 : ascii_Text.f k v = some (txtB v.data.toList) := by
    conv => lhs; rw [hv]
    exact text_is _ (by omega) k
  have e4 : eqS (B (lowL n.data.toList)) n = decide (lowL n.data.toList = n.data.toList) := by
    conv => lhs; rw [hn]
    rw [B_data]; exact B_eq _ _
  rw [e1, bindO_some, e2, bindO_some, e3, bindO_some, e4, ifO_dec]
  unfold lenS
  rw [add64 (by omega) (by omega), leD, show decide ((n.size : Int) + (v.size : Int) ≤ 1998) = decide (n.size + v.size ≤ 1998) by congr 1; rw [eq_iff_iff]; omega]
  cases tokB n.data.toList with
  | false => rfl
  | true =>
    rw [ifO_true]
    by_cases hl : lowL n.data.toList = n.data.toList
    · rw [if_pos hl, decide_eq_true hl]
      cases txtB v.data.toList with
      | false => rfl
      | true => rfl
    · rw [if_neg hl, decide_eq_false hl]; rfl
theorem sumF_get : ∀ (l : List Fld) (i : Nat) (h : i < l.length), l[i].1.size + l[i].2.size + 4 ≤ sumF l
  | [], i, h => by simp at h
  | f :: r, 0, _ => by show f.1.size + f.2.size + 4 ≤ f.1.size + f.2.size + 4 + sumF r; omega
  | f :: r, i + 1, h => by
    have hi : i < r.length := by simpa using h
    have := sumF_get r i hi
    show (r[i]'hi).1.size + (r[i]'hi).2.size + 4 ≤ f.1.size + f.2.size + 4 + sumF r
    omega
theorem right_is (l : List Fld) (hs : sumF l ≤ 1000000) (k : Nat) (hk : l.length + 1 < k) : head_Right.f k l = some (rightV l) := by
  have hl := sumF_len l
  unfold head_Right.f rightV
  rw [leD, lenL_nat, ifO_dec]
  by_cases h64 : l.length ≤ 64
  · rw [if_pos (by omega), decide_eq_true h64, Bool.true_and]
    unfold head_Right.l0
    refine iter_eq (f := head_Right.l0b k) (fun v => v.1 = l ∧ v.2.1 = (l.length : Int) ∧ ∃ i : Nat, v.2.2.1 = (i : Int) ∧ i ≤ l.length ∧ (l.take i).all okF = true) (fun v => (l.length + 1 - v.2.2.1).toNat) (fun _ => some (l.all okF)) ?_ k _ ⟨rfl, rfl, 0, rfl, Nat.zero_le _, rfl⟩ (by show ((l.length : Int) + 1 - 0).toNat < k; omega)
    rintro r ⟨s, m, i', q⟩ ⟨h1, h2, i, h3, hi, h7⟩ hr
    simp only at h1 h2 h3
    subst h1; subst h2; subst h3
    unfold head_Right.l0b
    simp only [lenL_nat, ltI_nat, inB_nat, ifO_dec]
    by_cases h : i < s.length
    · have hg := sumF_get s i h
      rw [if_pos h, if_pos h, elT_get (t := .agg (.pair .str .str)) (xs := s) h]
      have hh : head_RightS1.f k (s[i].1, s[i].2) = some (notB (okF s[i])) := by
        unfold head_RightS1.f
        show bindO (head_right.f k s[i]) _ = _
        rw [right1_is _ (by omega)]; rfl
      rw [hh, bindO_some]
      cases hc : okF s[i] with
      | false =>
        rw [show notB false = true from rfl, ifO_true, leD, decide_eq_true (by omega)]
        have : s.all okF = false := List.all_eq_false.2 ⟨s[i], List.getElem_mem h, by rw [hc]; decide⟩
        rw [this]; rfl
      | true =>
        rw [show notB true = false from rfl, ifO_false, next64 (by omega)]
        refine hr _ ⟨rfl, rfl, i + 1, rfl, h, ?_⟩ (by show ((s.length : Int) + 1 - ((i + 1 : Nat) : Int)).toNat < ((s.length : Int) + 1 - (i : Int)).toNat; omega)
        rw [List.take_add_one, List.getElem?_eq_getElem h, List.all_append, h7]
        simp [hc]
    · rw [if_neg h]
      rw [List.take_of_length_le (by omega)] at h7
      rw [h7]; rfl
  · rw [if_neg (by omega), decide_eq_false h64]; rfl
theorem r6right (l : List Fld) (hs : sumF l ≤ 100000) (k : Nat) (hk : 100010 ≤ k) : ref06_Right.f k l = some (rightV l) := by
  have hl := sumF_len l
  unfold ref06_Right.f ref06_Right.l0
  refine iter_eq (f := ref06_Right.l0b k) (fun v => v.1 = l ∧ ∃ i : Nat, v.2 = (i : Int) ∧ i ≤ l.length ∧ (l.take i).all okF = true) (fun v => (l.length + 1 - v.2).toNat) (fun _ => some (rightV l)) ?_ k _ ⟨rfl, 0, rfl, Nat.zero_le _, rfl⟩ (by show ((l.length : Int) + 1 - 0).toNat < k; omega)
  rintro r ⟨s, i'⟩ ⟨h1, i, h3, hi, h7⟩ hr
  simp only at h1 h3
  subst h1; subst h3
  unfold ref06_Right.l0b ref06_Right.j2
  simp only [lenL_nat, ltI_nat, inB_nat, ifO_dec]
  by_cases h : i < s.length
  · have hg := sumF_get s i h
    rw [if_pos h, if_pos h, elT_get (t := .agg (.pair .str .str)) (xs := s) h]
    have no : okF s[i] = false → rightV s = false := by
      intro hc
      have : s.all okF = false := List.all_eq_false.2 ⟨s[i], List.getElem_mem h, by rw [hc]; decide⟩
      unfold rightV; rw [this, Bool.and_false]
    have yes : okF s[i] = true → r (s, addI .i64 (i : Int) 1) = some (rightV s) := by
      intro hc
      rw [next64 (by omega)]
      refine hr _ ⟨rfl, i + 1, rfl, h, ?_⟩ (by show ((s.length : Int) + 1 - ((i + 1 : Nat) : Int)).toNat < ((s.length : Int) + 1 - (i : Int)).toNat; omega)
      rw [List.take_add_one, List.getElem?_eq_getElem h, List.all_append, h7]
      simp [hc]
    generalize hf : s[i] = f at hg no yes
    obtain ⟨n, v⟩ := f
    simp only at hg
    have hn : n = B n.data.toList := B_of n
    have hv : v = B v.data.toList := B_of v
    have en : n.data.toList.length = n.size := by rw [Array.length_toList]; rfl
    have ev : v.data.toList.length = v.size := by rw [Array.length_toList]; rfl
    have e1 : ref01_Token.f k n = some (tokB n.data.toList) := (congrArg (fun q => ref01_Token.f k q) hn).trans (r1token n.data.toList (by omega) k (by omega) (by omega))
    have e2 : ref01_Lower.f k n = some (B (lowL n.data.toList)) := (congrArg (fun q => ref01_Lower.f k q) hn).trans (r1lower n.data.toList (by omega) k (by omega))
    have e3 : ref01_Text.f k v = some (txtB v.data.toList) := (congrArg (fun q => ref01_Text.f k q) hv).trans (r1text v.data.toList (by omega) k (by omega))
    have e4 : eqS (B (lowL n.data.toList)) n = decide (lowL n.data.toList = n.data.toList) := (congrArg (fun q => eqS (B (lowL n.data.toList)) q) hn).trans (B_eq _ _)
    unfold okF nmB vlB at no yes
    simp only at no yes ⊢
    rw [e1, bindO_some, e2, bindO_some, e3, bindO_some, e4]
    unfold lenS
    rw [add64 (x := (n.size : Int)) (y := (v.size : Int)) (by omega) (by omega), ltD, show decide (1998 < (n.size : Int) + (v.size : Int)) = !decide (n.size + v.size ≤ 1998) by rw [← decide_not]; congr 1; rw [eq_iff_iff]; omega]
    cases h1 : tokB n.data.toList with
    | false => rw [h1] at no; rw [no rfl]; rfl
    | true =>
      rw [h1] at no yes
      rw [show notB true = false from rfl, ifO_false]
      cases h2 : decide (lowL n.data.toList = n.data.toList) with
      | false => rw [h2] at no; rw [no rfl]; rfl
      | true =>
        rw [h2] at no yes
        rw [show notB true = false from rfl, ifO_false]
        cases h3 : txtB v.data.toList with
        | false => rw [h3] at no; rw [no rfl]; rfl
        | true =>
          rw [h3] at no yes
          rw [show notB true = false from rfl, ifO_false]
          cases h4 : decide (n.size + v.size ≤ 1998) with
          | false => rw [h4] at no; rw [no rfl]; rfl
          | true => rw [h4] at yes; exact yes rfl
  · rw [if_neg h]
    rw [List.take_of_length_le (by omega)] at h7
    unfold rightV
    rw [h7, Bool.and_true, show leI (s.length : Int) 64 = decide (s.length ≤ 64) from leI_nat _ 64]
/-! ### fields as text -/
def lineF (f : Fld) : Bs := nmB f ++ ([58, 32] ++ (vlB f ++ [13, 10]))
def printL (l : List Fld) : Bs := l.flatMap lineF
theorem printL_len : ∀ l : List Fld, (printL l).length = sumF l
  | [] => rfl
  | f :: r => by
    have ih := printL_len r
    unfold printL at ih ⊢
    rw [List.flatMap_cons, List.length_append, ih]
    rw [sumF_cons]
    unfold lineF nmB vlB
    simp only [List.length_append, Array.length_toList, List.length_cons, List.length_nil]
    show f.1.size + (2 + (f.2.size + 2)) + _ = _
    omega
theorem printL_snoc (l : List Fld) (f : Fld) : printL (l ++ [f]) = printL l ++ lineF f := by unfold printL; rw [List.flatMap_append]; simp
theorem catB (x y : ByteArray) : catS x y = B (x.data.toList ++ y.data.toList) := by
  conv => lhs; rw [B_of x, B_of y]
  exact B_cat _ _
theorem fits_yes (x y : ByteArray) (h : x.size + y.size ≤ 1000000000) : fitsS x y = true := by unfold fitsS; exact decide_eq_true (by omega)
theorem lineF_cat (f : Fld) : catS (catS (catS f.1 (⟨#[58, 32]⟩ : ByteArray)) f.2) (⟨#[13, 10]⟩ : ByteArray) = B (lineF f) := by
  rw [catB, catB, catB, B_data, B_data]
  unfold lineF
  simp
theorem sumF_take (l : List Fld) (i : Nat) : sumF (l.take i) ≤ sumF l := by
  induction l generalizing i with
  | nil => simp
  | cons x r ih =>
    cases i with
    | zero => simp [sumF]
    | succ i => simp only [List.take_succ_cons, sumF]; have := ih i; omega
theorem catS_size (x y : ByteArray) : (catS x y).size = x.size + y.size := by unfold catS; exact ByteArray.size_append
theorem print_is (l : List Fld) (hs : sumF l ≤ 100000) (k : Nat) (hk : 100010 ≤ k) : head_Print.f k l = some (if rightV l = true then (B (printL l ++ [13, 10]), 0) else (B [], 2)) := by
  have hl := sumF_len l
  unfold head_Print.f
  rw [right_is l (by omega) k (by omega), bindO_some]
  cases rightV l with
  | false => rfl
  | true =>
    rw [show notB true = false from rfl, ifO_false, if_pos rfl]
    unfold head_Print.l1
    refine iter_eq (f := head_Print.l1b k) (fun v => v.1 = l ∧ v.2.1 = (l.length : Int) ∧ ∃ i : Nat, v.2.2.1 = (i : Int) ∧ i ≤ l.length ∧ v.2.2.2 = bytesI (B (printL (l.take i)))) (fun v => (l.length + 1 - v.2.2.1).toNat) (fun _ => some (B (printL l ++ [13, 10]), 0)) ?_ k _ ⟨rfl, rfl, 0, rfl, Nat.zero_le _, rfl⟩ (by show ((l.length : Int) + 1 - 0).toNat < k; omega)
    rintro r ⟨s, m, i', q⟩ ⟨h1, h2, i, h3, hi, h7⟩ hr
    simp only at h1 h2 h3 h7
    subst h1; subst h2; subst h3; subst h7
    unfold head_Print.l1b
    simp only [lenL_nat, ltI_nat, inB_nat, ifO_dec]
    by_cases h : i < s.length
    · have hg := sumF_get s i h
      have ht := sumF_take s i
      have hpl := printL_len (s.take i)
      have ht2 : sumF (s.take i ++ [s[i]]) ≤ sumF s := by
        have := sumF_take s (i + 1)
        rwa [show s.take (i + 1) = s.take i ++ [s[i]] by rw [List.take_add_one, List.getElem?_eq_getElem h]; rfl] at this
      have hll : (lineF s[i]).length = s[i].1.size + s[i].2.size + 4 := by
        unfold lineF nmB vlB
        simp only [List.length_append, Array.length_toList, List.length_cons, List.length_nil]
        show s[i].1.size + (2 + (s[i].2.size + 2)) = _
        omega
      rw [if_pos h, if_pos h, elT_get (t := .agg (.pair .str .str)) (xs := s) h]
      rw [fits_yes _ _ (by show _ + 2 ≤ _; omega), ifO_true, fits_yes _ _ (by rw [catS_size]; show _ + 2 + _ ≤ _; omega), ifO_true, fits_yes _ _ (by rw [catS_size, catS_size]; show _ + 2 + _ + 2 ≤ _; omega), ifO_true, lineF_cat, B_len]
      rw [show (bytesI (B (printL (s.take i)))).length = (printL (s.take i)).length by rw [B_bytes, List.length_map]]
      rw [fitsL_yes (by omega) (by omega), ifO_true, next64 (by omega)]
      refine hr _ ⟨rfl, rfl, i + 1, rfl, h, ?_⟩ (by show ((s.length : Int) + 1 - ((i + 1 : Nat) : Int)).toNat < ((s.length : Int) + 1 - (i : Int)).toNat; omega)
      show bytesI (B (printL (s.take i))) ++ bytesI (B (lineF s[i])) = bytesI (B (printL (s.take (i + 1))))
      rw [List.take_add_one, List.getElem?_eq_getElem h]
      show _ = bytesI (B (printL (s.take i ++ [s[i]])))
      rw [printL_snoc, B_bytes, B_bytes, B_bytes, List.map_append]
    · have hpl := printL_len s
      rw [if_neg h, List.take_of_length_le (by omega), show ofBytes (bytesI (B (printL s))) = B (printL s) by rw [B_bytes, B_ofBytes], show (⟨#[13, 10]⟩ : ByteArray) = B [13, 10] from rfl, fits_yes _ _ (by rw [B_size, B_size]; show _ + 2 ≤ _; omega), ifO_true, B_cat]
theorem r6print (l : List Fld) (hs : sumF l ≤ 100000) (k : Nat) (hk : 100010 ≤ k) : ref06_Print.f k l = some (if rightV l = true then (B (printL l ++ [13, 10]), 0) else (B [], 2)) := by
  have hl := sumF_len l
  unfold ref06_Print.f
  rw [r6right l hs k hk, bindO_some]
  cases rightV l with
  | false => rfl
  | true =>
    rw [show notB true = false from rfl, ifO_false, if_pos rfl]
    unfold ref06_Print.l1
    refine iter_eq (f := ref06_Print.l1b k) (fun v => v.1 = l ∧ ∃ i : Nat, v.2.2 = (i : Int) ∧ i ≤ l.length ∧ v.2.1 = B (printL (l.take i))) (fun v => (l.length + 1 - v.2.2).toNat) (fun _ => some (B (printL l ++ [13, 10]), 0)) ?_ k _ ⟨rfl, 0, rfl, Nat.zero_le _, rfl⟩ (by show ((l.length : Int) + 1 - 0).toNat < k; omega)
    rintro r ⟨s, q, i'⟩ ⟨h1, i, h3, hi, h7⟩ hr
    simp only at h1 h3 h7
    subst h1; subst h3; subst h7
    unfold ref06_Print.l1b
    simp only [lenL_nat, ltI_nat, inB_nat, ifO_dec]
    by_cases h : i < s.length
    · have hg := sumF_get s i h
      have ht := sumF_take s i
      have hpl := printL_len (s.take i)
      have hb : (B (printL (s.take i))).size ≤ 100000 := by rw [B_size]; omega
      rw [if_pos h, if_pos h, elT_get (t := .agg (.pair .str .str)) (xs := s) h, if_pos h]
      rw [fits_yes _ _ (by omega), ifO_true, fits_yes _ _ (by rw [catS_size]; show _ + _ + 2 ≤ _; omega), ifO_true, fits_yes _ _ (by rw [catS_size, catS_size]; show _ + _ + 2 + _ ≤ _; omega), ifO_true, fits_yes _ _ (by rw [catS_size, catS_size, catS_size]; show _ + _ + 2 + _ + 2 ≤ _; omega), ifO_true, next64 (by omega)]
      refine hr _ ⟨rfl, i + 1, rfl, h, ?_⟩ (by show ((s.length : Int) + 1 - ((i + 1 : Nat) : Int)).toNat < ((s.length : Int) + 1 - (i : Int)).toNat; omega)
      show catS (catS (catS (catS (B (printL (s.take i))) s[i].1) (⟨#[58, 32]⟩ : ByteArray)) s[i].2) (⟨#[13, 10]⟩ : ByteArray) = B (printL (s.take (i + 1)))
      rw [List.take_add_one, List.getElem?_eq_getElem h]
      show _ = B (printL (s.take i ++ [s[i]]))
      rw [printL_snoc, catB, catB, catB, catB, B_data, B_data, B_data, B_data]
      unfold lineF
      simp
    · have hpl := printL_len s
      rw [if_neg h, List.take_of_length_le (by omega), show (⟨#[13, 10]⟩ : ByteArray) = B [13, 10] from rfl, fits_yes _ _ (by rw [B_size, B_size]; show _ + 2 ≤ _; omega), ifO_true, B_cat]
/-! ### fields out of a text -/
def parseM : Nat → Bs → List Fld → List Fld × Bs × Int
  | 0, _, _ => ([], [], 9)
  | n + 1, l, out =>
    if ¬ (lineM l).2.2 = 0 then ([], [], (lineM l).2.2) else if (lineM l).1 = [] then (out, (lineM l).2.1, 0) else if out.length = 64 then ([], [], 4) else
      match fieldM (lineM l).1 with
      | none => ([], [], 2)
      | some f => parseM n (lineM l).2.1 (out ++ [(B f.1, B f.2)])
def parseR (N : Nat) (p : List Fld × Bs × Int) : List Fld × Int × Int := (p.1, if p.2.2 = 0 then ((N - p.2.1.length : Nat) : Int) else 0, p.2.2)
theorem parse_loop (l0 : Bs) (h0 : l0.length ≤ 100000) (K : Nat) : ∀ (n m : Nat) (l : Bs) (out : List Fld), l.length < n → n ≤ m → l.length ≤ l0.length → out.length ≤ 64 → iter (head_Parse.l0b K) m (B l0, out, B l) = some (parseR l0.length (parseM n l out)) := by
  intro n
  induction n with
  | zero => intro m l out h; omega
  | succ n ih =>
    intro m l out hn hm hl ho
    obtain ⟨m, rfl⟩ : ∃ j, m = j + 1 := ⟨m - 1, by omega⟩
    show head_Parse.l0b K (iter (head_Parse.l0b K) m) _ = _
    generalize hr : iter (head_Parse.l0b K) m = r
    unfold head_Parse.l0b parseM
    simp only
    rw [line_is l (by omega), bindO_some, neI_dec, ifO_dec]
    simp only
    by_cases he : (lineM l).2.2 = 0
    · obtain ⟨h1, h2, h3⟩ := lineM_ok he
      have hlen : l.length = (lineM l).1.length + ((lineM l).2.1.length + 2) := by
        have := congrArg List.length h1
        simp only [List.length_append, List.length_cons] at this
        omega
      rw [if_neg (by omega), if_neg (by omega), show (⟨#[]⟩ : ByteArray) = B [] from rfl, B_eq, ifO_dec]
      by_cases hn0 : (lineM l).1 = []
      · rw [if_pos hn0, if_pos hn0, B_len, B_len, sub64 (by omega) (by omega)]
        unfold parseR
        rw [if_pos rfl, show (l0.length : Int) - ((lineM l).2.1.length : Int) = ((l0.length - (lineM l).2.1.length : Nat) : Int) by omega]
      · rw [if_neg hn0, if_neg hn0, lenL_nat, eqI_dec, ifO_dec]
        by_cases h64 : out.length = 64
        · rw [if_pos (by omega), if_pos h64]; rfl
        · rw [if_neg (by omega), if_neg h64, field_is _ (by omega), bindO_some]
          cases hf : fieldM (lineM l).1 with
          | none => rfl
          | some f =>
            show ifO (neI 0 0) _ _ = _
            rw [show neI 0 0 = false from rfl, ifO_false, show ∀ x : Fld, fitsL (out.length : Int) (lenL (x :: ([] : List Fld))) 32 = true from fun x => fitsL_yes (n := out.length) (m := 1) (by omega) (by omega), ifO_true]
            subst hr
            exact ih m (lineM l).2.1 (out ++ [(B f.1, B f.2)]) (by omega) (by omega) (by omega) (by rw [List.length_append]; show _ + 1 ≤ 64; omega)
    · rw [if_pos he, if_pos he]
      unfold parseR
      rw [if_neg he]
/-- What fields a text begins with, how long they are, and why there are none. -/
def parseV (l : Bs) : List Fld × Int × Int := parseR l.length (parseM (l.length + 1) l [])
theorem parse_is (l : Bs) (h : l.length ≤ 100000) (k : Nat) (hk : 100010 ≤ k) : head_Parse.f k (B l) = some (parseV l) := by
  unfold head_Parse.f head_Parse.l0
  exact parse_loop l h k (l.length + 1) k l [] (by omega) (by omega) (Nat.le_refl _) (by simp)
end Go.Proofs.YtkjjegjafpefcaaDoor.R
