/- Variants tell their values; texts joined by commas are split again. -/
import Derived.Test.YtmmbedlegmbppaaDoorPVary
namespace Go.Proofs.YtmmbedlegmbppaaDoor.R
open Go Go.RowKit
set_option linter.unusedSimpArgs false
set_option linter.unusedVariables false
/-! ### digits tell their number -/
def numD (l : Bs) : Nat := l.foldl (fun a c => a * 10 + (c.toNat - 48)) 0
theorem dig_byte {n : Nat} (h : n < 10) : (UInt8.ofNat (48 + n)).toNat = 48 + n := by
  rw [UInt8.toNat_ofNat']; omega
theorem numD_dec : ∀ (m n : Nat), n ≤ m → numD (Lib.decDigits n) = n := by
  intro m
  induction m with
  | zero =>
    intro n h
    obtain rfl : n = 0 := by omega
    rw [dec_small (by omega)]; rfl
  | succ m ih =>
    intro n h
    by_cases h1 : n < 10
    · rw [dec_small h1]
      unfold numD
      simp only [List.foldl_cons, List.foldl_nil, dig_byte h1]; omega
    · rw [dec_big h1]
      have := ih (n / 10) (by omega)
      unfold numD at this ⊢
      rw [List.foldl_append, this]
      simp only [List.foldl_cons, List.foldl_nil, dig_byte (show n % 10 < 10 by omega)]; omega
theorem dec_inj {n m : Nat} (h : Lib.decDigits n = Lib.decDigits m) : n = m := by rw [← numD_dec n n (Nat.le_refl _), h, numD_dec m m (Nat.le_refl _)]
theorem dec_all : ∀ (m n : Nat), n ≤ m → ∀ c ∈ Lib.decDigits n, 48 ≤ c.toNat ∧ c.toNat ≤ 57 := by
  intro m
  induction m with
  | zero =>
    intro n h c hc
    obtain rfl : n = 0 := by omega
    rw [dec_small (by omega), List.mem_singleton] at hc
    subst hc; decide
  | succ m ih =>
    intro n h c hc
    by_cases h1 : n < 10
    · rw [dec_small h1, List.mem_singleton] at hc
      subst hc
      rw [dig_byte h1]; omega
    · rw [dec_big h1] at hc
      rcases List.mem_append.1 hc with hc | hc
      · exact ih (n / 10) (by omega) c hc
      · rw [List.mem_singleton] at hc
        subst hc
        rw [dig_byte (by omega)]; omega
theorem dec_ne (n : Nat) : Lib.decDigits n ≠ [] := by
  by_cases h : n < 10
  · rw [dec_small h]; simp
  · rw [dec_big h]; simp
theorem dec_no58 (n : Nat) : ∀ c ∈ Lib.decDigits n, c ≠ 58 := fun c hc e => by
  have := dec_all n n (Nat.le_refl _) c hc
  rw [e] at this
  revert this; decide
/-! ### variants tell their values -/
theorem C_nil : C [] 0 0 [] = [] := by
  rw [C_end [] 0 0 [] (Nat.le_refl 0), B_extract, takeP_B]
  rfl
theorem val_none {nm : ByteArray} {q : List Fld} (h : isV nm q = false) : valV nm q = [] := by
  unfold isV at h
  have h1 : XG.vals nm q = [] := List.eq_nil_of_length_eq_zero (by have := of_decide_eq_false h; omega)
  unfold valV partsV getV
  rw [h1]
  rw [show Lib.join (List.map (fun x : ByteArray => x.data.toList) []) [44, 32] = [] from rfl, C_nil]
  rfl
def sameN (a b : List Fld) (nm : ByteArray) : Bool := decide (valV nm a = valV nm b) && (isV nm a == isV nm b)
theorem sameN_iff (a b : List Fld) (nm : ByteArray) : sameN a b nm = true ↔ valV nm a = valV nm b ∧ isV nm a = isV nm b := by unfold sameN; simp
theorem told_same {a b : List Fld} {nm : ByteArray} (h : sameN a b nm = true) : toldV nm a = toldV nm b := by
  obtain ⟨h1, h2⟩ := (sameN_iff _ _ _).1 h
  unfold toldV
  rw [h1, h2]
theorem told_inj {a b : List Fld} {nm : ByteArray} {x y : Bs} (h : toldV nm a ++ 59 :: x = toldV nm b ++ 59 :: y) : sameN a b nm = true ∧ x = y := by
  rw [sameN_iff]
  unfold toldV at h
  have mix : ∀ (n : Nat) (u v : Bs), ¬ Lib.decDigits n ++ 58 :: u = 45 :: v := by
    intro n u v e
    have h0 := dec_ne n
    have ha := dec_all n n (Nat.le_refl _)
    cases hd : Lib.decDigits n with
    | nil => exact h0 hd
    | cons c r =>
      rw [hd] at e ha
      have := ha c (by simp)
      rw [(List.cons.inj e).1] at this
      revert this; decide
  cases ha : isV nm a with
  | false =>
    cases hb : isV nm b with
    | false =>
      rw [ha, hb] at h
      simp only [Bool.false_eq_true, if_false, List.cons_append, List.nil_append] at h
      exact ⟨⟨by rw [val_none ha, val_none hb], rfl⟩, (List.cons.inj (List.cons.inj h).2).2⟩
    | true =>
      rw [ha, hb] at h
      simp only [Bool.false_eq_true, if_false, if_true, List.cons_append, List.nil_append, List.append_assoc] at h
      exact absurd h.symm (mix _ _ _)
  | true =>
    cases hb : isV nm b with
    | false =>
      rw [ha, hb] at h
      simp only [Bool.false_eq_true, if_false, if_true, List.cons_append, List.nil_append, List.append_assoc] at h
      exact absurd h (mix _ _ _)
    | true =>
      rw [ha, hb] at h
      simp only [if_true, List.append_assoc, List.cons_append] at h
      have c1 := cutAt_of 58 (valV nm a ++ 59 :: x) _ (dec_no58 (valV nm a).length)
      have c2 := cutAt_of 58 (valV nm b ++ 59 :: y) _ (dec_no58 (valV nm b).length)
      rw [h, c2] at c1
      obtain ⟨e1, e2⟩ := Prod.mk.inj (Option.some.inj c1)
      have e3 := dec_inj e1
      obtain ⟨e4, e5⟩ := List.append_inj e2 e3
      exact ⟨⟨e4.symm, rfl⟩, (List.cons.inj e5).2.symm⟩
theorem variantV_cons (nm : ByteArray) (r : List ByteArray) (q : List Fld) : variantV (nm :: r) q = entV q nm ++ variantV r q := by unfold variantV; rw [List.flatMap_cons]
theorem variantV_nil (q : List Fld) : variantV [] q = [] := by unfold variantV; exact List.flatMap_nil
theorem entV_same {a b : List Fld} {nm : ByteArray} (h : toldV nm a = toldV nm b) : entV a nm = entV b nm := congrArg (fun z => nm.data.toList ++ 58 :: (z ++ [59])) h
theorem variant_same {a b : List Fld} (names : List ByteArray) (h : names.all (sameN a b) = true) : variantV names a = variantV names b := by
  induction names with
  | nil => exact (variantV_nil a).trans (variantV_nil b).symm
  | cons nm r ih =>
    have h1 := Bool.and_eq_true_iff.1 ((List.all_cons ..).symm.trans h)
    exact (variantV_cons nm r a).trans ((congr (congrArg (· ++ ·) (entV_same (told_same h1.1))) (ih h1.2)).trans (variantV_cons nm r b).symm)
theorem variant_inj {a b : List Fld} (names : List ByteArray) (h : variantV names a = variantV names b) : names.all (sameN a b) = true := by
  induction names with
  | nil => rfl
  | cons nm r ih =>
    rw [variantV_cons, variantV_cons] at h
    unfold entV at h
    simp only [List.append_assoc, List.cons_append, List.nil_append] at h
    obtain ⟨h1, h2⟩ := told_inj (List.cons.inj (List.append_cancel_left h)).2
    rw [List.all_cons, h1, ih h2]; rfl
/-! ### fields of other names change nothing -/
def lessV (names : List ByteArray) (a : List Fld) : List Fld := a.filter fun f => names.any fun n => eqS f.1 n
theorem vals_less {names : List ByteArray} {nm : ByteArray} (h : nm ∈ names) : ∀ a : List Fld, XG.vals nm (lessV names a) = XG.vals nm a
  | [] => rfl
  | f :: r => by
    have ih := vals_less h r
    unfold XG.vals lessV at ih ⊢
    rw [List.filter_cons]
    by_cases hf : (f.1.toList == nm.toList) = true
    · have : (names.any fun n => eqS f.1 n) = true := by rw [List.any_eq_true]; exact ⟨nm, h, hf⟩
      rw [if_pos this, List.filter_cons, List.filter_cons, if_pos hf, if_pos hf, List.map_cons, List.map_cons, ih]
    · split
      · rw [List.filter_cons, List.filter_cons, if_neg hf, if_neg hf, ih]
      · rw [ih, List.filter_cons, if_neg hf]
theorem variant_less (names : List ByteArray) (a : List Fld) : variantV names (lessV names a) = variantV names a := by
  refine variant_same names ?_
  rw [List.all_eq_true]
  intro nm hnm
  rw [sameN_iff]
  unfold valV partsV getV isV
  rw [vals_less hnm a]
  exact ⟨rfl, rfl⟩
theorem sumF_filter (p : Fld → Bool) : ∀ l : List Fld, sumF (l.filter p) ≤ sumF l
  | [] => Nat.le_refl _
  | f :: r => by
    have ih := sumF_filter p r
    rw [List.filter_cons]
    split
    · show f.1.size + f.2.size + 4 + sumF (r.filter p) ≤ f.1.size + f.2.size + 4 + sumF r; omega
    · show sumF (r.filter p) ≤ f.1.size + f.2.size + 4 + sumF r; omega
/-! ### texts joined by commas -/
def GoodT (u : Bs) : Prop := u ≠ [] ∧ ∀ c ∈ u, blankB c = false ∧ c.toNat ≠ 34 ∧ c.toNat ≠ 44
theorem tchar_good : ∀ n : Fin 256, X.isTchar (UInt8.ofNat n.val) = true → blankB (UInt8.ofNat n.val) = false ∧ (UInt8.ofNat n.val).toNat ≠ 34 ∧ (UInt8.ofNat n.val).toNat ≠ 44 := by decide +kernel
theorem tok_good {u : Bs} (h : tokB u = true) : GoodT u := by
  unfold tokB at h
  split at h
  · cases h
  · rename_i hne
    refine ⟨hne, fun c hc => ?_⟩
    have h1 := List.all_eq_true.1 h c hc
    have := tchar_good ⟨c.toNat, c.toNat_lt⟩
    simp only [UInt8.ofNat_toNat] at this
    exact this h1
theorem blank_no (c : UInt8) (h : blankB c = true) : c.toNat ≠ 34 ∧ c.toNat ≠ 44 := by
  refine ⟨fun e => ?_, fun e => ?_⟩
  · have : c = 34 := UInt8.toNat_inj.1 e
    rw [this] at h; revert h; decide
  · have : c = 44 := UInt8.toNat_inj.1 e
    rw [this] at h; revert h; decide
theorem dw_app' (a b : Bs) (h : ∀ c ∈ a, blankB c = true) : (a ++ b).dropWhile blankB = b.dropWhile blankB := by
  induction a with
  | nil => rfl
  | cons c a ih => rw [List.cons_append, List.dropWhile_cons, if_pos (h c (by simp))]; exact ih fun d hd => h d (by simp [hd])
theorem dw_not' (a : Bs) (h : ∀ c ∈ a, blankB c = false) (b : Bs) (h0 : a ≠ []) : (a ++ b).dropWhile blankB = a ++ b := by
  cases a with
  | nil => exact absurd rfl h0
  | cons c a => rw [List.cons_append, List.dropWhile_cons, h c (by simp)]; rfl
theorem strip_mid' (lead t tabs : Bs) (h0 : t ≠ []) (hl : ∀ c ∈ lead, blankB c = true) (ht : ∀ c ∈ t, blankB c = false) (hb : ∀ c ∈ tabs, blankB c = true) : strip (lead ++ (t ++ tabs)) = t := by
  unfold strip
  rw [dw_app' lead _ hl, dw_not' t ht tabs h0]
  unfold nbEnd
  rw [List.reverse_append, dw_app' _ _ (fun c hc => hb c (List.mem_reverse.1 hc))]
  have := dw_not' t.reverse (fun c hc => ht c (List.mem_reverse.1 hc)) [] (by simpa using h0)
  rw [List.append_nil] at this
  rw [this, List.length_reverse, List.take_left']
  rfl
theorem drop_head' {l : Bs} {i : Nat} {c : UInt8} {m : Bs} (h : l.drop i = c :: m) : ∃ hi : i < l.length, l[i] = c ∧ l.drop (i + 1) = m := by
  have hi : i < l.length := by
    rcases Nat.lt_or_ge i l.length with h1 | h1
    · exact h1
    · rw [List.drop_eq_nil_of_le h1] at h; cases h
  rw [List.drop_eq_getElem_cons hi] at h
  exact ⟨hi, (List.cons.inj h).1, (List.cons.inj h).2⟩
theorem C_skip' (l : Bs) (fr : Nat) (acc : List ByteArray) : ∀ (m : Bs) (i : Nat) (y : Bs), l.drop i = m ++ y → (∀ c ∈ m, c.toNat ≠ 34 ∧ c.toNat ≠ 44) → C l fr i acc = C l fr (i + m.length) acc ∧ l.drop (i + m.length) = y
  | [], i, y, h, _ => ⟨rfl, h⟩
  | c :: m, i, y, h, hm => by
    obtain ⟨hi, hc, hd⟩ := drop_head' h
    have h2 := hm c (by simp)
    have := C_skip' l fr acc m (i + 1) y hd (fun d hd => hm d (by simp [hd]))
    rw [C_step l fr i acc hi, hc, if_neg h2.1, if_neg h2.2, List.length_cons, show i + (m.length + 1) = i + 1 + m.length by omega]
    exact this
theorem C_tail (l a b : Bs) (hs : ∀ c ∈ a, blankB c = true) (hb : ∀ c ∈ b, blankB c = true) : ∀ (r : List Bs) (t lead : Bs) (i : Nat) (acc : List ByteArray), (∀ c ∈ lead, blankB c = true) → GoodT t → (∀ u ∈ r, GoodT u) → l.drop i = lead ++ (t ++ Lib.joinTail (b ++ 44 :: a) r) →
    C l i i acc = acc ++ (t :: r).map B := by
  intro r
  induction r with
  | nil =>
    intro t lead i acc hl ht _ hd
    have hT := ht.2
    have hd : l.drop i = lead ++ (t ++ []) := hd
    have hm : ∀ c ∈ lead ++ (t ++ []), c.toNat ≠ 34 ∧ c.toNat ≠ 44 := by
      intro c hc
      simp only [List.mem_append] at hc
      rcases hc with hc | hc | hc
      · exact blank_no c (hl c hc)
      · exact (hT c hc).2
      · cases hc
    obtain ⟨h1, h2⟩ := C_skip' l i acc _ i [] (by rw [hd]; simp) hm
    have hle : l.length ≤ i + (lead ++ (t ++ [])).length := by
      have := congrArg List.length h2
      rw [List.length_drop] at this
      simp at this ⊢
      omega
    rw [h1, C_end _ _ _ _ hle, B_extract, List.take_length, hd, takeP_B, strip_mid' lead t [] ht.1 hl (fun c hc => (hT c hc).1) (fun c hc => by cases hc), if_neg ht.1]
    rfl
  | cons u r ih =>
    intro t lead i acc hl ht hr hd
    have hT := ht.2
    have hm : ∀ c ∈ lead ++ (t ++ b), c.toNat ≠ 34 ∧ c.toNat ≠ 44 := by
      intro c hc
      simp only [List.mem_append] at hc
      rcases hc with hc | hc | hc
      · exact blank_no c (hl c hc)
      · exact (hT c hc).2
      · exact blank_no c (hb c hc)
    have hj : lead ++ (t ++ Lib.joinTail (b ++ 44 :: a) (u :: r)) = lead ++ (t ++ b) ++ 44 :: (a ++ (u ++ Lib.joinTail (b ++ 44 :: a) r)) := by
      simp [Lib.joinTail]
    rw [hj] at hd
    obtain ⟨h1, h2⟩ := C_skip' l i acc _ i _ hd hm
    obtain ⟨hi, hc, hd2⟩ := drop_head' h2
    have hex : (B l).extract i (i + (lead ++ (t ++ b)).length) = B (lead ++ (t ++ b)) := by
      rw [B_extract, List.drop_take, hd, show i + (lead ++ (t ++ b)).length - i = (lead ++ (t ++ b)).length by omega, List.take_left']
      rfl
    rw [h1, C_step _ _ _ _ hi, hc, if_neg (by decide), if_pos (by decide), hex, takeP_B, strip_mid' lead t b ht.1 hl (fun c hc => (hT c hc).1) hb, if_neg ht.1,
      ih u a _ _ hs (hr u (by simp)) (fun v hv => hr v (by simp [hv])) hd2]
    simp
theorem C_join (a b : Bs) (hs : ∀ c ∈ a, blankB c = true) (hb : ∀ c ∈ b, blankB c = true) (ts : List Bs) (h : ∀ u ∈ ts, GoodT u) : C (Lib.join ts (b ++ 44 :: a)) 0 0 [] = ts.map B := by
  cases ts with
  | nil => exact C_nil
  | cons t r =>
    rw [Lib.join_cons, C_tail _ a b hs hb r t [] 0 [] (fun c hc => by cases hc) (h t (by simp)) (fun u hu => h u (by simp [hu])) (by simp)]
    rfl
end Go.Proofs.YtmmbedlegmbppaaDoor.R
