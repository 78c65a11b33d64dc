/- Networks' names, the parts of what tells of them, and whether one was met: the program's and the document's are one. -/
import Derived.Test.YtkjjegjafpefcaaDoorPLegLaw
namespace Go.Proofs.YtkjjegjafpefcaaDoor.R
open Go Go.RowKit
set_option linter.unusedSimpArgs false
set_option linter.unusedVariables false
/-! ### a name -/
def idB (c : UInt8) : Bool := X.isTchar c || decide (c = 58)
def idM (l : Bs) : Bool := decide (l ≠ []) && l.all idB
theorem enc_low (c : UInt8) (h : c.toNat < 128) : Utf8.encode (c.toNat : Int) = B [c] := by
  have hv : Utf8.valid (c.toNat : Int) = true := by unfold Utf8.valid; simp; omega
  unfold Utf8.encode
  simp only [hv, if_true, Int.toNat_natCast]
  rw [if_pos h]
  simp [B]
theorem tch_low : ∀ n : Fin 256, 128 ≤ n.val → X.isTchar (UInt8.ofNat n.val) = false := by decide +kernel
theorem tch_high (c : UInt8) (h : 128 ≤ c.toNat) : X.isTchar c = false := by
  have := tch_low ⟨c.toNat, c.toNat_lt⟩ h
  simpa using this
theorem enc_high (r : Int) (h : 128 ≤ r) : ∃ c t, Utf8.encode r = B (c :: t) ∧ 128 ≤ c.toNat ∧ t.length ≤ 3 := by
  unfold Utf8.encode
  generalize hc : (if Utf8.valid r = true then r.toNat else Utf8.runeError) = n
  have hn : 128 ≤ n := by
    rw [← hc]; split
    · omega
    · decide
  have hm : n ≤ 1114111 := by
    rw [← hc]
    split
    · rename_i hv; unfold Utf8.valid at hv; simp at hv; omega
    · decide
  simp only []
  rw [if_neg (by omega)]
  split
  · exact ⟨_, [_], rfl, by simp; omega, by simp⟩
  · split
    · exact ⟨_, [_, _], rfl, by simp; omega, by simp⟩
    · exact ⟨_, [_, _, _], rfl, by simp; omega, by simp⟩
theorem rune_low (l : Bs) (i : Nat) (h : i < l.length) (hc : l[i].toNat < 128) : runeI (B l) (i : Int) = (l[i].toNat : Int) ∧ runeN (B l) (i : Int) = ((i + 1 : Nat) : Int) := by
  have e : Utf8.decode (B l) i = (l[i].toNat, 1) := by
    rw [dec_at, show l.getD i 0 = l[i] from getD_at h]
    exact dn_low _ _ _ _ _ hc
  unfold runeI runeN
  rw [Int.toNat_natCast, e]
  exact ⟨rfl, by simp⟩
theorem rune_high (l : Bs) (i : Nat) (h : i < l.length) (hc : 128 ≤ l[i].toNat) : 128 ≤ runeI (B l) (i : Int) := by
  have e : 128 ≤ (Utf8.decode (B l) i).1 := by
    rw [dec_at, show l.getD i 0 = l[i] from getD_at h]
    exact dn_high _ _ _ _ _ hc
  unfold runeI
  rw [Int.toNat_natCast]
  omega
theorem tokB_one (c : UInt8) (t : Bs) : tokB (c :: t) = (X.isTchar c && t.all X.isTchar) := by
  unfold tokB
  simp
theorem id_is (l : Bs) (hl : l.length ≤ 1000000) (k : Nat) (hk : l.length + 1 < k) : hops_Id.f k (B l) = some (idM l) := by
  unfold hops_Id.f hops_Id.l0
  refine iter_eq (f := hops_Id.l0b k) (fun v => v.1 = B l ∧ v.2.1 = B l ∧ ∃ i : Nat, v.2.2 = (i : Int) ∧ i ≤ l.length ∧ (l.take i).all idB = true) (fun v => (l.length + 1 - v.2.2).toNat) (fun _ => some (idM l)) ?_ k _ ⟨rfl, rfl, 0, rfl, Nat.zero_le _, rfl⟩ (by show ((l.length : Int) + 1 - 0).toNat < k; omega)
  rintro r ⟨s, t, i'⟩ ⟨h1, h2, i, h3, hi, h4⟩ hr
  simp only at h1 h2 h3
  subst h1; subst h2; subst h3
  unfold hops_Id.l0b
  simp only [B_len, ltI_nat, ifO_dec, neI_dec]
  by_cases h : i < l.length
  · rw [if_pos h]
    have hall : l.all idB = true → idB l[i] = true := fun ha => List.all_eq_true.1 ha _ (List.getElem_mem h)
    have hbad : idB l[i] = false → idM l = false := by
      intro hb
      unfold idM
      cases ha : l.all idB with
      | false => rw [Bool.and_false]
      | true => rw [hall ha] at hb; cases hb
    have next : idB l[i] = true → r (B l, (B l, ((i + 1 : Nat) : Int))) = some (idM l) := by
      intro hb
      refine hr _ ⟨rfl, rfl, i + 1, rfl, h, ?_⟩ (by show ((l.length : Int) + 1 - ((i + 1 : Nat) : Int)).toNat < ((l.length : Int) + 1 - (i : Int)).toNat; omega)
      rw [take_snoc _ _ h, List.all_append, h4]
      simp [hb]
    rcases Nat.lt_or_ge l[i].toNat 128 with g | g
    · obtain ⟨e1, e2⟩ := rune_low l i h g
      rw [e1, e2]
      unfold runeS
      rw [enc_low _ g, token_is [l[i]] (by simp), bindO_some, tokB_one, List.all_nil, Bool.and_true]
      by_cases hc : l[i] = 58
      · have hb : idB l[i] = true := by unfold idB; rw [decide_eq_true hc, Bool.or_true]
        rw [if_neg (by rw [hc]; decide), next hb]
      · have hn : ¬ ((l[i].toNat : Int) = 58) := fun he => hc (by
          have : l[i].toNat = (58 : UInt8).toNat := by have : (58 : UInt8).toNat = 58 := rfl; omega
          exact UInt8.toNat_inj.1 this)
        rw [if_pos hn]
        cases ht : X.isTchar l[i] with
        | true =>
          rw [show notB true = false from rfl, ifO_false, next (by unfold idB; rw [ht]; rfl)]
        | false =>
          rw [show notB false = true from rfl, ifO_true, hbad (by unfold idB; rw [ht, decide_eq_false hc]; rfl)]
    · have e1 := rune_high l i h g
      rw [if_pos (by omega)]
      unfold runeS
      obtain ⟨c, t, e2, e3, e4⟩ := enc_high _ e1
      rw [e2, token_is (c :: t) (by rw [List.length_cons]; omega), bindO_some, tokB_one, tch_high c e3, Bool.false_and, show notB false = true from rfl, ifO_true, hbad]
      unfold idB
      rw [tch_high _ g, Bool.false_or, decide_eq_false_iff_not]
      intro he
      rw [he] at g
      exact absurd g (by decide)
  · rw [if_neg h]
    rw [List.take_of_length_le (by omega)] at h4
    unfold idM
    rw [h4, Bool.and_true, B_nil, B_eq]
    simp [notB]
theorem r18id (l : Bs) (hl : l.length ≤ 1000000) (k : Nat) (hk : l.length + 1 < k) (hk' : 20 ≤ k) : ref18_Id.f k (B l) = some (idM l) := by
  unfold ref18_Id.f ref18_Id.l0
  refine iter_eq (f := ref18_Id.l0b k) (fun v => v.1 = B l ∧ ∃ i : Nat, v.2 = (i : Int) ∧ i ≤ l.length ∧ (l.take i).all idB = true) (fun v => (l.length + 1 - v.2).toNat) (fun _ => some (idM l)) ?_ k _ ⟨rfl, 0, rfl, Nat.zero_le _, rfl⟩ (by show ((l.length : Int) + 1 - 0).toNat < k; omega)
  rintro r ⟨s, i'⟩ ⟨h1, i, h3, hi, h4⟩ hr
  simp only at h1 h3
  subst h1; subst h3
  unfold ref18_Id.l0b ref18_Id.j2
  simp only [B_len, ltI_nat, inB_nat, ifO_dec, neI_dec]
  by_cases h : i < l.length
  · rw [if_pos h, if_pos h, B_at h, r1tchar _ k hk', bindO_some, if_pos h, next64 (by omega)]
    have hbad : idB l[i] = false → idM l = false := by
      intro hb
      unfold idM
      cases ha : l.all idB with
      | false => rw [Bool.and_false]
      | true => rw [List.all_eq_true.1 ha _ (List.getElem_mem h)] at hb; cases hb
    have next : idB l[i] = true → r (B l, ((i + 1 : Nat) : Int)) = some (idM l) := by
      intro hb
      refine hr _ ⟨rfl, i + 1, rfl, h, ?_⟩ (by show ((l.length : Int) + 1 - ((i + 1 : Nat) : Int)).toNat < ((l.length : Int) + 1 - (i : Int)).toNat; omega)
      rw [take_snoc _ _ h, List.all_append, h4]
      simp [hb]
    cases ht : X.isTchar l[i] with
    | true => rw [show notB true = false from rfl, ifO_false, next (by unfold idB; rw [ht]; rfl)]
    | false =>
      rw [show notB false = true from rfl, ifO_true]
      by_cases hc : l[i] = 58
      · rw [if_neg (by rw [hc]; decide), next (by unfold idB; rw [decide_eq_true hc, Bool.or_true])]
      · have hn : ¬ ((l[i].toNat : Int) = 58) := fun he => hc (by
          have : l[i].toNat = (58 : UInt8).toNat := by have : (58 : UInt8).toNat = 58 := rfl; omega
          exact UInt8.toNat_inj.1 this)
        rw [if_pos hn, hbad (by unfold idB; rw [ht, decide_eq_false hc]; rfl)]
  · rw [if_neg h]
    rw [List.take_of_length_le (by omega)] at h4
    unfold idM
    rw [h4, Bool.and_true, B_nil, B_eq]
    simp [notB]
/-! ### parts between semicolons -/
theorem endAt_end {l : Bs} {j : Nat} (h : l.length ≤ j) : endAt l j = l.length := by unfold endAt; rw [if_neg (by omega)]
theorem endAt_quote {l : Bs} {j : Nat} (h : j < l.length) (hc : l[j] = 34) : endAt l j = j := by
  unfold endAt
  rw [if_pos h, qe_quote h (by rw [getD_at h, hc]; rfl)]; rfl
theorem endAt_esc {l : Bs} {j : Nat} (h : j < l.length) (hc : l[j] = 92) : endAt l j = endAt l (j + 2) := by
  unfold endAt
  rw [if_pos h, qe_esc h (by rw [getD_at h, hc]; rfl)]
  by_cases h1 : j + 1 < l.length
  · rw [if_pos h1]
    by_cases h2 : j + 2 < l.length
    · rw [if_pos h2]; omega
    · rw [if_neg h2, qe_end (by omega)]; omega
  · rw [if_neg h1, if_neg (by omega)]; omega
theorem ne_toNat {c d : UInt8} (h : ¬ c = d) : ¬ c.toNat = d.toNat := fun he => h (UInt8.toNat_inj.1 he)
theorem endAt_more {l : Bs} {j : Nat} (h : j < l.length) (hc : ¬ l[j] = 92) (hd : ¬ l[j] = 34) : endAt l j = endAt l (j + 1) := by
  unfold endAt
  rw [if_pos h, qe_more h (by rw [getD_at h]; exact ne_toNat (d := 92) hc) (by rw [getD_at h]; exact ne_toNat (d := 34) hd)]
  by_cases h2 : j + 1 < l.length
  · rw [if_pos h2]; omega
  · rw [if_neg h2, qe_end (by omega)]; omega
def PP (l : Bs) (fr i : Nat) (acc : List ByteArray) : List ByteArray :=
  if h : i < l.length then
    if l[i] = 59 then PP l (i + 1) (i + 1) (acc ++ [B (strip ((l.take i).drop fr))])
    else if l[i] = 34 then PP l fr (endAt l (i + 1) + 1) acc
    else PP l fr (i + 1) acc
  else acc ++ [B (strip (l.drop fr))]
termination_by l.length - i
decreasing_by
  all_goals first
    | omega
    | (have := endAt_bd l (i + 1) h; omega)
theorem PP_end (l : Bs) (fr i : Nat) (acc : List ByteArray) (h : l.length ≤ i) : PP l fr i acc = acc ++ [B (strip (l.drop fr))] := by
  unfold PP; rw [dif_neg (by omega)]
theorem PP_step (l : Bs) (fr i : Nat) (acc : List ByteArray) (h : i < l.length) : PP l fr i acc = if l[i] = 59 then PP l (i + 1) (i + 1) (acc ++ [B (strip ((l.take i).drop fr))]) else if l[i] = 34 then PP l fr (endAt l (i + 1) + 1) acc else PP l fr (i + 1) acc := by
  conv => lhs; unfold PP
  rw [dif_pos h]
theorem PP_facts (l : Bs) (n0 : Nat) : ∀ (n fr i : Nat) (acc : List ByteArray), l.length - i ≤ n → l.length ≤ n0 → (∀ x ∈ acc, x.size ≤ n0) → PP l fr i acc ≠ [] ∧ (PP l fr i acc).length ≤ acc.length + (l.length - i) + 1 ∧ ∀ x ∈ PP l fr i acc, x.size ≤ n0 := by
  have base : ∀ (fr i : Nat) (acc : List ByteArray), l.length ≤ n0 → (∀ x ∈ acc, x.size ≤ n0) → l.length ≤ i → PP l fr i acc ≠ [] ∧ (PP l fr i acc).length ≤ acc.length + (l.length - i) + 1 ∧ ∀ x ∈ PP l fr i acc, x.size ≤ n0 := by
    intro fr i acc h1 h2 h3
    rw [PP_end _ _ _ _ h3]
    refine ⟨by simp, by simp, fun x hx => ?_⟩
    rcases List.mem_append.1 hx with hx | hx
    · exact h2 x hx
    · rw [List.mem_singleton.1 hx, B_size]
      have := strip_le (l.drop fr)
      rw [List.length_drop] at this
      omega
  intro n
  induction n with
  | zero => intro fr i acc h1 h2 h3; exact base fr i acc h2 h3 (by omega)
  | succ n ih =>
    intro fr i acc h1 h2 h3
    by_cases h : i < l.length
    · rw [PP_step _ _ _ _ h]
      split
      · obtain ⟨a1, a2, a3⟩ := ih (i + 1) (i + 1) (acc ++ [B (strip ((l.take i).drop fr))]) (by omega) h2 (fun x hx => by
          rcases List.mem_append.1 hx with hx | hx
          · exact h3 x hx
          · rw [List.mem_singleton.1 hx, B_size]
            have := strip_le ((l.take i).drop fr)
            rw [List.length_drop, List.length_take] at this
            omega)
        refine ⟨a1, ?_, a3⟩
        rw [List.length_append] at a2
        simp at a2
        omega
      · split
        · have := endAt_bd l (i + 1) h
          obtain ⟨a1, a2, a3⟩ := ih fr (endAt l (i + 1) + 1) acc (by omega) h2 h3
          exact ⟨a1, by omega, a3⟩
        · obtain ⟨a1, a2, a3⟩ := ih fr (i + 1) acc (by omega) h2 h3
          exact ⟨a1, by omega, a3⟩
    · exact base fr i acc h2 h3 (by omega)
theorem parts_l3 (l : Bs) (hl : l.length ≤ 100000) (fr i : Nat) (out : List ByteArray) (K : Nat) (hK : 100010 ≤ K) (r0 : _) (hr : ∀ i' : Nat, i < i' → i' ≤ l.length + 2 → r0 (B l, (out, ((fr : Int), (i' : Int)))) = some (PP l fr i' out)) (hi : i < l.length) :
    hops_parts.l3 K r0 (B l, (out, ((fr : Int), ((i + 1 : Nat) : Int)))) = some (PP l fr (endAt l (i + 1) + 1) out) := by
  unfold hops_parts.l3
  have H := iter_eq (f := hops_parts.l3b K r0) (fun v => v.1 = B l ∧ v.2.1 = out ∧ v.2.2.1 = (fr : Int) ∧ ∃ j : Nat, v.2.2.2 = (j : Int) ∧ i < j ∧ j ≤ l.length + 1) (fun v => (l.length + 2 - v.2.2.2).toNat) (fun v => some (PP l fr (endAt l v.2.2.2.toNat + 1) out)) ?_ K (B l, (out, ((fr : Int), ((i + 1 : Nat) : Int)))) ⟨rfl, rfl, rfl, i + 1, rfl, by omega, by omega⟩ (by show ((l.length : Int) + 2 - ((i + 1 : Nat) : Int)).toNat < K; omega)
  · rw [H]; simp only [Int.toNat_natCast]
  rintro r ⟨s, o, f', j'⟩ ⟨h1, h2, h3, j, h4, hij, hj⟩ hrr
  simp only at h1 h2 h3 h4
  subst h1; subst h2; subst h3; subst h4
  unfold hops_parts.l3b hops_parts.j4 hops_parts.j2
  simp only [B_len, ltI_nat, inB_nat, ifO_dec, Int.toNat_natCast]
  have pend : ∀ a b : Nat, l.length ≤ a → l.length ≤ b → PP l fr a o = PP l fr b o := fun a b ha hb => by rw [PP_end _ _ _ _ ha, PP_end _ _ _ _ hb]
  by_cases h : j < l.length
  · rw [if_pos h, if_pos h, B_at h, show neI (l[j].toNat : Int) 34 = decide (¬ l[j] = 34) from ne_byte _ 34, show eqI (l[j].toNat : Int) 92 = decide (l[j] = 92) from eq_byte _ 92, ifO_dec, ifO_dec, next64 (by omega), next64 (by omega)]
    by_cases c34 : l[j] = 34
    · rw [if_neg (fun hh => hh c34), endAt_quote h c34]
      exact hr _ (by omega) (by omega)
    · rw [if_pos c34, if_pos h]
      by_cases c92 : l[j] = 92
      · rw [if_pos c92, endAt_esc h c92, hrr _ ⟨rfl, rfl, rfl, j + 1 + 1, rfl, by omega, by omega⟩ (by show ((l.length : Int) + 2 - ((j + 1 + 1 : Nat) : Int)).toNat < ((l.length : Int) + 2 - (j : Int)).toNat; omega)]
        simp only [Int.toNat_natCast]
      · rw [if_neg c92, endAt_more h c92 c34, hrr _ ⟨rfl, rfl, rfl, j + 1, rfl, by omega, by omega⟩ (by show ((l.length : Int) + 2 - ((j + 1 : Nat) : Int)).toNat < ((l.length : Int) + 2 - (j : Int)).toNat; omega)]
        simp only [Int.toNat_natCast]
  · rw [if_neg h, next64 (by omega), hr _ (by omega) (by omega), endAt_end (by omega)]
    exact congrArg some (pend _ _ (by omega) (by omega))
theorem parts_is (l : Bs) (hl : l.length ≤ 100000) (k : Nat) (hk : 100010 ≤ k) : hops_parts.f k (B l) = some (PP l 0 0 []) := by
  unfold hops_parts.f hops_parts.l0
  have H := iter_eq (f := hops_parts.l0b k) (fun v => v.1 = B l ∧ ∃ fr i : Nat, v.2.2.1 = (fr : Int) ∧ v.2.2.2 = (i : Int) ∧ fr ≤ i ∧ fr ≤ l.length ∧ i ≤ l.length + 2 ∧ v.2.1.length ≤ i) (fun v => (l.length + 3 - v.2.2.2).toNat) (fun v => some (PP l v.2.2.1.toNat v.2.2.2.toNat v.2.1)) ?_ k (B l, (([] : List ByteArray), ((0 : Int), (0 : Int)))) ⟨rfl, 0, 0, rfl, rfl, Nat.le_refl _, Nat.zero_le _, Nat.zero_le _, Nat.zero_le _⟩ (by show ((l.length : Int) + 3 - 0).toNat < k; omega)
  · exact H
  rintro r ⟨s, out, f', i'⟩ ⟨h1, fr, i, h2, h3, hfi, hfl, hi, ho⟩ hr
  simp only at h1 h2 h3 ho
  subst h1; subst h2; subst h3
  unfold hops_parts.l0b
  simp only [B_len, ltI_nat, inB_nat, ifO_dec, Int.toNat_natCast]
  by_cases h : i < l.length
  · rw [if_pos h, if_pos h, B_at h, show eqI (l[i].toNat : Int) 59 = decide (l[i] = 59) from eq_byte _ 59, show eqI (l[i].toNat : Int) 34 = decide (l[i] = 34) from eq_byte _ 34, ifO_dec, ifO_dec, PP_step _ _ _ _ h, next64 (by omega)]
    by_cases c59 : l[i] = 59
    · rw [if_pos c59, if_pos c59, boundB_yes (by omega), boundB_yes hfi, show andB true true = true from rfl, ifO_true, B_cut, trim_is _ (by rw [List.length_drop, List.length_take]; omega), bindO_some, lenL_nat, show ∀ x : ByteArray, lenL ([x] : List ByteArray) = ((1 : Nat) : Int) from fun _ => rfl, fitsL_yes (by omega) (by omega), ifO_true]
      unfold hops_parts.j2
      simp only
      rw [next64 (by omega), hr _ ⟨rfl, i + 1, i + 1, rfl, rfl, Nat.le_refl _, h, by omega, by simp [catL]; omega⟩ (by show ((l.length : Int) + 3 - ((i + 1 : Nat) : Int)).toNat < ((l.length : Int) + 3 - (i : Int)).toNat; omega)]
      simp only [Int.toNat_natCast]
      rfl
    rw [if_neg c59, if_neg c59]
    by_cases c34 : l[i] = 34
    · rw [if_pos c34, if_pos c34]
      refine parts_l3 l hl fr i out k hk r (fun i2 h4 h5 => ?_) h
      rw [hr _ ⟨rfl, fr, i2, rfl, rfl, by omega, hfl, h5, by show out.length ≤ i2; omega⟩ (by show ((l.length : Int) + 3 - (i2 : Int)).toNat < ((l.length : Int) + 3 - (i : Int)).toNat; omega)]
      simp only [Int.toNat_natCast]
    · rw [if_neg c34, if_neg c34]
      unfold hops_parts.j2
      simp only
      rw [next64 (by omega), hr _ ⟨rfl, fr, i + 1, rfl, rfl, by omega, hfl, by omega, by show out.length ≤ i + 1; omega⟩ (by show ((l.length : Int) + 3 - ((i + 1 : Nat) : Int)).toNat < ((l.length : Int) + 3 - (i : Int)).toNat; omega)]
      simp only [Int.toNat_natCast]
  · rw [if_neg h, PP_end _ _ _ _ (by omega), boundB_yes (Nat.le_refl _), boundB_yes hfl, show andB true true = true from rfl, ifO_true, B_cut, List.take_of_length_le (Nat.le_refl _), trim_is _ (by rw [List.length_drop]; omega), bindO_some, lenL_nat, show ∀ x : ByteArray, lenL ([x] : List ByteArray) = ((1 : Nat) : Int) from fun _ => rfl, fitsL_yes (by omega) (by omega), ifO_true]
    rfl
def rspec (l : Bs) (v : Tup [.str, (.sl 9 .str), (.int .i64), .bool, (.int .i64)]) : List ByteArray :=
  if v.2.2.2.2.toNat ≤ l.length then (if v.2.2.2.1 = true then PP l v.2.2.1.toNat (endAt l v.2.2.2.2.toNat + 1) v.2.1 else PP l v.2.2.1.toNat v.2.2.2.2.toNat v.2.1) else v.2.1
theorem r18parts (l : Bs) (hl : l.length ≤ 100000) (k : Nat) (hk : 100010 ≤ k) : ref18_parts.f k (B l) = some (PP l 0 0 []) := by
  unfold ref18_parts.f ref18_parts.l0
  have H := iter_eq (f := ref18_parts.l0b k) (fun v => v.1 = B l ∧ ∃ fr i : Nat, v.2.2.1 = (fr : Int) ∧ v.2.2.2.2 = (i : Int) ∧ fr ≤ i ∧ (i ≤ l.length → fr ≤ l.length) ∧ i ≤ l.length + 1 ∧ v.2.1.length ≤ i) (fun v => (l.length + 2 - v.2.2.2.2).toNat) (fun v => some (rspec l v)) ?_ k (B l, (([] : List ByteArray), ((0 : Int), (false, (0 : Int))))) ⟨rfl, 0, 0, rfl, rfl, Nat.le_refl _, fun _ => Nat.zero_le _, Nat.zero_le _, Nat.zero_le _⟩ (by show ((l.length : Int) + 2 - 0).toNat < k; omega)
  · rw [H]
    exact congrArg some ((if_pos (Nat.zero_le _)).trans rfl)
  rintro r ⟨s, out, f', q, i'⟩ ⟨h1, fr, i, h2, h3, hfi, hfl, hi, ho⟩ hr
  simp only at h1 h2 h3 ho
  subst h1; subst h2; subst h3
  -- what follows a push at the end
  have push : ∀ (q : Bool) (x : Nat), i ≤ l.length → fr ≤ l.length → x = l.length → ref18_parts.j3 k r (B l, (out, ((fr : Int), (q, ((x : Nat) : Int))))) = some (out ++ [B (strip (l.drop fr))]) := by
    intro q x hil hf hx
    subst hx
    unfold ref18_parts.j3 ref18_parts.j5 ref18_parts.j2
    simp only [B_len, leI_nat, ifO_dec]
    rw [if_pos (Nat.le_refl _), show minI (l.length : Int) (l.length : Int) = (l.length : Int) by rw [minI_eq]; omega, boundB_yes (Nat.le_refl _), boundB_yes hf, show andB true true = true from rfl, ifO_true, B_cut, List.take_of_length_le (Nat.le_refl _), r1trim _ (by rw [List.length_drop]; omega) k (by rw [List.length_drop]; omega), bindO_some, lenL_nat, show ∀ x : ByteArray, lenL ([x] : List ByteArray) = ((1 : Nat) : Int) from fun _ => rfl, fitsL_yes (by omega) (by omega), ifO_true, next64 (by omega)]
    have hle := hfi
    rw [hr _ ⟨rfl, l.length + 1, l.length + 1, rfl, rfl, Nat.le_refl _, fun hh => absurd hh (by omega), Nat.le_refl _, by show (out ++ [_]).length ≤ _; rw [List.length_append]; show out.length + 1 ≤ _; omega⟩ (by
      show ((l.length : Int) + 2 - ((l.length + 1 : Nat) : Int)).toNat < ((l.length : Int) + 2 - (i : Int)).toNat
      omega)]
    unfold rspec
    simp only [Int.toNat_natCast]
    rw [if_neg (by omega)]
    rfl
  have step : ∀ (q : Bool) (j : Nat), i ≤ j → j + 1 ≤ l.length → fr ≤ l.length → ref18_parts.j2 k r (B l, (out, ((fr : Int), (q, (j : Int))))) = some (if q = true then PP l fr (endAt l (j + 1) + 1) out else PP l fr (j + 1) out) := by
    intro q j hij hj hf
    unfold ref18_parts.j2
    simp only
    rw [next64 (by omega), hr _ ⟨rfl, fr, j + 1, rfl, rfl, by omega, fun _ => hf, by omega, by show out.length ≤ j + 1; omega⟩ (by show ((l.length : Int) + 2 - ((j + 1 : Nat) : Int)).toNat < ((l.length : Int) + 2 - (i : Int)).toNat; omega)]
    unfold rspec
    simp only [Int.toNat_natCast]
    rw [if_pos hj]
  unfold ref18_parts.l0b
  simp only [B_len, leI_nat, ltI_nat, inB_nat, ifO_dec]
  by_cases hle : i ≤ l.length
  · have hf := hfl hle
    rw [if_pos hle]
    unfold rspec
    simp only [Int.toNat_natCast]
    rw [if_pos hle]
    by_cases h : i < l.length
    · rw [if_pos h, B_at h]
      cases q with
      | true =>
        have tail : ∀ (q' : Bool) (j : Nat), i ≤ j → j ≤ l.length → ref18_parts.j1 k r (B l, (out, ((fr : Int), (q', (j : Int))))) = some (if j + 1 < l.length then (if q' = true then PP l fr (endAt l (j + 1) + 1) out else PP l fr (j + 1) out) else out ++ [B (strip (l.drop fr))]) := by
          intro q' j hij hj
          unfold ref18_parts.j1
          simp only [B_len]
          rw [sub64 (by omega) (by omega), ltD, ifO_dec]
          by_cases hlt : j + 1 < l.length
          · rw [if_pos (by omega), if_pos hlt, step q' j hij (by omega) hf]
          · rw [if_neg (by omega), if_neg hlt, push q' _ hle hf rfl]
        rw [ifO_true, if_pos h, show eqI (l[i].toNat : Int) 92 = decide (l[i] = 92) from eq_byte _ 92, show eqI (l[i].toNat : Int) 34 = decide (l[i] = 34) from eq_byte _ 34, ifO_dec, ifO_dec, if_pos rfl, next64 (by omega)]
        by_cases c92 : l[i] = 92
        · rw [if_pos c92, tail true (i + 1) (by omega) (by omega), if_pos rfl, endAt_esc h c92]
          by_cases hlt : i + 1 + 1 < l.length
          · rw [if_pos hlt]
          · rw [if_neg hlt, PP_end]
            rcases Nat.lt_or_ge (i + 2) l.length with g | g
            · omega
            · rw [endAt_end g]; omega
        rw [if_neg c92, if_pos h]
        by_cases c34 : l[i] = 34
        · rw [if_pos c34, tail false i (Nat.le_refl _) hle, endAt_quote h c34]
          simp only [Bool.false_eq_true, if_false]
          by_cases hlt : i + 1 < l.length
          · rw [if_pos hlt]
          · rw [if_neg hlt, PP_end _ _ _ _ (by omega)]
        · rw [if_neg c34, tail true i (Nat.le_refl _) hle, if_pos rfl, endAt_more h c92 c34]
          by_cases hlt : i + 1 < l.length
          · rw [if_pos hlt]
          · rw [if_neg hlt, PP_end _ _ _ _ (by rw [endAt_end (by omega)]; omega)]
      | false =>
        rw [ifO_false, if_neg (by decide)]
        unfold ref18_parts.j3 ref18_parts.j7
        simp only [B_len, leI_nat, inB_nat, ifO_dec]
        rw [if_neg (by omega), if_pos h, B_at h, show eqI (l[i].toNat : Int) 59 = decide (l[i] = 59) from eq_byte _ 59, show eqI (l[i].toNat : Int) 34 = decide (l[i] = 34) from eq_byte _ 34, ifO_dec, PP_step _ _ _ _ h, show minI (i : Int) (l.length : Int) = (i : Int) by rw [minI_eq]; omega]
        by_cases c59 : l[i] = 59
        · rw [if_pos c59, if_pos c59, boundB_yes (by omega), boundB_yes hfi, show andB true true = true from rfl, ifO_true, B_cut, r1trim _ (by rw [List.length_drop, List.length_take]; omega) k (by rw [List.length_drop, List.length_take]; omega), bindO_some, lenL_nat, show ∀ x : ByteArray, lenL ([x] : List ByteArray) = ((1 : Nat) : Int) from fun _ => rfl, fitsL_yes (by omega) (by omega), ifO_true]
          unfold ref18_parts.j2
          simp only
          rw [next64 (by omega), hr _ ⟨rfl, i + 1, i + 1, rfl, rfl, Nat.le_refl _, fun _ => by omega, by omega, by simp [catL]; omega⟩ (by show ((l.length : Int) + 2 - ((i + 1 : Nat) : Int)).toNat < ((l.length : Int) + 2 - (i : Int)).toNat; omega)]
          unfold rspec
          simp only [Int.toNat_natCast]
          rw [if_pos (by omega), if_neg (by decide)]
          rfl
        · rw [if_neg c59, if_neg c59, if_pos h, step _ i (Nat.le_refl _) h hf]
          by_cases c34 : l[i] = 34
          · rw [if_pos c34, decide_eq_true c34, if_pos rfl]
          · rw [if_neg c34, decide_eq_false c34, if_neg (by decide)]
    · obtain rfl : i = l.length := by omega
      rw [if_neg h, push q _ hle hf rfl]
      cases q with
      | true => rw [if_pos rfl, PP_end _ _ _ _ (by rw [endAt_end (Nat.le_refl _)]; omega)]
      | false => rw [if_neg (by decide), PP_end _ _ _ _ (Nat.le_refl _)]
  · rw [if_neg hle]
    unfold rspec
    simp only [Int.toNat_natCast]
    rw [if_neg hle]
end Go.Proofs.YtkjjegjafpefcaaDoor.R
