/- Sizes of chunks as the document reads them. -/
import Derived.Test.YtmmbedlegmbppaaGreatDoorPChk
namespace Go.Proofs.YtmmbedlegmbppaaGreatDoor.R
open Go Go.RowKit
set_option linter.unusedSimpArgs false
set_option linter.unusedVariables false
def hexI (c : UInt8) : Int := match hexB c with
  | some d => (d : Int)
  | none => -1
theorem r7digit_all : ∀ n : Fin 256, ref07_digit.f 20 (n.val : Int) = some (hexI (UInt8.ofNat n.val)) := by decide +kernel
theorem r7digit (c : UInt8) (k : Nat) (hk : 20 ≤ k) : ref07_digit.f k (c.toNat : Int) = some (hexI c) := by
  have h := r7digit_all ⟨c.toNat, c.toNat_lt⟩
  simp only [UInt8.ofNat_toNat] at h
  refine iter_up (f := ref07_digit.l0b k) ?_ 20 k _ _ h hk
  intro r r' v x hr
  unfold ref07_digit.l0b ref07_digit.j1
  unfold ifO
  repeat' split
  all_goals first | exact id | exact hr _ _
theorem hexB_lt {c : UInt8} {d : Nat} (h : hexB c = some d) : d < 16 := by
  unfold hexB at h
  split at h
  · obtain rfl := Option.some.inj h; omega
  · split at h
    · obtain rfl := Option.some.inj h; omega
    · split at h
      · obtain rfl := Option.some.inj h; omega
      · cases h
theorem tw_eq {p : UInt8 → Bool} {l : Bs} {i : Nat} (hi : i ≤ l.length) (h : (l.take i).all p = true) (hs : ∀ hi : i < l.length, p l[i] = false) : l.takeWhile p = l.take i ∧ l.dropWhile p = l.drop i := by
  have e : l = l.take i ++ l.drop i := (List.take_append_drop i l).symm
  have hall : ∀ x ∈ l.take i, p x = true := List.all_eq_true.1 h
  have h2 : (l.drop i).takeWhile p = [] ∧ (l.drop i).dropWhile p = l.drop i := by
    by_cases hl : i < l.length
    · rw [List.drop_eq_getElem_cons hl, List.takeWhile_cons, List.dropWhile_cons, hs hl]
      exact ⟨rfl, rfl⟩
    · rw [List.drop_eq_nil_of_le (by omega)]; exact ⟨rfl, rfl⟩
  constructor
  · conv => lhs; rw [e]
    rw [List.takeWhile_append_of_pos hall, h2.1, List.append_nil]
  · conv => lhs; rw [e]
    rw [List.dropWhile_append_of_pos hall, h2.2]
/-- After the digits and the blanks: nothing, or a ';' and text. -/
def tailM (v : Int) (z : Bool) (r : Bs) : Int × Bool := match r with
  | [] => (v, z)
  | c :: m => if c = 59 then (v, txtB (strip m)) else (v, false)
theorem r7blank (K : Nat) (l : Bs) (v : Int) (i : Int) (z : Bool) (hz : eqI i (lenS (B l)) = z) : ∀ (n : Nat) (r : Bs), r.length < n → r.length ≤ 100000 → 100010 ≤ K → iter (ref07_size.l4b K) n (B l, v, i, B r) = some (tailM v z (r.dropWhile blankB)) := by
  intro n
  induction n with
  | zero => intro r h; omega
  | succ n ih =>
    intro r hn hr hK
    show ref07_size.l4b K (iter (ref07_size.l4b K) n) _ = _
    generalize hq : iter (ref07_size.l4b K) n = q
    unfold ref07_size.l4b ref07_size.j5
    simp only
    rw [show (⟨#[]⟩ : ByteArray) = B [] from rfl, B_eq, hz]
    cases r with
    | nil => rfl
    | cons c m =>
      simp only [List.length_cons] at hn hr
      have h0 : inB 0 (lenS (B (c :: m))) = true := by rw [B_len]; exact inB_yes (i := 0) (by simp)
      have hb : btI (B (c :: m)) 0 = (c.toNat : Int) := rfl
      have e32 : eqI (c.toNat : Int) 32 = decide (c = 32) := eq_byte c 32
      have e9 : eqI (c.toNat : Int) 9 = decide (c = 9) := eq_byte c 9
      have e59 : eqI (c.toNat : Int) 59 = decide (c = 59) := eq_byte c 59
      have hcut : cutS (B (c :: m)) 1 (lenS (B (c :: m))) = B m := cut_head c m
      have hbd : andB (boundB (lenS (B (c :: m))) (lenS (B (c :: m)))) (boundB 1 (lenS (B (c :: m)))) = true := by
        rw [B_len, boundB_yes (Nat.le_refl _), show boundB 1 ((c :: m).length : Int) = true from boundB_yes (i := 1) (by simp)]; rfl
      simp only [decide_eq_false (show ¬ (c :: m) = [] by simp), h0, hb, hcut, hbd, e32, e9, e59, ifO_true, ifO_false, show notB false = true from rfl]
      have hbk : blankB c = (decide (c = 32) || decide (c = 9)) := by
        have := byte_all (fun c => blankB c == (decide (c = 32) || decide (c = 9))) (by decide +kernel) c
        exact eq_of_beq this
      have hgo : q (B l, v, i, B m) = some (tailM v z (m.dropWhile blankB)) := by
        subst hq
        exact ih m (by omega) (by omega) hK
      by_cases h32 : c = 32
      · rw [decide_eq_true h32, ifO_true, hgo, List.dropWhile_cons, hbk, decide_eq_true h32]; rfl
      · rw [decide_eq_false h32, ifO_false]
        by_cases h9 : c = 9
        · rw [decide_eq_true h9, ifO_true, hgo, List.dropWhile_cons, hbk, decide_eq_true h9, Bool.or_true]; rfl
        · rw [decide_eq_false h9, ifO_false, List.dropWhile_cons, hbk, decide_eq_false h9, decide_eq_false h32]
          show _ = some (if c = 59 then (v, txtB (strip m)) else (v, false))
          have hsl := strip_le m
          by_cases h59 : c = 59
          · rw [decide_eq_true h59, ifO_true, if_pos h59, r1trim m (by omega) K (by omega), bindO_some, r1text _ (by omega) K (by omega), bindO_some]
          · rw [decide_eq_false h59, ifO_false, if_neg h59]
def sizeN (l : Bs) : Nat := if 1 ≤ (l.takeWhile hexC).length ∧ (l.takeWhile hexC).length ≤ 8 then (hexL 0 (l.takeWhile hexC)).getD 0 else 0
theorem r7j3 (l : Bs) (hl : l.length ≤ 100000) (k : Nat) (hk : 100010 ≤ k) (i n : Nat) (hi : i ≤ l.length) (h : (l.take i).all hexC = true) (hs : ∀ hi : i < l.length, hexC l[i] = false) (hn : i ≤ 8 → hexL 0 (l.take i) = some n) :
    ref07_size.j3 k (B l, (n : Int), (i : Int)) = some (sizeR (sizeN l) l) := by
  obtain ⟨e1, e2⟩ := tw_eq hi h hs
  have hti : (l.take i).length = i := by rw [List.length_take]; omega
  unfold ref07_size.j3
  simp only
  rw [show ltI (i : Int) 1 = decide (i < 1) from ltI_nat i 1, show ltI 8 (i : Int) = decide (8 < i) from ltI_nat 8 i, ifO_dec, ifO_dec]
  unfold sizeR sizeM sizeN
  rw [e1, e2, hti]
  by_cases h1 : i < 1
  · rw [if_pos h1, if_neg (show ¬(1 ≤ i ∧ i ≤ 8) by omega), if_neg (show ¬(1 ≤ i ∧ i ≤ 8) by omega)]; rfl
  rw [if_neg h1]
  by_cases h8 : 8 < i
  · rw [if_pos h8, if_neg (show ¬(1 ≤ i ∧ i ≤ 8) by omega), if_neg (show ¬(1 ≤ i ∧ i ≤ 8) by omega)]; rfl
  have hn := hn (by omega)
  rw [if_neg h8, if_pos (show 1 ≤ i ∧ i ≤ 8 by omega), if_pos (show 1 ≤ i ∧ i ≤ 8 by omega), hn, B_len, boundB_yes (Nat.le_refl _), boundB_yes hi, show andB true true = true from rfl, ifO_true, B_cut, List.take_length]
  have hz : eqI (i : Int) (lenS (B l)) = decide (l.drop i = []) := by
    rw [B_len, eqI_dec]
    refine decide_eq_decide.2 ⟨fun h => List.drop_eq_nil_of_le (by omega), fun h => ?_⟩
    have := congrArg List.length h
    rw [List.length_drop] at this
    simp only [List.length_nil] at this
    omega
  have hdl : (l.drop i).length ≤ l.length := by rw [List.length_drop]; omega
  unfold ref07_size.l4
  rw [r7blank k l (n : Int) (i : Int) _ hz k (l.drop i) (by omega) (by omega) hk]
  by_cases hr : l.drop i = []
  · rw [if_pos hr, hr]; rfl
  · rw [if_neg hr, decide_eq_false hr]
    unfold tailM
    cases (l.drop i).dropWhile blankB with
    | nil => rfl
    | cons c m =>
      dsimp only
      by_cases hc : c = 59
      · rw [if_pos hc]
        cases htx : txtB (strip m) with
        | true => rw [if_pos (show c = 59 ∧ true = true from ⟨hc, rfl⟩)]
        | false => rw [if_neg (show ¬(c = 59 ∧ false = true) by simp)]; rfl
      · rw [if_neg hc, if_neg (fun h => hc h.1)]; rfl
theorem hexL_lt8 (l : Bs) (n : Nat) (h : hexL 0 l = some n) (hl : l.length ≤ 8) : n < 4294967296 := hexL_lt l 0 n 0 h (by decide) (by omega)
theorem r7size (l : Bs) (hl : l.length ≤ 100000) (k : Nat) (hk : 100010 ≤ k) : ref07_size.f k (B l) = some (sizeR (sizeN l) l) := by
  unfold ref07_size.f ref07_size.l0
  refine iter_eq (f := ref07_size.l0b k) (fun v => v.1 = B l ∧ ∃ n i : Nat, v.2.1 = (n : Int) ∧ v.2.2 = (i : Int) ∧ i ≤ l.length ∧ (l.take i).all hexC = true ∧ n ≤ 1099511627776 ∧ (i ≤ 8 → hexL 0 (l.take i) = some n)) (fun v => (l.length + 1 - v.2.2).toNat) (fun _ => some (sizeR (sizeN l) l)) ?_ k _ ⟨rfl, 0, 0, rfl, rfl, Nat.zero_le _, rfl, by omega, fun _ => rfl⟩ (by show ((l.length : Int) + 1 - 0).toNat < k; omega)
  rintro r ⟨s, n', i'⟩ ⟨h1, n, i, h2, h3, hi, h7, hn, hx⟩ hr
  simp only at h1 h2 h3
  subst h1; subst h2; subst h3
  unfold ref07_size.l0b
  simp only [B_len, ltI_nat, inB_nat, ifO_dec]
  by_cases h : i < l.length
  · rw [if_pos h, if_pos h, if_pos h, B_at h, r7digit _ k (by omega), bindO_some, bindO_some]
    unfold hexI
    cases hc : hexB l[i] with
    | none =>
      dsimp only
      rw [show leI 0 (-1) = false from rfl, ifO_false]
      exact r7j3 l hl k hk i n hi h7 (fun _ => by unfold hexC; rw [hc]; rfl) hx
    | some d =>
      dsimp only
      have hd := hexB_lt hc
      rw [show leI 0 (d : Int) = true from (leI_nat 0 d).trans (decide_eq_true (Nat.zero_le _)), ifO_true, mul64 (by omega) (by omega), add64 (by omega) (by omega), next64 (by omega), minI_eq, show min (16 * (n : Int) + (d : Int)) 1099511627776 = ((min (n * 16 + d) 1099511627776 : Nat) : Int) by omega]
      have hta : l.take (i + 1) = l.take i ++ [l[i]] := by rw [List.take_add_one, List.getElem?_eq_getElem h]; rfl
      refine hr _ ⟨rfl, _, i + 1, rfl, rfl, h, ?_, by omega, fun h8 => ?_⟩ (by show ((l.length : Int) + 1 - ((i + 1 : Nat) : Int)).toNat < ((l.length : Int) + 1 - (i : Int)).toNat; omega)
      · rw [hta, List.all_append, h7]
        simp [hexC, hc]
      · have hx := hx (by omega)
        have := hexL_lt8 _ n hx (by rw [List.length_take]; omega)
        rw [hta, hexL_snoc _ 0 n d _ hx hc, show min (n * 16 + d) 1099511627776 = n * 16 + d by omega]
  · rw [if_neg h]
    exact r7j3 l hl k hk i n hi h7 (fun h' => absurd h' h) hx
end Go.Proofs.YtmmbedlegmbppaaGreatDoor.R
