/- The document's hosts and texts by percent are the program's. -/
import Derived.Test.YtmmbedlegmbppaaDoorPNorm
namespace Go.Proofs.YtmmbedlegmbppaaDoor.R
open Go Go.RowKit
set_option linter.unusedSimpArgs false
set_option linter.unusedVariables false
theorem r9letter_all : ∀ n : Fin 256, ref09_letter.f 0 (n.val : Int) = some (alB (UInt8.ofNat n.val)) := by decide +kernel
theorem r9letter (k : Nat) (c : UInt8) : ref09_letter.f k (c.toNat : Int) = some (alB c) := by
  have h := r9letter_all ⟨c.toNat, c.toNat_lt⟩
  rw [UInt8.ofNat_toNat] at h
  exact h
theorem r9plain_all : ∀ n : Fin 256, ref09_plain.f 0 (n.val : Int) = some (plB (UInt8.ofNat n.val)) := by decide +kernel
theorem r9plain (k : Nat) (c : UInt8) : ref09_plain.f k (c.toNat : Int) = some (plB c) := by
  have h := r9plain_all ⟨c.toNat, c.toNat_lt⟩
  rw [UInt8.ofNat_toNat] at h
  exact h
def hexI (c : UInt8) : Int := match hexB c with
  | some x => (x : Int)
  | none => -1
theorem r9hex_all : ∀ n : Fin 256, ref09_hex.f 20 (n.val : Int) = some (hexI (UInt8.ofNat n.val)) := by decide +kernel
theorem r9hex (c : UInt8) (k : Nat) (hk : 20 ≤ k) : ref09_hex.f k (c.toNat : Int) = some (hexI c) := by
  have h := r9hex_all ⟨c.toNat, c.toNat_lt⟩
  rw [UInt8.ofNat_toNat] at h
  refine iter_up (f := ref09_hex.l0b k) ?_ 20 k _ _ h hk
  intro r r' v x hr
  unfold ref09_hex.l0b ref09_hex.j1
  unfold ifO
  repeat' split
  all_goals first | exact id | exact hr _ _
/-! ### hosts -/
theorem hoB_is (k : Nat) (r : ByteArray × Int → Option (ByteArray × Int)) (l : Bs) (i : Nat) (h : i < l.length) : ref09_Host.l0b k r (B l, (i : Int)) = ref09_Host.j2 k r (B l, ((i : Int), hoB l[i])) := by
  unfold ref09_Host.l0b
  simp only []
  rw [B_len, ltI_nat, decide_eq_true h, ifO_true, inB_yes h, ifO_true, B_at h, r9letter, bindO_some]
  unfold hoB
  cases h1 : alB l[i] with
  | true => rw [ifO_true]; rfl
  | false =>
    rw [ifO_false, ifO_true, ifO_true, show eqI (l[i].toNat : Int) 46 = decide (l[i] = 46) from eq_byte _ 46, show eqI (l[i].toNat : Int) 45 = decide (l[i] = 45) from eq_byte _ 45]
    by_cases h2 : l[i] = 46
    · rw [decide_eq_true h2, ifO_true]; rfl
    · rw [decide_eq_false h2, ifO_false]; rfl
theorem hostM_all {a : Bs} (h : a.all hoB = true) : hostM a = if a = [] then none else some (lowL a) := by
  have h58 : ∀ c ∈ a, c ≠ 58 := fun c hc => (hoB_ne (List.all_eq_true.1 h c hc)).1
  have hp : parts58 a = (a, []) := by unfold parts58; rw [cutAt_no 58 _ h58]; rfl
  unfold hostM
  rw [hp]
  dsimp only
  by_cases h0 : a = []
  · rw [if_pos h0, if_neg (fun h => h.1 h0)]
  · rw [if_neg h0, if_pos ⟨h0, h, by rw [count_no h58]; exact Nat.zero_le _, .inl rfl, by simp⟩, if_pos (.inl rfl)]
theorem hostM_bad {a b : Bs} {c : UInt8} (h : a.all hoB = true) (hc : hoB c = false) (h58 : c ≠ 58) : hostM (a ++ c :: b) = none := by
  have ha : ∀ c ∈ a, c ≠ 58 := fun c hc => (hoB_ne (List.all_eq_true.1 h c hc)).1
  unfold hostM
  rw [if_neg]
  rintro ⟨_, h2, _⟩
  have hm : c ∈ (parts58 (a ++ c :: b)).1 := by
    unfold parts58
    cases hcut : cutAt 58 (a ++ c :: b) with
    | none => simp
    | some p =>
      obtain ⟨x, y⟩ := p
      obtain ⟨e1, e2⟩ := cutAt_some hcut
      show c ∈ x
      have hlt : a.length < x.length := by
        rcases Nat.lt_or_ge a.length x.length with h | h
        · exact h
        · have e3 : (a ++ c :: b)[x.length]? = some 58 := by rw [e1]; simp
          rcases Nat.lt_or_eq_of_le h with h | h
          · rw [List.getElem?_append_left h] at e3
            exact absurd rfl (ha 58 (List.mem_of_getElem? e3))
          · rw [h, List.getElem?_append_right (Nat.le_refl _)] at e3
            simp at e3
            exact absurd e3 h58
      have e3 : (a ++ c :: b)[a.length]? = some c := by simp
      rw [e1, List.getElem?_append_left hlt] at e3
      exact List.mem_of_getElem? e3
  have := List.all_eq_true.1 h2 c hm
  rw [hc] at this; cases this
theorem hostM_colon {a b : Bs} (h : a.all hoB = true) : hostM (a ++ 58 :: b) = if a ≠ [] ∧ (b = [] ∨ b.all dg = true) ∧ b.length ≤ 5 then some (if b = [] ∨ b = [56, 48] then lowL a else lowL a ++ 58 :: b) else none := by
  have h58 : ∀ c ∈ a, c ≠ 58 := fun c hc => (hoB_ne (List.all_eq_true.1 h c hc)).1
  have hp : parts58 (a ++ 58 :: b) = (a, b) := by unfold parts58; rw [cutAt_of 58 b _ h58]; rfl
  unfold hostM
  rw [hp]
  dsimp only
  by_cases hc : a ≠ [] ∧ (b = [] ∨ b.all dg = true) ∧ b.length ≤ 5
  · have hb : b.count 58 = 0 := by
      rcases hc.2.1 with rfl | hd
      · rfl
      · exact count_no fun c hc => (dg_ne (List.all_eq_true.1 hd c hc)).1
    rw [if_pos hc, if_pos ⟨hc.1, h, by rw [List.count_append, count_no h58, List.count_cons_self, hb]; decide, hc.2⟩]
  · rw [if_neg hc, if_neg (fun h => hc ⟨h.1, h.2.2.2⟩)]
theorem r9host (l : Bs) (hl : l.length ≤ 1000000) (k : Nat) (hk : l.length + 1 < k) : ref09_Host.f k (B l) = some (hostR l) := by
  unfold ref09_Host.f ref09_Host.l0
  refine iter_eq (f := ref09_Host.l0b k) (fun v => ∃ i : Nat, v = (B l, (i : Int)) ∧ i ≤ l.length ∧ (l.take i).all hoB = true) (fun v => ((l.length : Int) + 1 - v.2).toNat) (fun _ => some (hostR l)) ?_ k _ ⟨0, rfl, Nat.zero_le _, rfl⟩ (by show ((l.length : Int) + 1 - 0).toNat < k; omega)
  rintro r _ ⟨i, rfl, hi, ha⟩ hr
  have stop : (h : ∀ h : i < l.length, hoB l[i] = false) → ref09_Host.j2 k r (B l, ((i : Int), false)) = some (hostR l) := by
    intro hstop
    unfold ref09_Host.j2
    simp only []
    have ht : (l.take i).length = i := by rw [List.length_take]; omega
    rw [ifO_false, B_len, boundB_yes hi, show boundB 0 (i : Int) = true from boundB_yes (i := 0) (Nat.zero_le _), show andB true true = true from rfl, ifO_true]
    rw [show cutS (B l) 0 (i : Int) = B ((l.take i).drop 0) from B_cut l 0 i, List.drop_zero, r1lower _ (by omega) k (by omega), bindO_some]
    rw [show eqI (i : Int) 0 = decide (i = 0) from by rw [eqI_dec]; exact decide_eq_decide.2 (by omega), show eqI (i : Int) (l.length : Int) = decide (i = l.length) from by rw [eqI_dec]; exact decide_eq_decide.2 (by omega)]
    by_cases h0 : i = 0
    · rw [decide_eq_true h0, ifO_true]
      subst h0
      have : hostM l = none := by
        cases l with
        | nil => rfl
        | cons c b =>
          have hc : hoB c = false := hstop (by simp)
          by_cases h58 : c = 58
          · subst h58
            have := hostM_colon (a := []) (b := b) rfl
            rw [if_neg (fun h => h.1 rfl)] at this
            exact this
          · exact hostM_bad (a := []) (b := b) rfl hc h58
      unfold hostR
      rw [this]; rfl
    rw [decide_eq_false h0, ifO_false]
    by_cases h1 : i = l.length
    · rw [decide_eq_true h1, ifO_true]
      rw [List.take_of_length_le (by omega)] at ha ⊢
      unfold hostR
      rw [hostM_all ha, if_neg (by intro h; rw [h] at h1; exact h0 h1)]
    · have hlt : i < l.length := by omega
      have hc := hstop hlt
      have hspl : l = l.take i ++ l[i] :: l.drop (i + 1) := by rw [← List.drop_eq_getElem_cons hlt, List.take_append_drop]
      have hne : l.take i ≠ [] := by intro h; rw [h] at ht; exact h0 ht.symm
      rw [decide_eq_false h1, ifO_false, boundB_yes (Nat.le_refl _), next64 (by omega), boundB_yes (by omega), show andB true true = true from rfl, ifO_true, B_cut, List.take_length]
      rw [r1digits _ (by rw [List.length_drop]; omega) k (by rw [List.length_drop]; omega), bindO_some, inB_yes hlt, ifO_true, B_at hlt, show neI (l[i].toNat : Int) 58 = decide (¬ l[i] = 58) from ne_byte _ 58]
      generalize l.drop (i + 1) = b at *
      generalize l.take i = a at *
      generalize l[i] = c at *
      have hbl : b.length ≤ 1000000 := by rw [hspl] at hl; simp at hl; omega
      have hal : a.length ≤ 1000000 := by rw [hspl] at hl; simp at hl; omega
      have hll : (lowL a).length = a.length := by simp [lowL]
      have bad : ∀ x y : ByteArray, ref09_Host.j5 k (x, (y, true)) = some (B [], 2) := fun _ _ => rfl
      unfold hostR
      rw [hspl]
      by_cases h58 : c = 58
      · subst h58
        rw [decide_eq_false (by simp), ifO_false, hostM_colon ha, show (⟨#[]⟩ : ByteArray) = B [] from rfl, B_eq, bad]
        have last : ref09_Host.j5 k (B (lowL a), (B b, ltI 5 (lenS (B b)))) = some (if b.length ≤ 5 then (B (if b = [] ∨ b = [56, 48] then lowL a else lowL a ++ 58 :: b), 0) else (B [], 2)) := by
          rw [B_len, show ltI 5 (b.length : Int) = decide (5 < b.length) from ltI_nat 5 _]
          by_cases h : 5 < b.length
          · rw [decide_eq_true h, if_neg (by omega), bad]
          · rw [decide_eq_false h, if_pos (by omega)]
            unfold ref09_Host.j5
            simp only []
            rw [ifO_false, show (⟨#[]⟩ : ByteArray) = B [] from rfl, show (⟨#[56, 48]⟩ : ByteArray) = B [56, 48] from rfl, show (⟨#[58]⟩ : ByteArray) = B [58] from rfl]
            simp only [B_eq, B_cat, B_fits]
            by_cases g1 : b = []
            · rw [decide_eq_true g1, ifO_true, if_pos (.inl g1)]
            rw [decide_eq_false g1, ifO_false]
            by_cases g2 : b = [56, 48]
            · rw [decide_eq_true g2, ifO_true, if_pos (.inr g2)]
            rw [decide_eq_false g2, ifO_false, if_neg (by simp [g1, g2]), ifO_yes (by simp; omega), ifO_yes (by simp; omega)]
            simp
        rw [last]
        by_cases g1 : b = []
        · rw [decide_eq_true g1, ifO_no (show notB true = false from rfl)]
          subst g1
          have hc : a ≠ [] ∧ (([] : Bs) = [] ∨ ([] : Bs).all dg = true) ∧ ([] : Bs).length ≤ 5 := ⟨hne, .inl rfl, by simp⟩
          rw [if_pos (show ([] : Bs).length ≤ 5 by simp), if_pos hc]
        · rw [decide_eq_false g1, ifO_yes (show notB false = true from rfl)]
          have hv : (digV b).2 = b.all dg := by
            unfold digV
            rw [if_neg g1]
            split
            · rename_i h; rw [h]
            · rename_i h; rw [eq_false_of_ne_true h]
          rw [hv]
          cases g2 : b.all dg with
          | false => rw [ifO_yes (show notB false = true from rfl), if_neg (by simp [g1])]
          | true =>
            rw [ifO_no (show notB true = false from rfl)]
            by_cases g3 : b.length ≤ 5
            · have hc : a ≠ [] ∧ (b = [] ∨ true = true) ∧ b.length ≤ 5 := ⟨hne, .inr rfl, g3⟩
              rw [if_pos g3, if_pos hc]
            · rw [if_neg g3, if_neg (fun h => g3 h.2.2)]
      · rw [decide_eq_true h58, ifO_true, bad, hostM_bad ha hc h58]
  by_cases h : i < l.length
  · show ref09_Host.l0b k r (B l, (i : Int)) = _
    rw [hoB_is k r l i h]
    cases hc : hoB l[i] with
    | false => exact stop fun _ => hc
    | true =>
      unfold ref09_Host.j2
      simp only []
      rw [ifO_true, next64 (by omega)]
      refine hr _ ⟨i + 1, rfl, h, ?_⟩ (by show ((l.length : Int) + 1 - ((i + 1 : Nat) : Int)).toNat < ((l.length : Int) + 1 - (i : Int)).toNat; omega)
      rw [List.take_add_one, List.getElem?_eq_getElem h, List.all_append, ha]
      simp [hc]
  · show ref09_Host.l0b k r (B l, (i : Int)) = _
    unfold ref09_Host.l0b
    simp only []
    rw [B_len, ltI_nat, decide_eq_false h, ifO_false]
    exact stop fun hh => absurd hh h
/-! ### texts by percent -/
theorem pctS_cons (c : UInt8) (l : Bs) (out : List Int) (hok : okC c = true) (h37 : c ≠ 37) : pctS (B (c :: l), out) = pctS (B l, out ++ [(c.toNat : Int)]) := by
  unfold pctS
  simp only [B_data]
  rw [pctM_eq, if_pos hok, if_neg h37]
  cases pctM l with
  | none => rfl
  | some p => simp [numL]
theorem pctS_three (a b : UInt8) (l : Bs) (out : List Int) : pctS (B (37 :: a :: b :: l), out) = (match hexB a, hexB b with
    | some x, some y => pctS (B l, out ++ numL (tell (UInt8.ofNat (16 * x + y))))
    | _, _ => some (B [], 2)) := by
  unfold pctS
  simp only [B_data]
  rw [pctM_three]
  cases hexB a with
  | none => rfl
  | some x =>
    cases hexB b with
    | none => rfl
    | some y =>
      dsimp only
      cases pctM l with
      | none => rfl
      | some p =>
        dsimp only [Option.map_some]
        simp [numL]
theorem hexU_all : ∀ n : Fin 16, inB (n.val : Int) (lenS hexLit) = true ∧ btI hexLit (n.val : Int) = ((hexU n.val).toNat : Int) := by decide +kernel
theorem r9pct_round (k : Nat) (hk : 20 ≤ k) (r : ByteArray × List Int × Int → Option (ByteArray × Int)) (l : Bs) (out : List Int) (i : Nat) (hi : i ≤ l.length) (ho : out.length + (l.length - i) ≤ 1000000) (hl : l.length ≤ 1000000)
    (hr : ∀ (i' : Nat) (out' : List Int), i < i' → i' ≤ l.length → out'.length + (l.length - i') ≤ 1000000 → r (B l, (out', (i' : Int))) = pctS (B (l.drop i'), out')) : ref09_Percent.l0b k r (B l, (out, (i : Int))) = pctS (B (l.drop i), out) := by
  unfold ref09_Percent.l0b
  simp only []
  rw [B_len, ltI_nat]
  by_cases h : i < l.length
  · rw [decide_eq_true h, ifO_true, inB_yes h, ifO_true, B_at h]
    have hd : l.drop i = l[i] :: l.drop (i + 1) := List.drop_eq_getElem_cons h
    rw [hd]
    obtain ⟨c, hc⟩ : ∃ c, l[i] = c := ⟨_, rfl⟩
    rw [hc] at hd ⊢
    have bad : ref09_Percent.j1 k r (B l, (out, ((i : Int), ((c.toNat : Int), true)))) = some (B [], 2) := rfl
    have h3 : ∀ x, ref09_Percent.j1 k r (B l, (out, ((i : Int), ((c.toNat : Int), !okC c)))) = x → ifO (ltI (c.toNat : Int) 33) (ref09_Percent.j1 k r (B l, (out, ((i : Int), ((c.toNat : Int), true))))) (ifO (ltI 126 (c.toNat : Int)) (ref09_Percent.j1 k r (B l, (out, ((i : Int), ((c.toNat : Int), true))))) (ref09_Percent.j1 k r (B l, (out, ((i : Int), ((c.toNat : Int), eqI (c.toNat : Int) 35)))))) = x := by
      intro x hx
      rw [show ltI (c.toNat : Int) 33 = decide (c.toNat < 33) from ltI_nat _ 33, show ltI 126 (c.toNat : Int) = decide (126 < c.toNat) from ltI_nat 126 _, show eqI (c.toNat : Int) 35 = decide (c = 35) from eq_byte c 35]
      unfold okC at hx
      by_cases a1 : c.toNat < 33
      · rw [decide_eq_true a1, ifO_true]
        rw [decide_eq_false (show ¬ 33 ≤ c.toNat by omega)] at hx
        exact hx
      rw [decide_eq_false a1, ifO_false]
      rw [decide_eq_true (show 33 ≤ c.toNat by omega)] at hx
      by_cases a2 : 126 < c.toNat
      · rw [decide_eq_true a2, ifO_true]
        rw [decide_eq_false (show ¬ c.toNat ≤ 126 by omega)] at hx
        exact hx
      rw [decide_eq_false a2, ifO_false]
      rw [decide_eq_true (show c.toNat ≤ 126 by omega)] at hx
      by_cases a3 : c = 35
      · rw [decide_eq_true a3]
        rw [decide_eq_false (show ¬ c ≠ 35 by simp [a3])] at hx
        exact hx
      · rw [decide_eq_false a3]
        rw [decide_eq_true (show c ≠ 35 from a3)] at hx
        exact hx
    refine h3 _ ?_
    cases hok : okC c with
    | false =>
      rw [show (!false) = true from rfl, bad]
      unfold pctS
      rw [B_data]
      unfold pctM
      rw [hok]
      rfl
    | true =>
      have hfit : ∀ m : List Int, m.length ≤ 3 → fitsL (lenL out) (lenL m) 1 = true := fun m hm => by
        rw [lenL_nat, lenL_nat]
        exact fitsL_yes (by omega) (by omega)
      have j2 : ∀ (o : List Int) (j : Nat), i ≤ j → j < l.length → o.length + (l.length - (j + 1)) ≤ 1000000 → ref09_Percent.j2 k r (B l, (o, (j : Int))) = pctS (B (l.drop (j + 1)), o) := fun o j h1 h2 h3 => by
        unfold ref09_Percent.j2
        simp only []
        rw [next64 (by omega)]
        exact hr (j + 1) o (by omega) (by omega) h3
      unfold ref09_Percent.j1
      simp only []
      rw [show (!true) = false from rfl, ifO_false, show neI (c.toNat : Int) 37 = decide (¬ c = 37) from ne_byte c 37]
      by_cases h37 : c = 37
      · subst h37
        rw [decide_eq_false (by simp), ifO_false]
        have e1 : addI .i64 (i : Int) 1 = ((i + 1 : Nat) : Int) := next64 (by omega)
        have e2 : addI .i64 (i : Int) 2 = ((i + 2 : Nat) : Int) := by rw [add64 (by omega) (by omega)]; rfl
        rw [e1, e2, B_len, leI_nat]
        have bad3 : ref09_Percent.j3 k r (B l, (out, ((i : Int), true))) = some (B [], 2) := rfl
        by_cases hs : l.length ≤ i + 2
        · rw [decide_eq_true hs, ifO_true, bad3]
          have hlen : (l.drop (i + 1)).length ≤ 1 := by rw [List.length_drop]; omega
          unfold pctS
          rw [B_data]
          match l.drop (i + 1), hlen with
          | [], _ => rfl
          | [a], _ => rfl
        · rw [decide_eq_false hs, ifO_false, inB_yes (by omega), ifO_true, B_at (show i + 1 < l.length by omega), r9hex _ k hk, bindO_some, inB_yes (by omega), ifO_true, B_at (show i + 2 < l.length by omega), r9hex _ k hk]
          have hd2 : l.drop (i + 1) = l[i + 1]'(by omega) :: l[i + 2]'(by omega) :: l.drop (i + 3) := by
            rw [List.drop_eq_getElem_cons (show i + 1 < l.length by omega), List.drop_eq_getElem_cons (show i + 1 + 1 < l.length by omega)]
          rw [hd2, pctS_three]
          obtain ⟨a, hae⟩ : ∃ a, l[i + 1]'(by omega) = a := ⟨_, rfl⟩
          obtain ⟨b, hbe⟩ : ∃ b, l[i + 2]'(by omega) = b := ⟨_, rfl⟩
          rw [hae, hbe]
          unfold hexI
          cases ha : hexB a with
          | none =>
            dsimp only
            rw [show ltI (-1) 0 = true from rfl, ifO_true, bad3]
          | some x =>
            dsimp only
            rw [show ltI (x : Int) 0 = false from by unfold ltI; simp, ifO_false, bindO_some]
            cases hb : hexB b with
            | none =>
              dsimp only
              rw [show ltI (-1) 0 = true from rfl, bad3]
            | some y =>
              dsimp only
              have hx := hexB_lt ha
              have hy := hexB_lt hb
              obtain ⟨n, hn⟩ : ∃ n : UInt8, UInt8.ofNat (16 * x + y) = n := ⟨_, rfl⟩
              have hnn : n.toNat = 16 * x + y := by rw [← hn]; simp; omega
              rw [show ltI (y : Int) 0 = false from by unfold ltI; simp]
              unfold ref09_Percent.j3
              simp only []
              rw [ifO_false, e1, e2, B_len, inB_yes (by omega), ifO_true, B_at (show i + 1 < l.length by omega), r9hex _ k hk, bindO_some, inB_yes (by omega), ifO_true, B_at (show i + 2 < l.length by omega), r9hex _ k hk, bindO_some, hae, hbe]
              unfold hexI
              rw [ha, hb]
              dsimp only
              rw [mul64 (by omega) (by omega), add64 (by omega) (by omega), show (16 * (x : Int) + (y : Int)) = (n.toNat : Int) by rw [hnn]; omega, conv8, r9plain, bindO_some, hn]
              have j7 : ∀ o : List Int, o.length ≤ out.length + 3 → ref09_Percent.j7 k r (B l, (o, (i : Int))) = pctS (B (l.drop (i + 3)), o) := fun o ho' => by
                unfold ref09_Percent.j7
                simp only []
                rw [e2]
                exact j2 o (i + 2) (by omega) (by omega) (by omega)
              cases hp : plB n with
              | true =>
                have ht : tell n = [n] := by unfold tell; rw [hp]; rfl
                rw [ifO_true, hfit _ (by simp), ifO_true, ht]
                exact j7 _ (by simp [catL])
              | false =>
                have ht : tell n = [37, hexU (n.toNat / 16), hexU (n.toNat % 16)] := by unfold tell; rw [hp]; rfl
                obtain ⟨q1, q2⟩ := hexU_all ⟨x, hx⟩
                obtain ⟨q3, q4⟩ := hexU_all ⟨y, hy⟩
                have hx' : n.toNat / 16 = x := by omega
                have hy' : n.toNat % 16 = y := by omega
                unfold hexLit at q1 q2 q3 q4
                dsimp only at q1 q2 q3 q4
                rw [ifO_false, q1, ifO_true, q3, ifO_true, q2, q4, hfit _ (by simp), ifO_true, ht, hx', hy']
                exact j7 _ (by simp [catL])
      · rw [decide_eq_true h37, ifO_true, hfit _ (by simp), ifO_true, pctS_cons c _ out hok h37]
        exact j2 _ i (Nat.le_refl _) h (by simp [catL]; omega)
  · rw [decide_eq_false h, ifO_false, List.drop_of_length_le (by omega)]
    show _ = some (ofBytes (out ++ []), 0)
    rw [List.append_nil]
theorem r9pct (l : Bs) (hl : l.length ≤ 1000000) (k : Nat) (hk : l.length + 20 < k) : ref09_Percent.f k (B l) = some (pctR l) := by
  have h := iter_eq (f := ref09_Percent.l0b k) (fun v => ∃ (i : Nat) (out : List Int), v = (B l, (out, (i : Int))) ∧ i ≤ l.length ∧ out.length + (l.length - i) ≤ 1000000) (fun v => ((l.length : Int) + 1 - v.2.2).toNat) (fun v => pctS (B (l.drop v.2.2.toNat), v.2.1)) (fun r v hv hr => by
    obtain ⟨i, out, rfl, hi, ho⟩ := hv
    refine (r9pct_round k (by omega) r l out i hi ho hl fun i' out' h1 h2 h3 => ?_).trans (by dsimp only; rw [Int.toNat_natCast])
    have := hr (B l, (out', (i' : Int))) ⟨i', out', rfl, h2, h3⟩ (by show ((l.length : Int) + 1 - (i' : Int)).toNat < ((l.length : Int) + 1 - (i : Int)).toNat; omega)
    rw [this]
    dsimp only
    rw [Int.toNat_natCast]) k (B l, ([], 0)) ⟨0, [], rfl, Nat.zero_le _, by simpa using hl⟩ (by show ((l.length : Int) + 1 - 0).toNat < k; omega)
  unfold ref09_Percent.f ref09_Percent.l0
  rw [h]
  unfold pctS pctR
  simp only [B_data, Int.toNat_zero, List.drop_zero]
  cases pctM l with
  | none => rfl
  | some p => simp only [List.nil_append]; rw [B_ofBytes]
end Go.Proofs.YtmmbedlegmbppaaDoor.R
