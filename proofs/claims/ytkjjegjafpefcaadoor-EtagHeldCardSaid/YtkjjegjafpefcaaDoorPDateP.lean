/- Dates: what the program's functions tell, by the model of the three forms. -/
import Derived.Test.YtkjjegjafpefcaaDoorKM
import Derived.Test.YtkjjegjafpefcaaDoorFD
import Derived.Test.YtkjjegjafpefcaaDoorPBase
namespace Go.Proofs.YtkjjegjafpefcaaDoor.R
open Go Go.RowKit
open Go.Proofs.YtkjjegjafpefcaaDoor.Pure (Lp Lg Cm Ah Dn Ok3 Lp_iff Lg_bd Cm_bd Ah_bd Dn_nonneg Ouc Ouc.bind Ouc.false_ Ouc.none_ Ouc.pure_ hp hp_iff pw dig val val_snoc val_bd pn take_snoc_ nm nm_len pmf pm pc Day p1 p2 p3r p3 wdn wdn_len wname suc sl found)
set_option linter.unusedSimpArgs false
set_option linter.unusedVariables false
theorem dleap (y : Int) (h : 0 ≤ y) (k : Nat) : date_leap.f k y = some (Lp y) := by
  unfold date_leap.f remI Lp
  rw [Int.tmod_eq_emod_of_nonneg h, Int.tmod_eq_emod_of_nonneg h, Int.tmod_eq_emod_of_nonneg h]
  simp only [eqI_dec, neI_dec, ifO_dec]
  rw [if_pos (show (4 : Int) ≠ 0 by decide), if_pos (show (100 : Int) ≠ 0 by decide), if_pos (show (400 : Int) ≠ 0 by decide)]
  by_cases h4 : y % 4 = 0
  · rw [if_pos h4]
    by_cases h1 : y % 100 = 0
    · rw [if_neg (by omega)]
      by_cases h2 : y % 400 = 0
      · rw [decide_eq_true h2, decide_eq_true (by omega)]
      · rw [decide_eq_false h2, decide_eq_false (by omega)]
    · rw [if_pos h1, decide_eq_true (by omega)]
  · rw [if_neg h4, decide_eq_false (by omega)]
theorem dlong (y m : Int) (h : 0 ≤ y) (k : Nat) : date_long.f k (y, m) = some (Lg y m) := by
  unfold date_long.f Lg
  dsimp only
  rw [dleap y h k]
  simp only [eqI_dec, ifO_dec, bindO_some, date_long.j1, date_long.j3, date_long.j2, ifO_true]
  by_cases h2 : m = 2
  · rw [if_pos h2, if_pos h2, if_pos h2]
    cases Lp y <;> rfl
  · rw [if_neg h2, if_neg h2, if_neg h2]
    by_cases a : m = 4
    · rw [if_pos a, if_pos (by omega)]
    by_cases b : m = 6
    · rw [if_neg a, if_pos b, if_pos (by omega)]
    by_cases c : m = 9
    · rw [if_neg a, if_neg b, if_pos c, if_pos (by omega)]
    by_cases d : m = 11
    · rw [if_neg a, if_neg b, if_neg c, if_pos d, if_pos (by omega)]
    · rw [if_neg a, if_neg b, if_neg c, if_neg d, if_neg (by omega)]
theorem dahead (y : Int) (h : 1 ≤ y) (h' : y ≤ 1000000000000) (k : Nat) : date_ahead.f k y = some (Ah y) := by
  unfold date_ahead.f Ah quoI
  rw [show neI 4 0 = true from rfl, show neI 100 0 = true from rfl, show neI 400 0 = true from rfl, ifO_true, ifO_true, ifO_true, sub64 (x := y) (y := 1) (by omega) (by omega), mul64 (x := 365) (y := y) (by omega) (by omega), Int.tdiv_eq_ediv_of_nonneg (by omega), Int.tdiv_eq_ediv_of_nonneg (by omega), Int.tdiv_eq_ediv_of_nonneg (by omega)]
  rw [w64 (x := (y - 1) / 4) (by omega) (by omega), w64 (x := (y - 1) / 100) (by omega) (by omega), w64 (x := (y - 1) / 400) (by omega) (by omega), add64 (x := 365 * y) (by omega) (by omega), sub64 (by omega) (by omega), add64 (by omega) (by omega)]
theorem ddays3 (y m : Int) (hy : 0 ≤ y) (d : Int) (M : Nat) (hm : m = (M : Int) + 1) (K : Nat) : ∀ (e j k : Nat) (x : Int), j + e = M → e + 1 ≤ k → M ≤ 12 → 0 ≤ x → x + 31 * e ≤ 1000000000000 →
    iter (date_Days.l3b K) k (y, (m, (x, (j : Int) + 1))) = some (x + (Cm y M - Cm y j), 0) := by
  intro e
  induction e with
  | zero =>
    intro j k x hj hk hM hx hb
    obtain ⟨k, rfl⟩ : ∃ n, k = n + 1 := ⟨k - 1, by omega⟩
    show date_Days.l3b K (iter (date_Days.l3b K) k) _ = _
    generalize iter (date_Days.l3b K) k = r
    unfold date_Days.l3b
    dsimp only
    obtain rfl : j = M := by omega
    rw [ltD, ifO_dec, if_neg (by omega), Int.sub_self, Int.add_zero]
  | succ e ih =>
    intro j k x hj hk hM hx hb
    obtain ⟨k, rfl⟩ : ∃ n, k = n + 1 := ⟨k - 1, by omega⟩
    have hL := Lg_bd y (j + 1)
    have := ih (j + 1) k (x + Lg y (j + 1)) (by omega) (by omega) hM (by omega) (by push_cast at hb; omega)
    show date_Days.l3b K (iter (date_Days.l3b K) k) _ = _
    generalize iter (date_Days.l3b K) k = r at *
    unfold date_Days.l3b
    dsimp only
    rw [ltD, ifO_dec, if_pos (by omega), dlong y _ hy, bindO_some, add64 (by omega) (by omega), add64 (x := (j : Int) + 1) (y := 1) (by omega) (by omega)]
    rw [show (((j + 1 : Nat) : Int) + 1) = (j : Int) + 1 + 1 from by push_cast; rfl] at this
    rw [this]
    simp only [Cm]
    congr 2; omega
theorem ddays_no (y m d : Int) (h : ¬ Ok3 y m d) (k : Nat) : date_Days.f k (y, (m, d)) = some (0, 1) := by
  have J : date_Days.j0 k (y, (m, (d, true))) = some (0, 1) := rfl
  unfold date_Days.f
  simp only [ltD, ifO_dec]
  by_cases a : y < 1970
  · rw [if_pos a, J]
  by_cases b : 9999 < y
  · rw [if_neg a, if_pos b, J]
  by_cases c : m < 1
  · rw [if_neg a, if_neg b, if_pos c, J]
  by_cases e : 12 < m
  · rw [if_neg a, if_neg b, if_neg c, if_pos e, J]
  by_cases f : d < 1
  · rw [if_neg a, if_neg b, if_neg c, if_neg e, if_pos f, J]
  rw [if_neg a, if_neg b, if_neg c, if_neg e, if_neg f, dlong y m (by omega), bindO_some]
  have : Lg y m < d := by unfold Ok3 at h; omega
  rw [decide_eq_true this, J]
theorem ddays_yes (y m d : Int) (h : Ok3 y m d) (k : Nat) (hk : 20 ≤ k) : date_Days.f k (y, (m, d)) = some (Dn y m d, 0) := by
  obtain ⟨h1, h2, h3, h4, h5, h6⟩ := h
  have hL := Lg_bd y m
  have hA := Ah_bd y h1 (by omega)
  unfold date_Days.f
  simp only [ltD, ifO_dec]
  rw [if_neg (by omega), if_neg (by omega), if_neg (by omega), if_neg (by omega), if_neg (by omega), dlong y m (by omega), bindO_some]
  rw [decide_eq_false (show ¬ Lg y m < d by omega)]
  unfold date_Days.j0 date_Days.l3
  dsimp only
  rw [ifO_false, dahead y (by omega) (by omega), dahead 1970 (by decide) (by decide), bindO_some, bindO_some, sub64 (x := Ah y) (by omega) (by omega), add64 (x := Ah y - Ah 1970) (by omega) (by omega), sub64 (x := Ah y - Ah 1970 + d) (by omega) (by omega)]
  have := ddays3 y m (by omega) d (m - 1).toNat (by omega) k (m - 1).toNat 0 k (Ah y - Ah 1970 + d - 1) (by omega) (by omega) (by omega) (by omega) (by omega)
  rw [show (((0 : Nat) : Int) + 1) = 1 from rfl] at this
  rw [this]
  unfold Dn
  simp only [Cm]
  congr 2; omega
theorem dwd (n : Int) (h : 0 ≤ n) (k : Nat) : date_Weekday.f k n = some ((n % 7 + 4) % 7) := by
  unfold date_Weekday.f remI
  simp only [ltD, neI_dec, ifO_dec]
  rw [if_neg (by omega), if_pos (by decide), if_pos (by decide), Int.tmod_eq_emod_of_nonneg h, add64 (by omega) (by omega), Int.tmod_eq_emod_of_nonneg (by omega)]
theorem hprefix_is (l p : Bs) (hl : l.length ≤ 1000000) (k : Nat) : strings_HasPrefix.f k (B l, B p) = some (hp l p) := by
  unfold strings_HasPrefix.f internal_stringslite_HasPrefix.f hp
  dsimp only
  rw [B_len, B_len, leI_nat, ifO_dec]
  by_cases h : p.length ≤ l.length
  · rw [if_pos h, boundB_yes h, show boundB 0 (p.length : Int) = true from boundB_yes (i := 0) (Nat.zero_le _), show andB true true = true from rfl, ifO_true, show (0 : Int) = ((0 : Nat) : Int) from rfl, B_cut, B_eq, bindO_some]
    rfl
  · rw [if_neg h, bindO_some]
    have : ¬ l.take p.length = p := fun e => h (by rw [← e, List.length_take]; omega)
    rw [decide_eq_false this]
theorem word_out (l : Bs) (hl : l.length ≤ 1000000) (o : Bool) (p : Bs) (k : Nat) : ∃ (l' : Bs) (o' : Bool), __date_scan__word.f k ((B l, o), B p) = some (B l', o') ∧ Ouc o (pw p l) () l' o' ∧ l'.length ≤ l.length := by
  unfold __date_scan__word.f pw
  dsimp only
  rw [prefix_is _ _ hl, bindO_some]
  by_cases h : hp l p = true
  · have h' : p = l.take p.length := (of_decide_eq_true h).symm
    rw [if_pos h', if_pos h]
    cases o
    · exact ⟨l.drop p.length, false, rfl, by unfold Ouc; simp, by simp⟩
    · exact ⟨l.drop p.length, true, rfl, by unfold Ouc; simp, by simp⟩
  · have h' : ¬ p = l.take p.length := fun e => h (decide_eq_true e.symm)
    rw [if_neg h', if_neg h]
    cases o
    · exact ⟨l, true, rfl, by unfold Ouc; simp, Nat.le_refl _⟩
    · exact ⟨l, true, rfl, by unfold Ouc; simp, Nat.le_refl _⟩
theorem num_step (x : Int) (c : UInt8) (hx : 0 ≤ x) (hx' : x ≤ 100000) (hd : dig c = true) : addI .i64 (mulI .i64 10 x) (convI .i64 (subI .u8 (c.toNat : Int) 48)) = 10 * x + ((c.toNat : Int) - 48) := by
  simp [dig] at hd
  have h1 : subI .u8 (c.toNat : Int) 48 = (c.toNat : Int) - 48 := by
    show (((c.toNat : Int) - 48) % 256) = _
    exact Int.emod_eq_of_lt (by omega) (by omega)
  rw [h1, mul64 (by omega) (by omega), show convI .i64 ((c.toNat : Int) - 48) = (c.toNat : Int) - 48 from w64 (by omega) (by omega), add64 (by omega) (by omega)]
theorem number_l0 (l : Bs) (hl0 : l.length ≤ 1000000) (o : Bool) (many : Nat) (most : Int) (hm : many ≤ 4) (K : Nat) : ∀ (d i k : Nat), i + d = many → d + 1 ≤ k → i ≤ l.length → (l.take i).all dig = true →
    ∃ (v : Int) (l' : Bs) (o' : Bool), iter (__date_scan__number.l0b K) k ((many : Int), (most, (val (l.take i), ((many : Int), ((i : Int), (B l, o)))))) = some ((B l', o'), v) ∧ Ouc o (pn many most l) v l' o' ∧ (0 ≤ v ∧ v < 10000) ∧ l'.length ≤ l.length := by
  intro d
  induction d with
  | zero =>
    intro i k hi hk hl ha
    obtain ⟨k, rfl⟩ : ∃ n, k = n + 1 := ⟨k - 1, by omega⟩
    obtain rfl : i = many := by omega
    show ∃ (v : Int) (l' : Bs) (o' : Bool), __date_scan__number.l0b K (iter (__date_scan__number.l0b K) k) _ = _ ∧ _
    generalize iter (__date_scan__number.l0b K) k = r
    have hb := val_bd _ ha
    have hp4 : (10 : Int) ^ (l.take i).length ≤ 10000 := by
      rw [List.length_take, Nat.min_eq_left hl]
      have : i = 0 ∨ i = 1 ∨ i = 2 ∨ i = 3 ∨ i = 4 := by omega
      rcases this with rfl | rfl | rfl | rfl | rfl <;> decide
    unfold __date_scan__number.l0b
    dsimp only
    rw [ltI_nat, decide_eq_false (by omega), ifO_false, B_len, boundB_yes (Nat.le_refl _), boundB_yes hl, show andB true true = true from rfl, ifO_true, B_cut, List.take_length]
    unfold pn
    cases o
    · rw [ifO_false]
      by_cases hv : val (l.take i) ≤ most
      · rw [if_pos ⟨hl, ha, hv⟩, show ltI most (val (l.take i)) = false from decide_eq_false (by omega)]
        exact ⟨_, _, _, rfl, by unfold Ouc; simp, ⟨hb.1, by omega⟩, by simp⟩
      · rw [if_neg (fun h => hv h.2.2), show ltI most (val (l.take i)) = true from decide_eq_true (by omega)]
        exact ⟨_, _, _, rfl, by unfold Ouc; simp, ⟨hb.1, by omega⟩, by simp⟩
    · rw [ifO_true]
      exact ⟨_, _, _, rfl, by unfold Ouc; simp, ⟨hb.1, by omega⟩, by simp⟩
  | succ d ih =>
    intro i k hi hk hl ha
    obtain ⟨k, rfl⟩ : ∃ n, k = n + 1 := ⟨k - 1, by omega⟩
    have ih' := fun h1 h2 => ih (i + 1) k (by omega) (by omega) h1 h2
    show ∃ (v : Int) (l' : Bs) (o' : Bool), __date_scan__number.l0b K (iter (__date_scan__number.l0b K) k) _ = _ ∧ _
    generalize iter (__date_scan__number.l0b K) k = r at *
    unfold __date_scan__number.l0b
    dsimp only
    rw [ltI_nat, decide_eq_true (by omega), ifO_true, B_len, leI_nat, ifO_dec]
    have bad : pn many most l = none → ∃ (v : Int) (l' : Bs) (o' : Bool), __date_scan__number.j1 K r ((many : Int), (most, (val (l.take i), ((i : Int), ((many : Int), ((i : Int), (true, (B l, o)))))))) = some ((B l', o'), v) ∧ Ouc o (pn many most l) v l' o' ∧ (0 ≤ v ∧ v < 10000) ∧ l'.length ≤ l.length := by
      intro hn
      exact ⟨0, l, true, rfl, by rw [hn]; unfold Ouc; simp, ⟨by decide, by decide⟩, Nat.le_refl _⟩
    by_cases hlt : i < l.length
    · rw [if_neg (by omega), inB_yes hlt, ifO_true, B_at hlt, show ltI (l[i].toNat : Int) 48 = decide (l[i].toNat < 48) from ltI_nat _ 48, ifO_dec, ifO_true, show ltI 57 (l[i].toNat : Int) = decide (57 < l[i].toNat) from ltI_nat 57 _]
      by_cases hd : dig l[i] = true
      · have hd' := hd
        simp [dig] at hd'
        rw [if_neg (by omega), decide_eq_false (by omega)]
        have hb := val_bd _ ha
        have hp4 : (10 : Int) ^ (l.take i).length ≤ 10000 := by
          rw [List.length_take, Nat.min_eq_left hl]
          have : i = 0 ∨ i = 1 ∨ i = 2 ∨ i = 3 ∨ i = 4 := by omega
          rcases this with rfl | rfl | rfl | rfl | rfl <;> decide
        unfold __date_scan__number.j1
        dsimp only
        rw [ifO_false, B_len, inB_yes hlt, ifO_true, B_at hlt, num_step _ _ hb.1 (by omega) hd, ← val_snoc, ← take_snoc_ l i hlt, next64 (by omega)]
        exact ih' hlt (by rw [take_snoc_ l i hlt, List.all_append, ha]; simpa using hd)
      · have hn : pn many most l = none := by
          unfold pn
          rw [if_neg]
          rintro ⟨h1, h2, _⟩
          rw [List.all_eq_true] at h2
          exact hd (h2 _ (by rw [List.mem_take_iff_getElem]; exact ⟨i, by omega, rfl⟩))
        have hd' : l[i].toNat < 48 ∨ 57 < l[i].toNat := by
          simp [dig] at hd; omega
        rcases hd' with g | g
        · rw [if_pos g]; exact bad hn
        · rw [if_neg (by omega), decide_eq_true g]; exact bad hn
    · rw [if_pos (by omega)]
      exact bad (by unfold pn; rw [if_neg]; rintro ⟨h1, _⟩; omega)
theorem number_out (l : Bs) (hl : l.length ≤ 1000000) (o : Bool) (many : Nat) (M most : Int) (hM : M = many) (hm : many ≤ 4) (k : Nat) (hk : 5 ≤ k) :
    ∃ (v : Int) (l' : Bs) (o' : Bool), __date_scan__number.f k ((B l, o), (M, most)) = some ((B l', o'), v) ∧ Ouc o (pn many most l) v l' o' ∧ (0 ≤ v ∧ v < 10000) ∧ l'.length ≤ l.length := by
  subst hM
  have := number_l0 l hl o many most hm k many 0 k (by omega) (by omega) (by omega) rfl
  unfold __date_scan__number.f __date_scan__number.l0
  simpa [val] using this
theorem arr_nm : ∀ j : Nat, j < 12 → elT .str ((⟨#[74, 97, 110]⟩ : ByteArray) :: (⟨#[70, 101, 98]⟩ : ByteArray) :: (⟨#[77, 97, 114]⟩ : ByteArray) :: (⟨#[65, 112, 114]⟩ : ByteArray) :: (⟨#[77, 97, 121]⟩ : ByteArray) :: (⟨#[74, 117, 110]⟩ : ByteArray) :: (⟨#[74, 117, 108]⟩ : ByteArray) :: (⟨#[65, 117, 103]⟩ : ByteArray) :: (⟨#[83, 101, 112]⟩ : ByteArray) :: (⟨#[79, 99, 116]⟩ : ByteArray) :: (⟨#[78, 111, 118]⟩ : ByteArray) :: (⟨#[68, 101, 99]⟩ : ByteArray) :: []) (j : Int) = B (nm j) := by
  intro j hj
  have : j = 0 ∨ j = 1 ∨ j = 2 ∨ j = 3 ∨ j = 4 ∨ j = 5 ∨ j = 6 ∨ j = 7 ∨ j = 8 ∨ j = 9 ∨ j = 10 ∨ j = 11 := by omega
  rcases this with rfl | rfl | rfl | rfl | rfl | rfl | rfl | rfl | rfl | rfl | rfl | rfl <;> rfl
theorem month_l1 (l : Bs) (hl : l.length ≤ 1000000) (o : Bool) (K : Nat) : ∀ (d j k : Nat), j + d = 12 → d + 1 ≤ k →
    ∃ (v : Int) (l' : Bs) (o' : Bool), iter (__date_scan__month.l1b K) k ((⟨#[74, 97, 110]⟩ : ByteArray), ((⟨#[70, 101, 98]⟩ : ByteArray), ((⟨#[77, 97, 114]⟩ : ByteArray), ((⟨#[65, 112, 114]⟩ : ByteArray), ((⟨#[77, 97, 121]⟩ : ByteArray), ((⟨#[74, 117, 110]⟩ : ByteArray), ((⟨#[74, 117, 108]⟩ : ByteArray), ((⟨#[65, 117, 103]⟩ : ByteArray), ((⟨#[83, 101, 112]⟩ : ByteArray), ((⟨#[79, 99, 116]⟩ : ByteArray), ((⟨#[78, 111, 118]⟩ : ByteArray), ((⟨#[68, 101, 99]⟩ : ByteArray), ((j : Int), (B l, o)))))))))))))) = some ((B l', o'), v) ∧ Ouc o (pmf l d j) v l' o' ∧ (0 ≤ v ∧ v ≤ 12) ∧ l'.length ≤ l.length := by
  intro d
  induction d with
  | zero =>
    intro j k hj hk
    obtain ⟨k, rfl⟩ : ∃ n, k = n + 1 := ⟨k - 1, by omega⟩
    show ∃ (v : Int) (l' : Bs) (o' : Bool), __date_scan__month.l1b K (iter (__date_scan__month.l1b K) k) _ = _ ∧ _
    generalize iter (__date_scan__month.l1b K) k = r
    unfold __date_scan__month.l1b
    dsimp only
    rw [show ltI (j : Int) 12 = decide (j < 12) from ltI_nat _ 12, decide_eq_false (by omega), ifO_false]
    exact ⟨0, l, true, rfl, by unfold Ouc pmf; simp, ⟨by decide, by decide⟩, Nat.le_refl _⟩
  | succ d ih =>
    intro j k hj hk
    obtain ⟨k, rfl⟩ : ∃ n, k = n + 1 := ⟨k - 1, by omega⟩
    have ih' := ih (j + 1) k (by omega) (by omega)
    show ∃ (v : Int) (l' : Bs) (o' : Bool), __date_scan__month.l1b K (iter (__date_scan__month.l1b K) k) _ = _ ∧ _
    generalize iter (__date_scan__month.l1b K) k = r at *
    unfold __date_scan__month.l1b
    dsimp only
    rw [show ltI (j : Int) 12 = decide (j < 12) from ltI_nat _ 12, decide_eq_true (by omega), ifO_true, show inB (j : Int) 12 = true from inB_yes (n := 12) (by omega), ifO_true, arr_nm j (by omega), hprefix_is _ _ hl, bindO_some]
    simp only [pmf]
    by_cases h : hp l (nm j) = true
    · rw [h, ifO_true, if_pos rfl]
      obtain ⟨l', o', he, ho, hle⟩ := word_out l hl o (nm j) K
      rw [he, bindO_some, add64 (x := (j : Int)) (y := 1) (by omega) (by omega)]
      refine ⟨_, l', o', rfl, ?_, ⟨by omega, by omega⟩, hle⟩
      unfold pw at ho
      rw [if_pos h, nm_len j (by omega)] at ho
      unfold Ouc at ho ⊢
      cases o <;> cases o' <;> simp_all
    · rw [Bool.eq_false_iff.2 h, ifO_false, if_neg (by decide), next64 (by omega)]
      exact ih'
theorem month_out (l : Bs) (hl : l.length ≤ 1000000) (o : Bool) (k : Nat) (hk : 13 ≤ k) : ∃ (v : Int) (l' : Bs) (o' : Bool), __date_scan__month.f k (B l, o) = some ((B l', o'), v) ∧ Ouc o (pm l) v l' o' ∧ (0 ≤ v ∧ v ≤ 12) ∧ l'.length ≤ l.length := by
  unfold __date_scan__month.f date_names.f __date_scan__month.l1
  rw [bindO_some]
  exact month_l1 l hl o k 12 0 k rfl hk
theorem clock_out (l : Bs) (hl : l.length ≤ 1000000) (o : Bool) (k : Nat) (hk : 5 ≤ k) : ∃ (v : Int) (l' : Bs) (o' : Bool), __date_scan__clock.f k (B l, o) = some ((B l', o'), v) ∧ Ouc o (pc l) v l' o' ∧ (0 ≤ v ∧ v ≤ 100000000) ∧ l'.length ≤ l.length := by
  unfold __date_scan__clock.f pc
  obtain ⟨v1, l1, o1, e1, h1, b1, n1⟩ := number_out l hl o 2 2 23 rfl (by decide) k hk
  obtain ⟨l2, o2, e2, h2, n2⟩ := word_out l1 (by omega) o1 [58] k
  obtain ⟨v3, l3, o3, e3, h3, b3, n3⟩ := number_out l2 (by omega) o2 2 2 59 rfl (by decide) k hk
  obtain ⟨l4, o4, e4, h4, n4⟩ := word_out l3 (by omega) o3 [58] k
  obtain ⟨v5, l5, o5, e5, h5, b5, n5⟩ := number_out l4 (by omega) o4 2 2 59 rfl (by decide) k hk
  dsimp only
  rw [e1, bindO_some]
  dsimp only
  rw [show (⟨#[58]⟩ : ByteArray) = B [58] from rfl, e2, bindO_some]
  dsimp only
  rw [e3, bindO_some]
  dsimp only
  rw [e4, bindO_some]
  dsimp only
  rw [e5, bindO_some, mul64 (x := v1) (y := 3600) (by omega) (by omega), mul64 (x := v3) (y := 60) (by omega) (by omega), add64 (x := v1 * 3600) (y := v3 * 60) (by omega) (by omega), add64 (x := v1 * 3600 + v3 * 60) (by omega) (by omega), show v1 * 3600 + v3 * 60 + v5 = 3600 * v1 + 60 * v3 + v5 by omega]
  exact ⟨_, l5, o5, rfl, h1.bind (h2.bind (h3.bind (h4.bind (h5.bind (Ouc.pure_ _ _ _))))), ⟨by omega, by omega⟩, by omega⟩
theorem first_out (l : Bs) (hl : l.length ≤ 1000000) (o : Bool) (k : Nat) (hk : 13 ≤ k) : ∃ (y m d s : Int) (l' : Bs) (o' : Bool), date_first.f k (B l, o) = some ((B l', o'), (y, (m, (d, s)))) ∧ Ouc o (p1 l) (y, m, d, s) l' o' ∧ 0 ≤ s ∧ s ≤ 100000000 := by
  unfold date_first.f p1
  obtain ⟨l1, o1, e1, h1, n1⟩ := word_out l hl o [44, 32] k
  obtain ⟨d, l2, o2, e2, h2, b2, n2⟩ := number_out l1 (by omega) o1 2 2 31 rfl (by decide) k (by omega)
  obtain ⟨l3, o3, e3, h3, n3⟩ := word_out l2 (by omega) o2 [32] k
  obtain ⟨m, l4, o4, e4, h4, b4, n4⟩ := month_out l3 (by omega) o3 k hk
  obtain ⟨l5, o5, e5, h5, n5⟩ := word_out l4 (by omega) o4 [32] k
  obtain ⟨y, l6, o6, e6, h6, b6, n6⟩ := number_out l5 (by omega) o5 4 4 9999 rfl (by decide) k (by omega)
  obtain ⟨l7, o7, e7, h7, n7⟩ := word_out l6 (by omega) o6 [32] k
  obtain ⟨s, l8, o8, e8, h8, b8, n8⟩ := clock_out l7 (by omega) o7 k (by omega)
  obtain ⟨l9, o9, e9, h9, n9⟩ := word_out l8 (by omega) o8 [32, 71, 77, 84] k
  rw [show (⟨#[44, 32]⟩ : ByteArray) = B [44, 32] from rfl, show (⟨#[32]⟩ : ByteArray) = B [32] from rfl, show (⟨#[32, 71, 77, 84]⟩ : ByteArray) = B [32, 71, 77, 84] from rfl]
  dsimp only
  rw [e1, bindO_some]; dsimp only
  rw [e2, bindO_some]; dsimp only
  rw [e3, bindO_some]; dsimp only
  rw [e4, bindO_some]; dsimp only
  rw [e5, bindO_some]; dsimp only
  rw [e6, bindO_some]; dsimp only
  rw [e7, bindO_some]; dsimp only
  rw [e8, bindO_some]; dsimp only
  rw [e9, bindO_some]
  exact ⟨y, m, d, s, l9, o9, rfl, h1.bind (h2.bind (h3.bind (h4.bind (h5.bind (h6.bind (h7.bind (h8.bind (h9.bind (Ouc.pure_ _ _ _))))))))), b8⟩
theorem second_out (l : Bs) (hl : l.length ≤ 1000000) (o : Bool) (k : Nat) (hk : 13 ≤ k) : ∃ (y m d s : Int) (l' : Bs) (o' : Bool), date_second.f k (B l, o) = some ((B l', o'), (y, (m, (d, s)))) ∧ Ouc o (p2 l) (y, m, d, s) l' o' ∧ 0 ≤ s ∧ s ≤ 100000000 := by
  unfold date_second.f p2
  obtain ⟨l1, o1, e1, h1, n1⟩ := word_out l hl o [44, 32] k
  obtain ⟨d, l2, o2, e2, h2, b2, n2⟩ := number_out l1 (by omega) o1 2 2 31 rfl (by decide) k (by omega)
  obtain ⟨l3, o3, e3, h3, n3⟩ := word_out l2 (by omega) o2 [45] k
  obtain ⟨m, l4, o4, e4, h4, b4, n4⟩ := month_out l3 (by omega) o3 k hk
  obtain ⟨l5, o5, e5, h5, n5⟩ := word_out l4 (by omega) o4 [45] k
  obtain ⟨y, l6, o6, e6, h6, b6, n6⟩ := number_out l5 (by omega) o5 2 2 9999 rfl (by decide) k (by omega)
  obtain ⟨l7, o7, e7, h7, n7⟩ := word_out l6 (by omega) o6 [32] k
  obtain ⟨s, l8, o8, e8, h8, b8, n8⟩ := clock_out l7 (by omega) o7 k (by omega)
  obtain ⟨l9, o9, e9, h9, n9⟩ := word_out l8 (by omega) o8 [32, 71, 77, 84] k
  have hj : ∀ Y : Int, date_second.j6 k (B l6, (o6, (Y, (m, (d, 0))))) = some ((B l9, o9), (Y, (m, (d, s)))) := by
    intro Y
    unfold date_second.j6
    rw [show (⟨#[32]⟩ : ByteArray) = B [32] from rfl, show (⟨#[32, 71, 77, 84]⟩ : ByteArray) = B [32, 71, 77, 84] from rfl]
    dsimp only
    rw [e7, bindO_some]; dsimp only
    rw [e8, bindO_some]; dsimp only
    rw [e9, bindO_some]
  rw [show (⟨#[44, 32]⟩ : ByteArray) = B [44, 32] from rfl, show (⟨#[45]⟩ : ByteArray) = B [45] from rfl]
  dsimp only
  rw [e1, bindO_some]; dsimp only
  rw [e2, bindO_some]; dsimp only
  rw [e3, bindO_some]; dsimp only
  rw [e4, bindO_some]; dsimp only
  rw [e5, bindO_some]; dsimp only
  rw [e6, bindO_some]; dsimp only
  rw [hj, hj, add64 (x := y) (by omega) (by omega), add64 (by omega) (by omega), ltD, ifO_dec]
  have ho : Ouc o ((pw [44, 32] l).bind fun a => (pn 2 31 a.2).bind fun d => (pw [45] d.2).bind fun b => (pm b.2).bind fun m => (pw [45] m.2).bind fun c => (pn 2 9999 c.2).bind fun y => (pw [32] y.2).bind fun e => (pc e.2).bind fun s => (pw [32, 71, 77, 84] s.2).bind fun z => some (((if y.1 < 70 then y.1 + 2000 else y.1 + 1900), m.1, d.1, s.1), z.2)) ((if y < 70 then y + 2000 else y + 1900), m, d, s) l9 o9 :=
    h1.bind (h2.bind (h3.bind (h4.bind (h5.bind (h6.bind (h7.bind (h8.bind (h9.bind (Ouc.pure_ _ _ _)))))))))
  by_cases g : y < 70
  · rw [if_pos (by omega)]
    rw [if_pos g] at ho
    refine ⟨_, m, d, s, l9, o9, rfl, ?_, b8⟩
    rw [show y + 1900 + 100 = y + 2000 by omega]; exact ho
  · rw [if_neg (by omega)]
    rw [if_neg g] at ho
    exact ⟨_, m, d, s, l9, o9, rfl, ho, b8⟩
theorem third_j6 (l : Bs) (hl : l.length ≤ 1000000) (o : Bool) (m d : Int) (k : Nat) (hk : 14 ≤ k) : ∃ (y s : Int) (l' : Bs) (o' : Bool), date_third.j6 k (B l, (o, (0, (m, (d, 0))))) = some ((B l', o'), (y, (m, (d, s)))) ∧ Ouc o (p3r m d l) (y, m, d, s) l' o' ∧ 0 ≤ s ∧ s ≤ 100000000 := by
  unfold date_third.j6 p3r
  obtain ⟨l7, o7, e7, h7, n7⟩ := word_out l hl o [32] k
  obtain ⟨s, l8, o8, e8, h8, b8, n8⟩ := clock_out l7 (by omega) o7 k (by omega)
  obtain ⟨l5, o5, e5, h5, n5⟩ := word_out l8 (by omega) o8 [32] k
  obtain ⟨y, l6, o6, e6, h6, b6, n6⟩ := number_out l5 (by omega) o5 4 4 9999 rfl (by decide) k (by omega)
  rw [show (⟨#[32]⟩ : ByteArray) = B [32] from rfl]
  dsimp only
  rw [e7, bindO_some]; dsimp only
  rw [e8, bindO_some]; dsimp only
  rw [e5, bindO_some]; dsimp only
  rw [e6, bindO_some]
  exact ⟨y, s, l6, o6, rfl, h7.bind (h8.bind (h5.bind (h6.bind (Ouc.pure_ _ _ _)))), b8⟩
theorem third_out (l : Bs) (hl : l.length ≤ 1000000) (o : Bool) (k : Nat) (hk : 14 ≤ k) : ∃ (y m d s : Int) (l' : Bs) (o' : Bool), date_third.f k (B l, o) = some ((B l', o'), (y, (m, (d, s)))) ∧ Ouc o (p3 l) (y, m, d, s) l' o' ∧ 0 ≤ s ∧ s ≤ 100000000 := by
  unfold date_third.f p3
  obtain ⟨l1, o1, e1, h1, n1⟩ := word_out l hl o [32] k
  obtain ⟨m, l2, o2, e2, h2, b2, n2⟩ := month_out l1 (by omega) o1 k (by omega)
  obtain ⟨l3, o3, e3, h3, n3⟩ := word_out l2 (by omega) o2 [32] k
  rw [show (⟨#[32]⟩ : ByteArray) = B [32] from rfl]
  dsimp only
  rw [e1, bindO_some]; dsimp only
  rw [e2, bindO_some]; dsimp only
  rw [e3, bindO_some]; dsimp only
  rw [hprefix_is _ _ (by omega), bindO_some]
  by_cases h : hp l3 [32] = true
  · rw [h, ifO_true]
    obtain ⟨l4, o4, e4, h4, n4⟩ := word_out l3 (by omega) o3 [32] k
    obtain ⟨d, l5, o5, e5, h5, b5, n5⟩ := number_out l4 (by omega) o4 1 1 9 rfl (by decide) k (by omega)
    obtain ⟨y, s, l6, o6, e6, h6, b6⟩ := third_j6 l5 (by omega) o5 m d k hk
    rw [e4, bindO_some]; dsimp only
    rw [e5, bindO_some]; dsimp only
    rw [e6]
    refine ⟨y, m, d, s, l6, o6, rfl, h1.bind (h2.bind (h3.bind ?_)), b6⟩
    rw [if_pos h]
    exact h4.bind (h5.bind h6)
  · rw [Bool.eq_false_iff.2 h, ifO_false]
    obtain ⟨d, l5, o5, e5, h5, b5, n5⟩ := number_out l3 (by omega) o3 2 2 31 rfl (by decide) k (by omega)
    rw [e5, bindO_some]; dsimp only
    rw [ltD, ifO_dec]
    by_cases g : d < 10
    · obtain ⟨y, s, l6, o6, e6, h6, b6⟩ := third_j6 l5 (by omega) true m d k hk
      rw [if_pos g, e6]
      refine ⟨y, m, d, s, l6, o6, rfl, h1.bind (h2.bind (h3.bind ?_)), b6⟩
      rw [if_neg h]
      refine h5.bind ?_
      rw [if_pos g]
      have := h6.true_
      subst this
      unfold Ouc; cases o5 <;> simp
    · obtain ⟨y, s, l6, o6, e6, h6, b6⟩ := third_j6 l5 (by omega) o5 m d k hk
      rw [if_neg g, e6]
      refine ⟨y, m, d, s, l6, o6, rfl, h1.bind (h2.bind (h3.bind ?_)), b6⟩
      rw [if_neg h]
      refine h5.bind ?_
      rw [if_neg g]
      exact h6
end Go.Proofs.YtkjjegjafpefcaaDoor.R
