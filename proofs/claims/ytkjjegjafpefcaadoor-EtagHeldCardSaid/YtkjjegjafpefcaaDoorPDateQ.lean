/- Dates: the program's search of the three forms finds what the model finds. -/
import Derived.Test.YtkjjegjafpefcaaDoorPDateP
namespace Go.Proofs.YtkjjegjafpefcaaDoor.R
open Go Go.RowKit
open Go.Proofs.YtkjjegjafpefcaaDoor.Pure (Lp Lg Cm Ah Dn Ok3 Dn_nonneg Ouc Ouc.false_ Ouc.none_ hp hp_iff pw p1 p2 p3r p3 wdn wdn_len wname suc sl found)
set_option linter.unusedSimpArgs false
set_option linter.unusedVariables false
theorem arr_wd : ∀ j : Nat, j < 7 → elT .str ((⟨#[83, 117, 110, 100, 97, 121]⟩ : ByteArray) :: (⟨#[77, 111, 110, 100, 97, 121]⟩ : ByteArray) :: (⟨#[84, 117, 101, 115, 100, 97, 121]⟩ : ByteArray) :: (⟨#[87, 101, 100, 110, 101, 115, 100, 97, 121]⟩ : ByteArray) :: (⟨#[84, 104, 117, 114, 115, 100, 97, 121]⟩ : ByteArray) :: (⟨#[70, 114, 105, 100, 97, 121]⟩ : ByteArray) :: (⟨#[83, 97, 116, 117, 114, 100, 97, 121]⟩ : ByteArray) :: []) (j : Int) = B (wdn j) := by
  intro j hj
  have : j = 0 ∨ j = 1 ∨ j = 2 ∨ j = 3 ∨ j = 4 ∨ j = 5 ∨ j = 6 := by omega
  rcases this with rfl | rfl | rfl | rfl | rfl | rfl | rfl <;> rfl
abbrev wst (s : ByteArray) (fi w : Int) (b : Bool) : Tup [.str, .int .i64, .str, .str, .str, .str, .str, .str, .str, .int .i64, .bool] := (s, (fi, ((⟨#[83, 117, 110, 100, 97, 121]⟩ : ByteArray), ((⟨#[77, 111, 110, 100, 97, 121]⟩ : ByteArray), ((⟨#[84, 117, 101, 115, 100, 97, 121]⟩ : ByteArray), ((⟨#[87, 101, 100, 110, 101, 115, 100, 97, 121]⟩ : ByteArray), ((⟨#[84, 104, 117, 114, 115, 100, 97, 121]⟩ : ByteArray), ((⟨#[70, 114, 105, 100, 97, 121]⟩ : ByteArray), ((⟨#[83, 97, 116, 117, 114, 100, 97, 121]⟩ : ByteArray), (w, b))))))))))
theorem parse_l2 (l : Bs) (hl : l.length ≤ 1000000) (K : Nat) (hK : 20 ≤ K) (fi : Int) (r0 : Tup [.str, .int .i64] → Option (Tup [.int .i64, .int .i64])) : ∀ (d w k : Nat), w + d = 7 → d + 1 ≤ k →
    iter (date_Parse.l2b K r0) k (wst (B l) fi w false) = (match sl p1 false l d w with
      | some a => some (a, 0)
      | none => r0 (B l, addI .i64 fi 1)) := by
  intro d
  induction d with
  | zero =>
    intro w k hw hk
    obtain ⟨k, rfl⟩ : ∃ n, k = n + 1 := ⟨k - 1, by omega⟩
    show date_Parse.l2b K r0 (iter (date_Parse.l2b K r0) k) _ = _
    generalize iter (date_Parse.l2b K r0) k = r
    unfold date_Parse.l2b
    dsimp only
    rw [show ltI (w : Int) 7 = decide (w < 7) from ltI_nat _ 7, decide_eq_false (by omega), ifO_false]
    rfl
  | succ d ih =>
    intro w k hw hk
    obtain ⟨k, rfl⟩ : ∃ n, k = n + 1 := ⟨k - 1, by omega⟩
    have hi := ih (w + 1) k (by omega) (by omega)
    show date_Parse.l2b K r0 (iter (date_Parse.l2b K r0) k) _ = _
    generalize iter (date_Parse.l2b K r0) k = r at *
    have h5 : date_Parse.j5 K r0 r (wst (B l) fi w false) = (match sl p1 false l d (w + 1) with
      | some a => some (a, 0)
      | none => r0 (B l, addI .i64 fi 1)) := by
      unfold date_Parse.j5
      dsimp only
      rw [next64 (by omega)]
      exact hi
    generalize hR : (match sl p1 false l d (w + 1) with
      | some a => some (a, 0)
      | none => r0 (B l, addI .i64 fi 1)) = R at h5
    unfold date_Parse.l2b
    dsimp only
    rw [show ltI (w : Int) 7 = decide (w < 7) from ltI_nat _ 7, decide_eq_true (by omega), ifO_true, show inB (w : Int) 7 = true from inB_yes (n := 7) (by omega), ifO_true, arr_wd w (by omega)]
    rw [show notB false = true from rfl, ifO_true, B_len, show boundB 3 ((wdn w).length : Int) = true from boundB_yes (i := 3) (by have := wdn_len w (by omega); omega), show andB true (boundB 0 3) = true from rfl, ifO_true, show cutS (B (wdn w)) 0 3 = B ((wdn w).take 3) from B_cut _ 0 3]
    unfold date_Parse.j3
    dsimp only
    simp only [sl]
    obtain ⟨l1, o1, e1, h1, n1⟩ := word_out l hl false (wname false w) K
    rw [show ((wdn w).take 3) = wname false w from rfl, e1, bindO_some]
    dsimp only
    unfold suc
    cases o1
    · rw [ifO_false, h1.false_]
      simp only [Option.bind_some]
      obtain ⟨y, m, dd, s, l2, o2, e2, h2, b1, b2⟩ := first_out l1 (by omega) false K (by omega)
      have h9 : ∀ (n : Int), date_Parse.j9 K r0 r (B l, (n, (fi, ((⟨#[83, 117, 110, 100, 97, 121]⟩ : ByteArray), ((⟨#[77, 111, 110, 100, 97, 121]⟩ : ByteArray), ((⟨#[84, 117, 101, 115, 100, 97, 121]⟩ : ByteArray), ((⟨#[87, 101, 100, 110, 101, 115, 100, 97, 121]⟩ : ByteArray), ((⟨#[84, 104, 117, 114, 115, 100, 97, 121]⟩ : ByteArray), ((⟨#[70, 114, 105, 100, 97, 121]⟩ : ByteArray), ((⟨#[83, 97, 116, 117, 114, 100, 97, 121]⟩ : ByteArray), ((w : Int), (false, (false, (y, (m, (dd, s)))))))))))))))) = R := by
        intro n
        unfold date_Parse.j9
        dsimp only
        rw [ifO_false]
        exact h5
      rw [e2, bindO_some]
      dsimp only
      by_cases hok : Ok3 y m dd
      · have hb := Dn_nonneg y m dd hok
        rw [ddays_yes _ _ _ hok K (by omega), bindO_some]
        dsimp only
        cases o2
        · rw [show notB false = true from rfl, ifO_true, h2.false_]
          simp only [Option.bind_some]
          rw [B_nil, B_eq, ifO_dec]
          by_cases hn : l2 = []
          · rw [if_pos hn, show eqI 0 0 = true from rfl, ifO_true, dwd _ hb.1, bindO_some, eqI_dec]
            by_cases hd : (Dn y m dd % 7 + 4) % 7 = (w : Int)
            · rw [if_pos ⟨hn, hok, hd⟩, decide_eq_true hd]
              unfold date_Parse.j9
              dsimp only
              rw [ifO_true, mul64 (by omega) (by omega), add64 (by omega) (by omega)]
            · rw [if_neg (fun h => hd h.2.2), decide_eq_false hd, h9]
              exact hR.symm
          · rw [if_neg hn, if_neg (fun h => hn h.1), h9]
            exact hR.symm
        · rw [show notB true = false from rfl, ifO_false, h2.none_, h9]
          exact hR.symm
      · rw [ddays_no _ _ _ hok K, bindO_some]
        dsimp only
        have hno : (((p1 l1).bind fun r => if r.2 = [] ∧ Ok3 r.1.1 r.1.2.1 r.1.2.2.1 ∧ (Dn r.1.1 r.1.2.1 r.1.2.2.1 % 7 + 4) % 7 = (w : Int) then some (Dn r.1.1 r.1.2.1 r.1.2.2.1 * 86400 + r.1.2.2.2) else none) : Option Int) = none := by
          cases o2
          · rw [h2.false_]
            simp only [Option.bind_some]
            rw [if_neg (fun h => hok h.2.1)]
          · rw [h2.none_]; rfl
        rw [hno]
        cases o2
        · rw [show notB false = true from rfl, ifO_true, B_nil, B_eq, ifO_dec]
          by_cases hn : l2 = []
          · rw [if_pos hn, show eqI 1 0 = false from rfl, ifO_false, h9]
            exact hR.symm
          · rw [if_neg hn, h9]
            exact hR.symm
        · rw [show notB true = false from rfl, ifO_false, h9]
          exact hR.symm
    · rw [ifO_true, h1.none_]
      exact h5.trans hR.symm
theorem parse_l12 (l : Bs) (hl : l.length ≤ 1000000) (K : Nat) (hK : 20 ≤ K) (fi : Int) (r0 : Tup [.str, .int .i64] → Option (Tup [.int .i64, .int .i64])) : ∀ (d w k : Nat), w + d = 7 → d + 1 ≤ k →
    iter (date_Parse.l12b K r0) k (wst (B l) fi w true) = (match sl p2 true l d w with
      | some a => some (a, 0)
      | none => r0 (B l, addI .i64 fi 1)) := by
  intro d
  induction d with
  | zero =>
    intro w k hw hk
    obtain ⟨k, rfl⟩ : ∃ n, k = n + 1 := ⟨k - 1, by omega⟩
    show date_Parse.l12b K r0 (iter (date_Parse.l12b K r0) k) _ = _
    generalize iter (date_Parse.l12b K r0) k = r
    unfold date_Parse.l12b
    dsimp only
    rw [show ltI (w : Int) 7 = decide (w < 7) from ltI_nat _ 7, decide_eq_false (by omega), ifO_false]
    rfl
  | succ d ih =>
    intro w k hw hk
    obtain ⟨k, rfl⟩ : ∃ n, k = n + 1 := ⟨k - 1, by omega⟩
    have hi := ih (w + 1) k (by omega) (by omega)
    show date_Parse.l12b K r0 (iter (date_Parse.l12b K r0) k) _ = _
    generalize iter (date_Parse.l12b K r0) k = r at *
    have h5 : date_Parse.j15 K r0 r (wst (B l) fi w true) = (match sl p2 true l d (w + 1) with
      | some a => some (a, 0)
      | none => r0 (B l, addI .i64 fi 1)) := by
      unfold date_Parse.j15
      dsimp only
      rw [next64 (by omega)]
      exact hi
    generalize hR : (match sl p2 true l d (w + 1) with
      | some a => some (a, 0)
      | none => r0 (B l, addI .i64 fi 1)) = R at h5
    unfold date_Parse.l12b
    dsimp only
    rw [show ltI (w : Int) 7 = decide (w < 7) from ltI_nat _ 7, decide_eq_true (by omega), ifO_true, show inB (w : Int) 7 = true from inB_yes (n := 7) (by omega), ifO_true, arr_wd w (by omega)]
    rw [show notB true = false from rfl, ifO_false]
    unfold date_Parse.j13
    dsimp only
    simp only [sl]
    obtain ⟨l1, o1, e1, h1, n1⟩ := word_out l hl false (wname true w) K
    rw [show (wdn w) = wname true w from rfl, e1, bindO_some]
    dsimp only
    unfold suc
    cases o1
    · rw [ifO_false, h1.false_]
      simp only [Option.bind_some]
      obtain ⟨y, m, dd, s, l2, o2, e2, h2, b1, b2⟩ := second_out l1 (by omega) false K (by omega)
      have h9 : ∀ (n : Int), date_Parse.j19 K r0 r (B l, (n, (fi, ((⟨#[83, 117, 110, 100, 97, 121]⟩ : ByteArray), ((⟨#[77, 111, 110, 100, 97, 121]⟩ : ByteArray), ((⟨#[84, 117, 101, 115, 100, 97, 121]⟩ : ByteArray), ((⟨#[87, 101, 100, 110, 101, 115, 100, 97, 121]⟩ : ByteArray), ((⟨#[84, 104, 117, 114, 115, 100, 97, 121]⟩ : ByteArray), ((⟨#[70, 114, 105, 100, 97, 121]⟩ : ByteArray), ((⟨#[83, 97, 116, 117, 114, 100, 97, 121]⟩ : ByteArray), ((w : Int), (false, (true, (y, (m, (dd, s)))))))))))))))) = R := by
        intro n
        unfold date_Parse.j19
        dsimp only
        rw [ifO_false]
        exact h5
      rw [e2, bindO_some]
      dsimp only
      by_cases hok : Ok3 y m dd
      · have hb := Dn_nonneg y m dd hok
        rw [ddays_yes _ _ _ hok K (by omega), bindO_some]
        dsimp only
        cases o2
        · rw [show notB false = true from rfl, ifO_true, h2.false_]
          simp only [Option.bind_some]
          rw [B_nil, B_eq, ifO_dec]
          by_cases hn : l2 = []
          · rw [if_pos hn, show eqI 0 0 = true from rfl, ifO_true, dwd _ hb.1, bindO_some, eqI_dec]
            by_cases hd : (Dn y m dd % 7 + 4) % 7 = (w : Int)
            · rw [if_pos ⟨hn, hok, hd⟩, decide_eq_true hd]
              unfold date_Parse.j19
              dsimp only
              rw [ifO_true, mul64 (by omega) (by omega), add64 (by omega) (by omega)]
            · rw [if_neg (fun h => hd h.2.2), decide_eq_false hd, h9]
              exact hR.symm
          · rw [if_neg hn, if_neg (fun h => hn h.1), h9]
            exact hR.symm
        · rw [show notB true = false from rfl, ifO_false, h2.none_, h9]
          exact hR.symm
      · rw [ddays_no _ _ _ hok K, bindO_some]
        dsimp only
        have hno : (((p2 l1).bind fun r => if r.2 = [] ∧ Ok3 r.1.1 r.1.2.1 r.1.2.2.1 ∧ (Dn r.1.1 r.1.2.1 r.1.2.2.1 % 7 + 4) % 7 = (w : Int) then some (Dn r.1.1 r.1.2.1 r.1.2.2.1 * 86400 + r.1.2.2.2) else none) : Option Int) = none := by
          cases o2
          · rw [h2.false_]
            simp only [Option.bind_some]
            rw [if_neg (fun h => hok h.2.1)]
          · rw [h2.none_]; rfl
        rw [hno]
        cases o2
        · rw [show notB false = true from rfl, ifO_true, B_nil, B_eq, ifO_dec]
          by_cases hn : l2 = []
          · rw [if_pos hn, show eqI 1 0 = false from rfl, ifO_false, h9]
            exact hR.symm
          · rw [if_neg hn, h9]
            exact hR.symm
        · rw [show notB true = false from rfl, ifO_false, h9]
          exact hR.symm
    · rw [ifO_true, h1.none_]
      exact h5.trans hR.symm
theorem parse_l21 (l : Bs) (hl : l.length ≤ 1000000) (K : Nat) (hK : 20 ≤ K) (fi : Int) (r0 : Tup [.str, .int .i64] → Option (Tup [.int .i64, .int .i64])) : ∀ (d w k : Nat), w + d = 7 → d + 1 ≤ k →
    iter (date_Parse.l21b K r0) k (wst (B l) fi w false) = (match sl p3 false l d w with
      | some a => some (a, 0)
      | none => r0 (B l, addI .i64 fi 1)) := by
  intro d
  induction d with
  | zero =>
    intro w k hw hk
    obtain ⟨k, rfl⟩ : ∃ n, k = n + 1 := ⟨k - 1, by omega⟩
    show date_Parse.l21b K r0 (iter (date_Parse.l21b K r0) k) _ = _
    generalize iter (date_Parse.l21b K r0) k = r
    unfold date_Parse.l21b
    dsimp only
    rw [show ltI (w : Int) 7 = decide (w < 7) from ltI_nat _ 7, decide_eq_false (by omega), ifO_false]
    rfl
  | succ d ih =>
    intro w k hw hk
    obtain ⟨k, rfl⟩ : ∃ n, k = n + 1 := ⟨k - 1, by omega⟩
    have hi := ih (w + 1) k (by omega) (by omega)
    show date_Parse.l21b K r0 (iter (date_Parse.l21b K r0) k) _ = _
    generalize iter (date_Parse.l21b K r0) k = r at *
    have h5 : date_Parse.j24 K r0 r (wst (B l) fi w false) = (match sl p3 false l d (w + 1) with
      | some a => some (a, 0)
      | none => r0 (B l, addI .i64 fi 1)) := by
      unfold date_Parse.j24
      dsimp only
      rw [next64 (by omega)]
      exact hi
    generalize hR : (match sl p3 false l d (w + 1) with
      | some a => some (a, 0)
      | none => r0 (B l, addI .i64 fi 1)) = R at h5
    unfold date_Parse.l21b
    dsimp only
    rw [show ltI (w : Int) 7 = decide (w < 7) from ltI_nat _ 7, decide_eq_true (by omega), ifO_true, show inB (w : Int) 7 = true from inB_yes (n := 7) (by omega), ifO_true, arr_wd w (by omega)]
    rw [show notB false = true from rfl, ifO_true, B_len, show boundB 3 ((wdn w).length : Int) = true from boundB_yes (i := 3) (by have := wdn_len w (by omega); omega), show andB true (boundB 0 3) = true from rfl, ifO_true, show cutS (B (wdn w)) 0 3 = B ((wdn w).take 3) from B_cut _ 0 3]
    unfold date_Parse.j22
    dsimp only
    simp only [sl]
    obtain ⟨l1, o1, e1, h1, n1⟩ := word_out l hl false (wname false w) K
    rw [show ((wdn w).take 3) = wname false w from rfl, e1, bindO_some]
    dsimp only
    unfold suc
    cases o1
    · rw [ifO_false, h1.false_]
      simp only [Option.bind_some]
      obtain ⟨y, m, dd, s, l2, o2, e2, h2, b1, b2⟩ := third_out l1 (by omega) false K (by omega)
      have h9 : ∀ (n : Int), date_Parse.j28 K r0 r (B l, (n, (fi, ((⟨#[83, 117, 110, 100, 97, 121]⟩ : ByteArray), ((⟨#[77, 111, 110, 100, 97, 121]⟩ : ByteArray), ((⟨#[84, 117, 101, 115, 100, 97, 121]⟩ : ByteArray), ((⟨#[87, 101, 100, 110, 101, 115, 100, 97, 121]⟩ : ByteArray), ((⟨#[84, 104, 117, 114, 115, 100, 97, 121]⟩ : ByteArray), ((⟨#[70, 114, 105, 100, 97, 121]⟩ : ByteArray), ((⟨#[83, 97, 116, 117, 114, 100, 97, 121]⟩ : ByteArray), ((w : Int), (false, (false, (y, (m, (dd, s)))))))))))))))) = R := by
        intro n
        unfold date_Parse.j28
        dsimp only
        rw [ifO_false]
        exact h5
      rw [e2, bindO_some]
      dsimp only
      by_cases hok : Ok3 y m dd
      · have hb := Dn_nonneg y m dd hok
        rw [ddays_yes _ _ _ hok K (by omega), bindO_some]
        dsimp only
        cases o2
        · rw [show notB false = true from rfl, ifO_true, h2.false_]
          simp only [Option.bind_some]
          rw [B_nil, B_eq, ifO_dec]
          by_cases hn : l2 = []
          · rw [if_pos hn, show eqI 0 0 = true from rfl, ifO_true, dwd _ hb.1, bindO_some, eqI_dec]
            by_cases hd : (Dn y m dd % 7 + 4) % 7 = (w : Int)
            · rw [if_pos ⟨hn, hok, hd⟩, decide_eq_true hd]
              unfold date_Parse.j28
              dsimp only
              rw [ifO_true, mul64 (by omega) (by omega), add64 (by omega) (by omega)]
            · rw [if_neg (fun h => hd h.2.2), decide_eq_false hd, h9]
              exact hR.symm
          · rw [if_neg hn, if_neg (fun h => hn h.1), h9]
            exact hR.symm
        · rw [show notB true = false from rfl, ifO_false, h2.none_, h9]
          exact hR.symm
      · rw [ddays_no _ _ _ hok K, bindO_some]
        dsimp only
        have hno : (((p3 l1).bind fun r => if r.2 = [] ∧ Ok3 r.1.1 r.1.2.1 r.1.2.2.1 ∧ (Dn r.1.1 r.1.2.1 r.1.2.2.1 % 7 + 4) % 7 = (w : Int) then some (Dn r.1.1 r.1.2.1 r.1.2.2.1 * 86400 + r.1.2.2.2) else none) : Option Int) = none := by
          cases o2
          · rw [h2.false_]
            simp only [Option.bind_some]
            rw [if_neg (fun h => hok h.2.1)]
          · rw [h2.none_]; rfl
        rw [hno]
        cases o2
        · rw [show notB false = true from rfl, ifO_true, B_nil, B_eq, ifO_dec]
          by_cases hn : l2 = []
          · rw [if_pos hn, show eqI 1 0 = false from rfl, ifO_false, h9]
            exact hR.symm
          · rw [if_neg hn, h9]
            exact hR.symm
        · rw [show notB true = false from rfl, ifO_false, h9]
          exact hR.symm
    · rw [ifO_true, h1.none_]
      exact h5.trans hR.symm
theorem date_parse0 (l : Bs) (hl : l.length ≤ 1000000) (K : Nat) (hk : 20 ≤ K) (m : Nat) : iter (date_Parse.l0b K) (m + 1 + 1 + 1 + 1) (B l, 0) = some (match found l with
    | some a => (a, 0)
    | none => (0, 2)) := by
  have step : ∀ (n : Nat) (v : Tup [.str, .int .i64]), iter (date_Parse.l0b K) (n + 1) v = date_Parse.l0b K (iter (date_Parse.l0b K) n) v := fun _ _ => rfl
  have a0 : ∀ (r : Tup [.str, .int .i64] → Option (Tup [.int .i64, .int .i64])), date_Parse.l0b K r (B l, 0) = (match sl p1 false l 7 0 with
      | some a => some (a, 0)
      | none => r (B l, 1)) := fun r => parse_l2 l hl K hk 0 r 7 0 K rfl (by omega)
  have a1 : ∀ (r : Tup [.str, .int .i64] → Option (Tup [.int .i64, .int .i64])), date_Parse.l0b K r (B l, 1) = (match sl p2 true l 7 0 with
      | some a => some (a, 0)
      | none => r (B l, 2)) := fun r => parse_l12 l hl K hk 1 r 7 0 K rfl (by omega)
  have a2 : ∀ (r : Tup [.str, .int .i64] → Option (Tup [.int .i64, .int .i64])), date_Parse.l0b K r (B l, 2) = (match sl p3 false l 7 0 with
      | some a => some (a, 0)
      | none => r (B l, 3)) := fun r => parse_l21 l hl K hk 2 r 7 0 K rfl (by omega)
  have a3 : ∀ (r : Tup [.str, .int .i64] → Option (Tup [.int .i64, .int .i64])), date_Parse.l0b K r (B l, 3) = some (0, 2) := fun r => rfl
  rw [step, a0]
  unfold found
  cases sl p1 false l 7 0 with
  | some a => rfl
  | none =>
    dsimp only
    rw [step, a1]
    cases sl p2 true l 7 0 with
    | some a => rfl
    | none =>
      dsimp only
      rw [step, a2]
      cases sl p3 false l 7 0 with
      | some a => rfl
      | none =>
        dsimp only
        rw [step, a3]
theorem date_parse (l : Bs) (hl : l.length ≤ 1000000) (k : Nat) (hk : 20 ≤ k) : date_Parse.f k (B l) = some (match found l with
    | some a => (a, 0)
    | none => (0, 2)) := by
  have := date_parse0 l hl k hk (k - 4)
  rw [show k - 4 + 1 + 1 + 1 + 1 = k by omega] at this
  exact this
end Go.Proofs.YtkjjegjafpefcaaDoor.R
