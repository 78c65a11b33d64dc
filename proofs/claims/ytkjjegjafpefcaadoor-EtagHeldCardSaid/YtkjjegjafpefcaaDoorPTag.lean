/- Tags of responses: what the program's functions tell, on plain lists of bytes. -/
import Derived.Test.YtkjjegjafpefcaaDoorF2
import Derived.Test.YtkjjegjafpefcaaDoorPBase
namespace Go.Proofs.YtkjjegjafpefcaaDoor.R
open Go Go.RowKit
set_option linter.unusedSimpArgs false
set_option linter.unusedVariables false
abbrev TagB := Bool × ByteArray
/-- May a byte stand in a tag? -/
def inT (c : UInt8) : Bool := decide (33 ≤ c.toNat) && (decide (c.toNat ≠ 34) && decide (c.toNat ≠ 127))
theorem tag_right (l : Bs) (hl : l.length ≤ 1000000000000000) (k : Nat) (hk : l.length + 1 < k) : etag_right.f k (B l) = some (l.all inT) := by
  unfold etag_right.f etag_right.l0
  rw [B_ok, decide_eq_true (by omega), ifO_true, B_bytes, lenL_nat, List.length_map]
  refine iter_eq (f := etag_right.l0b k) (fun v => ∃ i, i ≤ l.length ∧ v = (nums l, ((l.length : Int), (i : Int)))) (fun v => l.length - v.2.2.toNat) (fun v => some ((l.drop v.2.2.toNat).all inT)) ?_ k (nums l, ((l.length : Int), 0)) ⟨0, by omega, rfl⟩ (by simp only [Int.toNat_zero]; omega)
  rintro r v ⟨i, hi, rfl⟩ ih
  simp only [etag_right.l0b, etag_right.j1, ltI_nat, ifO_dec, Int.toNat_natCast]
  by_cases h : i < l.length
  · have hr : r (nums l, ((l.length : Int), addI .i64 (i : Int) 1)) = some ((l.drop (i + 1)).all inT) := by
      rw [next64 (by omega)]
      have := ih (nums l, ((l.length : Int), ((i + 1 : Nat) : Int))) ⟨i + 1, by omega, rfl⟩ (by simp only [Int.toNat_natCast]; omega)
      simpa only [Int.toNat_natCast] using this
    have he : elT (.int .u8) (nums l) (i : Int) = (l[i].toNat : Int) := by rw [elT_get (by simpa using h)]; simp
    have h32 : leI (l[i].toNat : Int) 32 = decide (l[i].toNat ≤ 32) := leI_nat _ 32
    have h34 : eqI (l[i].toNat : Int) 34 = decide (l[i].toNat = 34) := by rw [eqI_dec, decide_eq_decide]; omega
    have h127 : eqI (l[i].toNat : Int) 127 = decide (l[i].toNat = 127) := by rw [eqI_dec, decide_eq_decide]; omega
    rw [if_pos h, lenL_nat, List.length_map, inB_yes h, ifO_true, he, h32, h34, h127, hr, drop_one h, List.all_cons]
    simp only [ifO_dec, ifO_true]
    unfold inT
    by_cases c1 : l[i].toNat ≤ 32
    · rw [if_pos c1, decide_eq_false (show ¬ 33 ≤ l[i].toNat by omega)]; rfl
    · rw [if_neg c1, decide_eq_true (show 33 ≤ l[i].toNat by omega)]
      by_cases c2 : l[i].toNat = 34
      · rw [if_pos c2, c2]; rfl
      · rw [if_neg c2, decide_eq_true c2]
        by_cases c3 : l[i].toNat = 127
        · rw [if_pos c3, c3]; rfl
        · rw [if_neg c3, decide_eq_true c3]; rfl
  · rw [if_neg h, drop_nil.2 (by omega)]; rfl
/-- Without what it begins with. -/
def pre (p l : Bs) : Bs × Bool := if p = l.take p.length then (l.drop p.length, true) else (l, false)
theorem pre_is (p l : Bs) (hl : l.length ≤ 1000000) (k : Nat) : strings_CutPrefix.f k (B l, B p) = some (B (pre p l).1, (pre p l).2) := by
  rw [prefix_is _ _ hl]
  unfold pre
  split <;> rfl
theorem pre_le (p l : Bs) : (pre p l).1.length ≤ l.length := by
  unfold pre
  split
  · rw [List.length_drop]; omega
  · exact Nat.le_refl _
theorem pre_of (p r : Bs) : pre p (p ++ r) = (r, true) := by unfold pre; simp
/-- The tag that a text begins with, and what is behind it. -/
def tagM (l : Bs) : Option ((Bool × Bs) × Bs) :=
  if (pre [34] (pre [87, 47] l).1).2 = true then match cutAt 34 (pre [34] (pre [87, 47] l).1).1 with
    | some (a, b) => if a.all inT = true then some (((pre [87, 47] l).2, a), b) else none
    | none => none
  else none
theorem cutAt_len {c : UInt8} {l a b : Bs} (h : cutAt c l = some (a, b)) : a.length + b.length + 1 = l.length := by
  have := (cutAt_some h).1
  rw [this]; simp; omega
theorem tagM_lt {l : Bs} {t : Bool × Bs} {r : Bs} (h : tagM l = some (t, r)) : r.length < l.length ∧ t.2.length + r.length < l.length ∧ t.2.all inT = true := by
  unfold tagM at h
  split at h
  · split at h
    · rename_i a b hc
      split at h
      · rename_i ha
        obtain ⟨rfl, rfl⟩ := Prod.mk.inj (Option.some.inj h)
        have h1 := cutAt_len hc
        have h2 := pre_le [87, 47] l
        have h3 := pre_le [34] (pre [87, 47] l).1
        exact ⟨by omega, by simp only; omega, ha⟩
      · cases h
    · cases h
  · cases h
theorem take_is (l : Bs) (hl : l.length ≤ 1000000) (k : Nat) (hk : l.length + 1 < k) : etag_take.f k (B l) = some (match tagM l with
    | some (t, r) => ((t.1, B t.2), (B r, true))
    | none => ((false, B []), (B [], false))) := by
  have h2 := pre_le [87, 47] l
  have h3 := pre_le [34] (pre [87, 47] l).1
  unfold etag_take.f
  rw [show (⟨#[87, 47]⟩ : ByteArray) = B [87, 47] from rfl, show (⟨#[34]⟩ : ByteArray) = B [34] from rfl, show (⟨#[]⟩ : ByteArray) = B [] from rfl, pre_is _ _ hl, bindO_some, pre_is _ _ (by omega), bindO_some, cut_is _ (by omega), bindO_some]
  unfold tagM
  cases hp : (pre [34] (pre [87, 47] l).1).2 with
  | false => simp only [etag_take.j3, ifO_true, notB, Bool.not_false, Bool.false_eq_true, if_false]; rfl
  | true =>
    simp only [notB, Bool.not_true, ifO_false, if_true]
    cases hc : cutAt 34 (pre [34] (pre [87, 47] l).1).1 with
    | none => simp only [etag_take.j3, ifO_true, Bool.not_false]; rfl
    | some p =>
      obtain ⟨a, b⟩ := p
      have h1 := cutAt_len hc
      simp only [Bool.not_true, ifO_false]
      rw [tag_right a (by omega) k (by omega), bindO_some]
      cases ha : a.all inT with
      | false => simp only [etag_take.j3, ifO_true, Bool.not_false, Bool.false_eq_true, if_false]; rfl
      | true => simp only [etag_take.j3, ifO_false, Bool.not_true, if_true]
theorem parse_tag (l : Bs) (hl : l.length ≤ 1000000) (k : Nat) (hk : l.length + 1 < k) : etag_Parse.f k (B l) = some (match tagM l with
    | some (t, []) => ((t.1, B t.2), 0)
    | _ => ((false, B []), 2)) := by
  unfold etag_Parse.f
  rw [take_is l hl k hk, bindO_some, show (⟨#[]⟩ : ByteArray) = B [] from rfl]
  cases ht : tagM l with
  | none => rfl
  | some p =>
    obtain ⟨t, r⟩ := p
    simp only [notB, Bool.not_true, ifO_false, B_eq]
    cases r with
    | nil => rfl
    | cons c r => rfl
/-- A tag as text. -/
def pT (t : Bool × Bs) : Bs := (if t.1 = true then [87, 47] else []) ++ (34 :: (t.2 ++ [34]))
theorem print_tag (t : Bool × Bs) (hl : t.2.length ≤ 1000000000000000) (k : Nat) (hk : t.2.length + 1 < k) : etag_Print.f k (t.1, B t.2) = some (if t.2.all inT = true then (B (pT t), 0) else (B [], 2)) := by
  obtain ⟨wk, a⟩ := t
  unfold etag_Print.f
  simp only
  rw [show (⟨#[87, 47]⟩ : ByteArray) = B [87, 47] from rfl, show (⟨#[34]⟩ : ByteArray) = B [34] from rfl, show (⟨#[]⟩ : ByteArray) = B [] from rfl]
  rw [B_fits, decide_eq_true (by simp only [List.length_cons, List.length_nil]; simp only at hl; omega), ifO_true, B_cat, B_fits, decide_eq_true (by simp only [List.length_cons, List.length_nil, List.length_append]; simp only at hl; omega), ifO_true, B_cat, tag_right a hl k hk, bindO_some]
  cases ha : a.all inT with
  | false => rfl
  | true =>
    simp only [notB, Bool.not_true, ifO_false, if_true]
    cases wk with
    | false => rw [ifO_false]; rfl
    | true =>
      rw [ifO_true, B_fits, decide_eq_true (by simp only [List.length_cons, List.length_nil, List.length_append]; simp only at hl; omega), ifO_true, B_cat]
      rfl
theorem inT_ne {c : UInt8} (h : inT c = true) : c ≠ 34 := by
  rintro rfl
  revert h
  decide
theorem tagM_of (t : Bool × Bs) (h : t.2.all inT = true) (r : Bs) : tagM (pT t ++ r) = some (t, r) := by
  obtain ⟨wk, a⟩ := t
  have hc : cutAt 34 (a ++ 34 :: r) = some (a, r) := cutAt_of 34 r a (fun d hd => inT_ne (List.all_eq_true.1 h d hd))
  have e2 : pre [34] (34 :: (a ++ 34 :: r)) = (a ++ 34 :: r, true) := pre_of [34] _
  unfold tagM pT
  cases wk with
  | false =>
    have e1 : pre [87, 47] (34 :: (a ++ 34 :: r)) = (34 :: (a ++ 34 :: r), false) := by unfold pre; rw [if_neg (by simp)]
    simp only [Bool.false_eq_true, if_false, List.nil_append, List.cons_append, List.append_assoc, List.nil_append]
    rw [e1, e2]
    simp only [if_true, hc]
    rw [if_pos h]
  | true =>
    have e1 : pre [87, 47] (87 :: 47 :: 34 :: (a ++ 34 :: r)) = (34 :: (a ++ 34 :: r), true) := pre_of [87, 47] _
    simp only [if_true, List.nil_append, List.cons_append, List.append_assoc, List.nil_append]
    rw [e1, e2]
    simp only [if_true, hc]
    rw [if_pos h]
/-! ### lists -/
def blB (c : UInt8) : Bool := c == 32 || c == 9
def sepB (c : UInt8) : Bool := c == 32 || (c == 9 || c == 44)
theorem blS : (fun c : UInt8 => ([32, 9] : Bs).contains c) = blB := by funext c; unfold blB; rw [List.contains_cons, List.contains_cons, List.contains_nil, Bool.or_false]
theorem sepS : (fun c : UInt8 => ([32, 9, 44] : Bs).contains c) = sepB := by funext c; unfold sepB; rw [List.contains_cons, List.contains_cons, List.contains_cons, List.contains_nil, Bool.or_false]
theorem trimLeft_bl (l : Bs) (k : Nat) : x_TrimLeft.f k (B l, (⟨#[32, 9]⟩ : ByteArray)) = some (B (l.dropWhile blB)) := by
  unfold x_TrimLeft.f
  rw [if_pos (show asciiB _ = true ∧ _ < _ from ⟨rfl, by show 2 < 4294967281; decide⟩)]
  show some (B (Lib.trimLeftS (B l).data.toList [32, 9])) = _
  unfold Lib.trimLeftS
  rw [B_data, blS]
theorem trimLeft_sep (l : Bs) (k : Nat) : x_TrimLeft.f k (B l, (⟨#[32, 9, 44]⟩ : ByteArray)) = some (B (l.dropWhile sepB)) := by
  unfold x_TrimLeft.f
  rw [if_pos (show asciiB _ = true ∧ _ < _ from ⟨rfl, by show 3 < 4294967281; decide⟩)]
  show some (B (Lib.trimLeftS (B l).data.toList [32, 9, 44])) = _
  unfold Lib.trimLeftS
  rw [B_data, sepS]
def trB (l : Bs) : Bs := ((l.reverse.dropWhile blB).reverse).dropWhile blB
theorem trim_bl (l : Bs) (hl : l.length ≤ 1000000) (k : Nat) : x_Trim.f k (B l, (⟨#[32, 9]⟩ : ByteArray)) = some (B (trB l)) := by
  unfold x_Trim.f
  rw [if_pos (show (asciiB _ = true ∧ _ < _) ∧ _ ≤ _ from ⟨⟨rfl, by show 2 < 4294967281; decide⟩, by rw [B_size]; omega⟩)]
  show some (B (Lib.trimS (B l).data.toList [32, 9])) = _
  unfold Lib.trimS Lib.trimLeftS Lib.trimRightS
  rw [B_data, blS]
  rfl
theorem dw_le {p : UInt8 → Bool} (l : Bs) : (l.dropWhile p).length ≤ l.length := (List.dropWhile_sublist p).length_le
theorem trB_le (l : Bs) : (trB l).length ≤ l.length := by
  unfold trB
  have h1 := dw_le (p := blB) ((l.reverse.dropWhile blB).reverse)
  have h2 := dw_le (p := blB) l.reverse
  rw [List.length_reverse] at h1 h2
  omega
def toT (t : Bool × Bs) : TagB := (t.1, B t.2)
def listM : Nat → Bs → List (Bool × Bs) → Option (List (Bool × Bs))
  | 0, _, _ => none
  | n + 1, s, acc => if s.dropWhile sepB = [] then some acc else match tagM (s.dropWhile sepB) with
    | none => none
    | some (t, r) => match r.dropWhile blB with
      | [] => listM n [] (acc ++ [t])
      | c :: r' => if c = 44 then listM n (c :: r') (acc ++ [t]) else none
def outL (o : Option (List (Bool × Bs))) : List TagB × Bool × Int := match o with
  | some (t :: ts) => ((t :: ts).map toT, false, 0)
  | _ => ([], false, 2)
theorem list_loop (K : Nat) : ∀ (n m : Nat) (s : Bs) (acc : List (Bool × Bs)), s.length < n → n ≤ m → s.length + acc.length ≤ 1000000 → s.length + 1 < K → iter (etag_List.l1b K) m (B s, acc.map toT) = some (outL (listM n s acc)) := by
  intro n
  induction n with
  | zero => intro m s acc h; omega
  | succ n ih =>
    intro m s acc hs hm hl hK
    obtain ⟨m', rfl⟩ : ∃ m', m = m' + 1 := ⟨m - 1, by omega⟩
    show etag_List.l1b K (iter (etag_List.l1b K) m') (B s, acc.map toT) = _
    have hd := dw_le (p := sepB) s
    simp only [etag_List.l1b]
    rw [trimLeft_sep, bindO_some, show (⟨#[]⟩ : ByteArray) = B [] from rfl, B_eq, ifO_dec]
    unfold listM
    by_cases h0 : s.dropWhile sepB = []
    · rw [if_pos h0, if_pos h0, lenL_nat, List.length_map, eqI_dec, ifO_dec]
      cases acc with
      | nil => rfl
      | cons t ts => rw [if_neg (by simp only [List.length_cons]; omega)]; rfl
    · rw [if_neg h0, if_neg h0, take_is _ (by omega) K (by omega), bindO_some]
      cases ht : tagM (s.dropWhile sepB) with
      | none => simp only [bindO_some, notB, Bool.not_false, ifO_true, etag_List.j5]; rw [show x_TrimLeft.f K (B [], (⟨#[32, 9]⟩ : ByteArray)) = _ from trimLeft_bl [] K, bindO_some]; rfl
      | some p =>
        obtain ⟨t, r⟩ := p
        obtain ⟨h1, h2, _⟩ := tagM_lt ht
        have hd2 := dw_le (p := blB) r
        have cat : catL (acc.map toT) ((t.1, B t.2) :: ([] : List (Bool × ByteArray))) = (acc ++ [t]).map toT := by unfold catL toT; simp
        show bindO (x_TrimLeft.f K (B r, (⟨#[32, 9]⟩ : ByteArray))) (fun y4 => ifO (notB true) (etag_List.j5 K (iter (etag_List.l1b K) m') (acc.map toT, (y4, (true, (t.1, B t.2))))) (ifO (notB (eqS y4 (B []))) (ifO (inB 0 (lenS y4)) (etag_List.j5 K (iter (etag_List.l1b K) m') (acc.map toT, (y4, ((neI (btI y4 0) 44), (t.1, B t.2))))) none) (etag_List.j5 K (iter (etag_List.l1b K) m') (acc.map toT, (y4, (false, (t.1, B t.2))))))) = _
        rw [trimLeft_bl, bindO_some, show notB true = false from rfl, ifO_false, B_eq]
        dsimp only
        cases hr : r.dropWhile blB with
        | nil =>
          rw [decide_eq_true rfl, show notB true = false from rfl, ifO_false]
          unfold etag_List.j5
          dsimp only
          rw [ifO_false, lenL_nat, List.length_map, show ∀ x : TagB, lenL (x :: ([] : List TagB)) = ((1 : Nat) : Int) from fun _ => rfl, fitsL_yes (n := acc.length) (m := 1) (by omega) (by omega), ifO_true, cat]
          exact ih m' [] (acc ++ [t]) (by simp only [List.length_nil]; omega) (by omega) (by simp only [List.length_append, List.length_cons, List.length_nil]; omega) (by simp only [List.length_nil]; omega)
        | cons c r' =>
          rw [hr] at hd2
          rw [decide_eq_false (by simp), show notB false = true from rfl, ifO_true, B_len, show inB 0 ((c :: r').length : Int) = true from inB_yes (i := 0) (Nat.succ_pos _), ifO_true, show btI (B (c :: r')) 0 = (c.toNat : Int) from B_bt (c :: r') 0, show (44 : Int) = ((44 : UInt8).toNat : Int) from rfl, ne_byte]
          unfold etag_List.j5
          dsimp only
          rw [ifO_dec]
          by_cases hc : c = 44
          · rw [if_neg (by simpa using hc)]
            rw [if_pos hc, lenL_nat, List.length_map, show ∀ x : TagB, lenL (x :: ([] : List TagB)) = ((1 : Nat) : Int) from fun _ => rfl, fitsL_yes (n := acc.length) (m := 1) (by omega) (by omega), ifO_true, cat]
            exact ih m' (c :: r') (acc ++ [t]) (by omega) (by omega) (by simp only [List.length_append, List.length_cons, List.length_nil] at hd2 ⊢; omega) (by omega)
          · rw [if_pos (by simpa using hc)]
            rw [if_neg hc]; rfl
theorem list_is (l : Bs) (hl : l.length ≤ 100000) (k : Nat) (hk : l.length + 2 < k) : etag_List.f k (B l) = some (if trB l = [42] then ([], true, 0) else outL (listM (l.length + 1) (trB l) [])) := by
  have := trB_le l
  unfold etag_List.f
  rw [trim_bl l (by omega), bindO_some, show (⟨#[42]⟩ : ByteArray) = B [42] from rfl, B_eq, ifO_dec]
  by_cases h : trB l = [42]
  · rw [if_pos h, if_pos h]
  · rw [if_neg h, if_neg h]
    exact list_loop k (l.length + 1) k (trB l) [] (by omega) (by omega) (by simp only [List.length_nil]; omega) (by omega)
end Go.Proofs.YtkjjegjafpefcaaDoor.R
