/- Tags: what the document's functions tell. -/
import Derived.Test.YtkjjegjafpefcaaDoorPTag
namespace Go.Proofs.YtkjjegjafpefcaaDoor.R
open Go Go.RowKit
set_option linter.unusedSimpArgs false
set_option linter.unusedVariables false
theorem r12inside (c : UInt8) (k : Nat) : ref12_inside.f k (c.toNat : Int) = some (inT c) := by
  unfold ref12_inside.f inT
  rw [show leI 33 (c.toNat : Int) = decide (33 ≤ c.toNat) from leI_nat 33 _, show neI (c.toNat : Int) 34 = decide (c.toNat ≠ 34) from by rw [neI_dec, decide_eq_decide]; omega, show neI (c.toNat : Int) 127 = decide (c.toNat ≠ 127) from by rw [neI_dec, decide_eq_decide]; omega]
  by_cases h1 : 33 ≤ c.toNat
  · rw [decide_eq_true h1, ifO_true]
    by_cases h2 : c.toNat ≠ 34
    · rw [decide_eq_true h2, ifO_true]; rfl
    · rw [decide_eq_false h2, ifO_false]; rfl
  · rw [decide_eq_false h1, ifO_false]; rfl
/-- What the document takes from i on: the text of the tag began at at. -/
def takeR (l : Bs) (wk : Bool) (a i : Nat) : TagB × Int × Bool := match cutAt 34 (l.drop i) with
  | some (x, y) => if x.all inT = true then ((wk, B ((l.take (i + x.length)).drop a)), ((i + x.length + 1 : Nat) : Int), true) else ((false, B []), 0, false)
  | none => ((false, B []), 0, false)
theorem r12take_loop (l : Bs) (hl : l.length ≤ 1000000) (at0 : Nat) (ha : at0 < l.length) (b1 wk : Bool) (s1 s2 : ByteArray) (K : Nat) (hK : l.length + 2 < K) : ref12_Take.l2 K (B l, ((at0 : Int), (((at0 + 1 : Nat) : Int), (b1, (s1, (wk, s2)))))) = some (takeR l wk (at0 + 1) (at0 + 1)) := by
  unfold ref12_Take.l2
  refine iter_eq (f := ref12_Take.l2b K) (fun v => ∃ i, at0 + 1 ≤ i ∧ i ≤ l.length ∧ v = (B l, ((at0 : Int), ((i : Int), (b1, (s1, (wk, s2))))))) (fun v => l.length - v.2.2.1.toNat) (fun v => some (takeR l wk (at0 + 1) v.2.2.1.toNat)) ?_ K _ ⟨at0 + 1, Nat.le_refl _, by omega, rfl⟩ (by simp only [Int.toNat_natCast]; omega)
  rintro r v ⟨i, hi0, hi, rfl⟩ ih
  unfold ref12_Take.l2b
  dsimp only
  rw [B_len, ltI_nat, ifO_dec, Int.toNat_natCast]
  by_cases h : i < l.length
  · rw [if_pos h, inB_yes h, ifO_true, ifO_true, B_at h, show (34 : Int) = ((34 : UInt8).toNat : Int) from rfl, eq_byte, ifO_dec, r12inside, bindO_some]
    unfold takeR
    rw [cutAt_step l i h 34]
    by_cases h34 : l[i] = 34
    · rw [if_pos h34, if_pos h34, show addI .i64 (at0 : Int) 1 = ((at0 + 1 : Nat) : Int) from next64 (by omega), boundB_yes hi, boundB_yes hi0, show andB true true = true from rfl, ifO_true, B_cut, next64 (by omega)]
      rfl
    · rw [if_neg h34, if_neg h34]
      have hr := ih (B l, ((at0 : Int), (((i + 1 : Nat) : Int), (b1, (s1, (wk, s2)))))) ⟨i + 1, by omega, h, rfl⟩ (by simp only [Int.toNat_natCast]; omega)
      simp only [Int.toNat_natCast] at hr
      unfold takeR at hr
      cases hin : inT l[i] with
      | false =>
        rw [show notB false = true from rfl, ifO_true]
        cases hc : cutAt 34 (l.drop (i + 1)) with
        | none => rfl
        | some p =>
          obtain ⟨x, y⟩ := p
          simp only [Option.map_some, List.all_cons, hin, Bool.false_and, Bool.false_eq_true, if_false]
          rfl
      | true =>
        rw [show notB true = false from rfl, ifO_false, next64 (by omega), hr]
        cases hc : cutAt 34 (l.drop (i + 1)) with
        | none => rfl
        | some p =>
          obtain ⟨x, y⟩ := p
          simp only [Option.map_some, List.all_cons, hin, Bool.true_and, List.length_cons]
          rw [show i + 1 + x.length = i + (x.length + 1) by omega]
  · rw [if_neg h]
    unfold takeR
    rw [drop_nil.2 (by omega)]
    rfl
theorem r12j1 (l : Bs) (hl : l.length ≤ 1000000) (at0 : Nat) (wk : Bool) (s1 s2 : ByteArray) (K : Nat) (hK : l.length + 2 < K) : ref12_Take.j1 K (B l, ((at0 : Int), (s1, (wk, s2)))) = some (if (pre [34] (l.drop at0)).2 = true then takeR l wk (at0 + 1) (at0 + 1) else ((false, B []), 0, false)) := by
  unfold ref12_Take.j1
  dsimp only
  rw [B_len, leI_nat, ifO_dec]
  by_cases h : l.length ≤ at0
  · rw [if_pos h, if_neg (by unfold pre; rw [drop_nil.2 h, if_neg (by simp)]; simp)]
    rfl
  · have h' : at0 < l.length := by omega
    rw [if_neg h, inB_yes h', ifO_true, B_at h', show (34 : Int) = ((34 : UInt8).toNat : Int) from rfl, ne_byte, ifO_dec]
    by_cases h34 : l[at0] = 34
    · rw [if_neg (by simpa using h34), if_pos (by unfold pre; rw [drop_one h', if_pos (by simp [h34])]), next64 (by omega)]
      exact r12take_loop l hl at0 h' false wk s1 s2 K hK
    · rw [if_pos (by simpa using h34), if_neg (by unfold pre; rw [drop_one h', if_neg (fun e : ([34] : Bs) = (l[at0] :: l.drop (at0 + 1)).take ([34] : Bs).length => h34 (List.cons.inj e).1.symm)]; simp)]
      rfl
def outT (l : Bs) : Option ((Bool × Bs) × Bs) → TagB × Int × Bool
  | some (t, b) => (toT t, ((l.length - b.length : Nat) : Int), true)
  | none => ((false, B []), 0, false)
theorem pre1_drop {m : Bs} (h : (pre [34] m).2 = true) : (pre [34] m).1 = m.drop 1 := by
  unfold pre at h ⊢
  split at h
  · rename_i he; rw [if_pos he]; rfl
  · cases h
theorem r12take (l : Bs) (hl : l.length ≤ 1000000) (K : Nat) (hK : l.length + 2 < K) : ref12_Take.f K (B l) = some (outT l (tagM l)) := by
  have J : ∀ (at0 : Nat) (wk : Bool) (s1 s2 : ByteArray), l.drop at0 = (pre [87, 47] l).1 → wk = (pre [87, 47] l).2 → ref12_Take.j1 K (B l, ((at0 : Int), (s1, (wk, s2)))) = some (outT l (tagM l)) := by
    intro at0 wk s1 s2 h hw
    rw [r12j1 l hl at0 wk s1 s2 K hK, h]
    unfold tagM
    by_cases hp : (pre [34] (pre [87, 47] l).1).2 = true
    · rw [if_pos hp, if_pos hp]
      have e : (pre [34] (pre [87, 47] l).1).1 = l.drop (at0 + 1) := by rw [pre1_drop hp, ← h, List.drop_drop]
      unfold takeR
      rw [e]
      cases hc : cutAt 34 (l.drop (at0 + 1)) with
      | none => rfl
      | some p =>
        obtain ⟨x, y⟩ := p
        dsimp only
        have e2 := (cutAt_some hc).1
        have e3 := congrArg List.length e2
        rw [List.length_drop, List.length_append, List.length_cons] at e3
        by_cases hx : x.all inT = true
        · rw [if_pos hx, if_pos hx]
          have e4 : (l.take (at0 + 1 + x.length)).drop (at0 + 1) = x := by
            rw [List.drop_take, show at0 + 1 + x.length - (at0 + 1) = x.length by omega, e2, List.take_left]
          rw [e4, hw]
          unfold outT toT
          dsimp only
          rw [show at0 + 1 + x.length + 1 = l.length - y.length by omega]
        · rw [if_neg hx, if_neg hx]; rfl
    · rw [if_neg hp, if_neg hp]; rfl
  have j0t : ∀ (s1 s2 : ByteArray), pre [87, 47] l = (l.drop 2, true) → ref12_Take.j0 K (B l, (0, (true, (s1, s2)))) = some (outT l (tagM l)) := by
    intro s1 s2 h
    unfold ref12_Take.j0
    dsimp only
    rw [ifO_true]
    exact J 2 true s1 s2 (by rw [h]) (by rw [h])
  have j0f : ∀ (s1 s2 : ByteArray), pre [87, 47] l = (l, false) → ref12_Take.j0 K (B l, (0, (false, (s1, s2)))) = some (outT l (tagM l)) := by
    intro s1 s2 h
    unfold ref12_Take.j0
    dsimp only
    rw [ifO_false]
    exact J 0 false s1 s2 (by rw [h]; rfl) (by rw [h])
  unfold ref12_Take.f
  rw [B_len, show leI 2 (l.length : Int) = decide (2 ≤ l.length) from leI_nat 2 _, ifO_dec]
  by_cases h2 : 2 ≤ l.length
  · rw [if_pos h2, show inB 0 (l.length : Int) = true from inB_yes (i := 0) (by omega), ifO_true, show inB 1 (l.length : Int) = true from inB_yes (i := 1) (by omega), ifO_true, show btI (B l) 0 = (l[0].toNat : Int) from B_at (i := 0) (by omega), show btI (B l) 1 = (l[1].toNat : Int) from B_at (i := 1) (by omega), show (87 : Int) = ((87 : UInt8).toNat : Int) from rfl, show (47 : Int) = ((47 : UInt8).toNat : Int) from rfl, eq_byte, eq_byte, ifO_dec]
    have ht : l.take 2 = [l[0], l[1]] := by
      match l, h2 with
      | a :: b :: r, _ => rfl
    by_cases h0 : l[0] = 87
    · rw [if_pos h0]
      by_cases h1 : l[1] = 47
      · rw [decide_eq_true h1]
        exact j0t _ _ (by unfold pre; rw [if_pos (by rw [show ([87, 47] : Bs).length = 2 from rfl, ht, h0, h1])]; rfl)
      · rw [decide_eq_false h1]
        exact j0f _ _ (by unfold pre; rw [if_neg (by rw [show ([87, 47] : Bs).length = 2 from rfl, ht]; intro e; simp at e; exact h1 e.2.symm)])
    · rw [if_neg h0]
      exact j0f _ _ (by unfold pre; rw [if_neg (by rw [show ([87, 47] : Bs).length = 2 from rfl, ht]; intro e; simp at e; exact h0 e.1.symm)])
  · rw [if_neg h2]
    exact j0f _ _ (by unfold pre; rw [if_neg (by intro e; have := congrArg List.length e; rw [List.length_take] at this; simp only [List.length_cons, List.length_nil] at this; omega)])
theorem r12parse (l : Bs) (hl : l.length ≤ 1000000) (k : Nat) (hk : l.length + 2 < k) : ref12_Parse.f k (B l) = some (match tagM l with
    | some (t, []) => ((t.1, B t.2), 0)
    | _ => ((false, B []), 2)) := by
  unfold ref12_Parse.f
  rw [r12take l hl k hk, bindO_some, B_len, B_nil]
  cases ht : tagM l with
  | none => rfl
  | some p =>
    obtain ⟨t, r⟩ := p
    have hlt := (tagM_lt ht).1
    unfold outT
    dsimp only
    rw [show notB true = false from rfl, ifO_false, neI_dec, ifO_dec]
    cases r with
    | nil => rw [if_neg (by simp)]; rfl
    | cons c r => rw [if_pos (by simp only [List.length_cons] at hlt ⊢; omega)]
theorem r12print (t : Bool × Bs) (hl : t.2.length ≤ 1000000) (k : Nat) (hk : t.2.length + 1 < k) : ref12_Print.f k (t.1, B t.2) = some (if t.2.all inT = true then (B (pT t), 0) else (B [], 2)) := by
  obtain ⟨wk, a⟩ := t
  unfold ref12_Print.f ref12_Print.l0
  have H := iter_eq (f := ref12_Print.l0b k) (fun v => ∃ i, i ≤ a.length ∧ v = ((i : Int), (wk, B a))) (fun v => a.length - v.1.toNat) (fun v => some (if (a.drop v.1.toNat).all inT = true then (B (pT (wk, a)), 0) else (B [], 2))) ?_ k (0, (wk, B a)) ⟨0, by omega, rfl⟩ (by simp only [Int.toNat_zero]; simp only at hk; omega)
  · exact H
  · rintro r v ⟨i, hi, rfl⟩ ih
    unfold ref12_Print.l0b
    dsimp only at hl hk ⊢
    rw [B_len, ltI_nat, ifO_dec, Int.toNat_natCast]
    by_cases h : i < a.length
    · rw [if_pos h, inB_yes h, ifO_true, B_at h, r12inside, bindO_some, drop_one h, List.all_cons]
      cases hin : inT a[i] with
      | false => rw [show notB false = true from rfl, ifO_true]; rfl
      | true =>
        rw [show notB true = false from rfl, ifO_false, next64 (by omega)]
        have hr := ih ((((i + 1 : Nat) : Int), (wk, B a))) ⟨i + 1, h, rfl⟩ (by simp only [Int.toNat_natCast]; omega)
        simpa only [Int.toNat_natCast, Bool.true_and] using hr
    · rw [if_neg h, drop_nil.2 (by omega), List.all_nil, if_pos rfl]
      unfold pT
      cases wk with
      | false =>
        rw [ifO_false, show (⟨#[34]⟩ : ByteArray) = B [34] from rfl, B_fits, decide_eq_true (by simp only [List.length_cons, List.length_nil]; omega), ifO_true, B_cat, B_fits, decide_eq_true (by simp only [List.length_cons, List.length_nil, List.length_append]; omega), ifO_true, B_cat]
        rfl
      | true =>
        rw [ifO_true, show (⟨#[87, 47, 34]⟩ : ByteArray) = B [87, 47, 34] from rfl, show (⟨#[34]⟩ : ByteArray) = B [34] from rfl, B_fits, decide_eq_true (by simp only [List.length_cons, List.length_nil]; omega), ifO_true, B_cat, B_fits, decide_eq_true (by simp only [List.length_cons, List.length_nil, List.length_append]; omega), ifO_true, B_cat]
        rfl
theorem r12like_weak (x y : TagB) (k : Nat) : ref12_Like.f k ((x.1, x.2), ((y.1, y.2), false)) = some (eqS x.2 y.2) := by
  unfold ref12_Like.f
  dsimp only
  cases eqS x.2 y.2 <;> rfl
theorem r12like_strong (x y : TagB) (k : Nat) : ref12_Like.f k ((x.1, x.2), ((y.1, y.2), true)) = some (eqS x.2 y.2 && (notB x.1 && notB y.1)) := by
  unfold ref12_Like.f
  dsimp only
  cases eqS x.2 y.2 <;> cases x.1 <;> cases y.1 <;> rfl
/-! ### lists: the document's -/
theorem bl_sep' {c : UInt8} (h : blB c = true) : sepB c = true := by
  unfold blB at h; unfold sepB
  rw [Bool.or_eq_true] at h
  rcases h with h | h <;> simp [h]
theorem pre_suffix (p l : Bs) : ∃ q, l = q ++ (pre p l).1 := by
  unfold pre
  split
  · exact ⟨l.take p.length, (List.take_append_drop _ _).symm⟩
  · exact ⟨[], rfl⟩
theorem tagM_suffix {l : Bs} {t : Bool × Bs} {b : Bs} (h : tagM l = some (t, b)) : ∃ q, l = q ++ b := by
  unfold tagM at h
  split at h
  · split at h
    · rename_i x y hc
      split at h
      · cases h
        obtain ⟨q1, h1⟩ := pre_suffix [87, 47] l
        obtain ⟨q2, h2⟩ := pre_suffix [34] (pre [87, 47] l).1
        have h3 := (cutAt_some hc).1
        exact ⟨q1 ++ (q2 ++ (x ++ [34])), by rw [h1]; conv => lhs; rw [h2, h3]
                                             simp⟩
      · cases h
    · cases h
  · cases h
theorem bl_is (c : UInt8) : blB c = (decide (c = 32) || decide (c = 9)) := by unfold blB; rw [Bool.eq_iff_iff]; simp
/-- What the document finds from a place on, where no star may stand. -/
def scanL (n : Nat) (s : Bs) (acc : List (Bool × Bs)) (sep : Bool) : List TagB × Bool × Int :=
  if sep = true then outL (listM n s acc) else match s.dropWhile blB with
    | [] => outL (listM n [] acc)
    | c :: r => if c = 44 then outL (listM n (c :: r) acc) else ([], false, 2)
theorem listM_more : ∀ (n m : Nat) (s : Bs) (acc : List (Bool × Bs)), s.length < n → s.length < m → listM n s acc = listM m s acc := by
  intro n
  induction n with
  | zero => intro m s acc h; omega
  | succ n ih =>
    intro m s acc h1 h2
    obtain ⟨m, rfl⟩ : ∃ j, m = j + 1 := ⟨m - 1, by omega⟩
    have hd := dw_le (p := sepB) s
    simp only [listM]
    by_cases h0 : s.dropWhile sepB = []
    · rw [if_pos h0, if_pos h0]
    · rw [if_neg h0, if_neg h0]
      cases ht : tagM (s.dropWhile sepB) with
      | none => rfl
      | some p =>
        obtain ⟨t, r⟩ := p
        obtain ⟨g1, _⟩ := tagM_lt ht
        have hd2 := dw_le (p := blB) r
        dsimp only
        cases hr : r.dropWhile blB with
        | nil => exact ih m [] _ (by simp only [List.length_nil]; omega) (by simp only [List.length_nil]; omega)
        | cons c q =>
          dsimp only
          rw [hr] at hd2
          split
          · exact ih m (c :: q) _ (by omega) (by omega)
          · rfl
theorem sep_step (c : UInt8) (s : Bs) (n : Nat) (acc : List (Bool × Bs)) (h : sepB c = true) : listM n (c :: s) acc = listM n s acc := by
  cases n with
  | zero => rfl
  | succ n => simp only [listM, List.dropWhile_cons, h, if_true]
theorem r12blanks (l : Bs) (hl : l.length ≤ 1000000) (k : Nat) (hk : l.length + 1 < k) : ref12_blanks.f k (B l) = some ((l.takeWhile blB).length : Int) := by
  unfold ref12_blanks.f ref12_blanks.l0
  have H := iter_eq (f := ref12_blanks.l0b k) (fun v => ∃ i, i ≤ l.length ∧ v = (B l, (i : Int))) (fun v => l.length - v.2.toNat) (fun v => some (v.2 + ((l.drop v.2.toNat).takeWhile blB).length)) ?_ k (B l, 0) ⟨0, by omega, rfl⟩ (by simp only [Int.toNat_zero]; omega)
  · rw [H]; simp
  · rintro r v ⟨i, hi, rfl⟩ ih
    unfold ref12_blanks.l0b
    dsimp only
    rw [B_len, ltI_nat, ifO_dec, Int.toNat_natCast]
    by_cases h : i < l.length
    · have hr := ih (B l, ((i + 1 : Nat) : Int)) ⟨i + 1, h, rfl⟩ (by simp only [Int.toNat_natCast]; omega)
      simp only [Int.toNat_natCast] at hr
      rw [if_pos h, inB_yes h, ifO_true, ifO_true, B_at h, show (32 : Int) = ((32 : UInt8).toNat : Int) from rfl, show (9 : Int) = ((9 : UInt8).toNat : Int) from rfl, eq_byte, eq_byte, drop_one h, List.takeWhile_cons, ifO_dec]
      unfold ref12_blanks.j1
      dsimp only
      rw [ifO_true, next64 (by omega), ifO_dec, hr]
      by_cases h1 : l[i] = 32
      · rw [if_pos h1, show blB l[i] = true by rw [bl_is, decide_eq_true h1]; rfl, if_pos rfl, List.length_cons]
        exact congrArg some (show (_ : Int) = (_ : Int) by push_cast; omega)
      · rw [if_neg h1]
        by_cases h2 : l[i] = 9
        · rw [if_pos h2, show blB l[i] = true by rw [bl_is, decide_eq_true h2]; simp, if_pos rfl, List.length_cons]
          exact congrArg some (show (_ : Int) = (_ : Int) by push_cast; omega)
        · rw [if_neg h2, show blB l[i] = false by rw [bl_is, decide_eq_false h1, decide_eq_false h2]; rfl, if_neg (by decide)]
          simp
    · rw [if_neg h, drop_nil.2 (by omega)]
      unfold ref12_blanks.j1
      dsimp only
      rw [ifO_false]
      simp
theorem r12list_loop (l : Bs) (hl : l.length ≤ 100000) (hs : l[(l.takeWhile blB).length]? ≠ some 42) (K : Nat) (hK : 1000010 ≤ K) (st0 : Unit) : ∀ (n m at0 : Nat) (acc : List (Bool × Bs)) (sep : Bool), at0 ≤ l.length → l.length - at0 < n → n ≤ m → acc.length ≤ at0 →
    iter (ref12_List.l0b K) m (B l, (acc.map toT, ((at0 : Int), (false, sep)))) = some (scanL n (l.drop at0) acc sep) := by
  intro n
  induction n with
  | zero => intro m at0 acc sep h1 h2; omega
  | succ n ih =>
    intro m at0 acc sep h1 h2 hm hacc
    obtain ⟨m, rfl⟩ : ∃ j, m = j + 1 := ⟨m - 1, by omega⟩
    have ih' := fun at1 acc sep (g1 : at0 < at1) (g2 : at1 ≤ l.length) (g3 : acc.length ≤ at1) => ih m at1 acc sep g2 (by omega) (by omega) g3
    show ref12_List.l0b K (iter (ref12_List.l0b K) m) _ = _
    generalize iter (ref12_List.l0b K) m = r at *
    have up : ∀ (s : Bs) (acc : List (Bool × Bs)), s.length < n → listM (n + 1) s acc = listM n s acc := fun s acc h => listM_more _ _ _ _ (by omega) h
    unfold ref12_List.l0b
    dsimp only
    rw [B_len, ltI_nat, ifO_dec]
    by_cases h : at0 < l.length
    · rw [if_pos h, inB_yes h, ifO_true, B_at h, show (32 : Int) = ((32 : UInt8).toNat : Int) from rfl, show (9 : Int) = ((9 : UInt8).toNat : Int) from rfl, show (44 : Int) = ((44 : UInt8).toNat : Int) from rfl, show (42 : Int) = ((42 : UInt8).toNat : Int) from rfl, eq_byte, eq_byte, eq_byte, eq_byte, next64 (by omega)]
      have hlen : (l.drop (at0 + 1)).length < n := by rw [List.length_drop]; omega
      have blank : blB l[at0] = true → scanL n (l.drop (at0 + 1)) acc sep = scanL (n + 1) (l.drop at0) acc sep := by
        intro hb
        rw [drop_one h]
        unfold scanL
        by_cases hse : sep = true
        · rw [if_pos hse, if_pos hse, sep_step _ _ _ _ (bl_sep' hb), up _ _ hlen]
        · rw [if_neg hse, if_neg hse, List.dropWhile_cons, if_pos hb]
          have hd := dw_le (p := blB) (l.drop (at0 + 1))
          cases hr : (l.drop (at0 + 1)).dropWhile blB with
          | nil => dsimp only; rw [up _ _ (by simp only [List.length_nil]; omega)]
          | cons c q =>
            rw [hr] at hd
            dsimp only
            rw [up _ _ (by omega)]
      by_cases c1 : l[at0] = 32
      · rw [decide_eq_true c1, ifO_true, ih' (at0 + 1) acc sep (by omega) h (by omega), blank (by rw [bl_is, decide_eq_true c1]; rfl)]
      · rw [decide_eq_false c1, ifO_false]
        by_cases c2 : l[at0] = 9
        · rw [decide_eq_true c2, ifO_true, ih' (at0 + 1) acc sep (by omega) h (by omega), blank (by rw [bl_is, decide_eq_true c2]; simp)]
        · have hnb : blB l[at0] = false := by rw [bl_is, decide_eq_false c1, decide_eq_false c2]; rfl
          have e2 : (l[at0] :: l.drop (at0 + 1)).dropWhile blB = l[at0] :: l.drop (at0 + 1) := by rw [List.dropWhile_cons, hnb]; rfl
          rw [decide_eq_false c2, ifO_false, ifO_false]
          by_cases c3 : l[at0] = 44
          · rw [decide_eq_true c3, ifO_true, ih' (at0 + 1) acc true (by omega) h (by omega), drop_one h]
            have hse : sepB l[at0] = true := by rw [c3]; rfl
            unfold scanL
            rw [if_pos rfl, e2]
            dsimp only
            rw [sep_step _ _ _ _ hse, up _ _ hlen, if_pos c3]
            split <;> rfl
          · rw [decide_eq_false c3, ifO_false]
            have hsp : sepB l[at0] = false := by unfold sepB; simp [c1, c2, c3]
            have j2 : ref12_List.j2 K r (B l, (acc.map toT, ((at0 : Int), (false, (sep, false))))) = some (scanL (n + 1) (l.drop at0) acc sep) := by
              unfold ref12_List.j2
              dsimp only
              rw [ifO_false, B_len, boundB_yes (Nat.le_refl _), boundB_yes h1, show andB true true = true from rfl, ifO_true, B_cut, List.take_length, r12take _ (by rw [List.length_drop]; omega) K (by rw [List.length_drop]; omega), bindO_some]
              unfold scanL
              have e3 : (l[at0] :: l.drop (at0 + 1)).dropWhile sepB = l[at0] :: l.drop (at0 + 1) := by rw [List.dropWhile_cons, hsp]; rfl
              rw [drop_one h, e2]
              simp only [listM]
              rw [e3, if_neg (List.cons_ne_nil _ _)]
              cases ht : tagM (l[at0] :: l.drop (at0 + 1)) with
              | none =>
                unfold outT
                dsimp only
                rw [show notB false = true from rfl, ifO_true]
                cases sep
                · rw [if_neg (by decide), if_neg c3]
                · rw [if_pos rfl]; rfl
              | some p =>
                obtain ⟨t, b⟩ := p
                obtain ⟨g1, g2, g3⟩ := tagM_lt ht
                rw [List.length_cons, List.length_drop] at g1
                unfold outT
                dsimp only
                rw [show notB true = false from rfl, ifO_false]
                cases sep with
                | false => rw [show notB false = true from rfl, ifO_true, if_neg (by decide), if_neg c3]
                | true =>
                  have cat : catL (acc.map toT) (((toT t).1, (toT t).2) :: ([] : List (Bool × ByteArray))) = (acc ++ [t]).map toT := by unfold catL toT; simp
                  rw [show notB true = false from rfl, ifO_false, if_pos rfl, lenL_nat, List.length_map, show ∀ x : TagB, lenL (x :: ([] : List TagB)) = ((1 : Nat) : Int) from fun _ => rfl, fitsL_yes (n := acc.length) (m := 1) (by omega) (by omega), ifO_true, cat]
                  rw [List.length_cons, List.length_drop, show l.length - (at0 + 1) + 1 - b.length = (l.length - b.length) - at0 by omega, add64 (by omega) (by omega), show (at0 : Int) + (((l.length - b.length) - at0 : Nat) : Int) = ((l.length - b.length : Nat) : Int) by omega]
                  rw [ih' (l.length - b.length) (acc ++ [t]) false (by omega) (by omega) (by simp only [List.length_append, List.length_cons, List.length_nil]; omega)]
                  have hb : l.drop (l.length - b.length) = b := by
                    obtain ⟨q, hq⟩ := tagM_suffix ht
                    have : l.drop at0 = q ++ b := by rw [drop_one h]; exact hq
                    have e2 := congrArg List.length this
                    rw [List.length_drop, List.length_append] at e2
                    rw [show l.length - b.length = at0 + q.length by omega, ← List.drop_drop, this, List.drop_left]
                  rw [hb]
                  unfold scanL
                  rw [if_neg (by decide)]
                  cases hr : b.dropWhile blB with
                  | nil => rfl
                  | cons c q =>
                    dsimp only
                    by_cases hc : c = 44
                    · rw [if_pos hc, if_pos hc]
                    · rw [if_neg hc, if_neg hc]; rfl
            by_cases c4 : l[at0] = 42
            · rw [decide_eq_true c4, ifO_true, r12blanks l (by omega) K (by omega), bindO_some]
              have hne : at0 ≠ (l.takeWhile blB).length := by
                rintro rfl
                exact hs (by rw [List.getElem?_eq_getElem h, c4])
              rw [eqI_dec, eqI_dec, decide_eq_false (show ¬ (at0 : Int) = ((l.takeWhile blB).length : Int) by omega), ifO_dec]
              split
              · exact j2
              · exact j2
            · rw [decide_eq_false c4, ifO_false]
              exact j2
    · rw [if_neg h, ifO_false, lenL_nat, List.length_map, eqI_dec, ifO_dec, drop_nil.2 (by omega)]
      have e : scanL (n + 1) [] acc sep = outL (some acc) := by
        unfold scanL
        cases sep <;> rfl
      rw [e]
      cases acc with
      | nil => rfl
      | cons t ts => rw [if_neg (by simp only [List.length_cons]; omega)]; rfl
end Go.Proofs.YtkjjegjafpefcaaDoor.R
