/- Tags: the document's lists are the program's; so is whether a request holds a response. -/
import Derived.Test.YtkjjegjafpefcaaDoorPTag2
import Derived.Test.YtkjjegjafpefcaaDoorPRef5b
import Derived.Test.YtkjjegjafpefcaaDoorPTagB
namespace Go.Proofs.YtkjjegjafpefcaaDoor.R
open Go Go.RowKit
open Go.Proofs.YtkjjegjafpefcaaDoor.Pure (found)
set_option linter.unusedSimpArgs false
set_option linter.unusedVariables false
theorem dw_app {p : UInt8 → Bool} : ∀ a b : Bs, (a ++ b).dropWhile p = if a.dropWhile p = [] then b.dropWhile p else a.dropWhile p ++ b
  | [], b => rfl
  | c :: a, b => by
    rw [List.cons_append, List.dropWhile_cons, List.dropWhile_cons]
    by_cases h : p c = true
    · rw [if_pos h, if_pos h]; exact dw_app a b
    · rw [if_neg h, if_neg h, if_neg (by simp)]; rfl
theorem dw_nil {p : UInt8 → Bool} : ∀ q : Bs, (∀ c ∈ q, p c = true) → q.dropWhile p = []
  | [], _ => rfl
  | c :: q, h => by rw [List.dropWhile_cons, if_pos (h c (by simp))]; exact dw_nil q fun d hd => h d (by simp [hd])
theorem cutAt_app (c : UInt8) (q : Bs) (hq : ∀ d ∈ q, d ≠ c) : ∀ a : Bs, cutAt c (a ++ q) = (cutAt c a).map fun p => (p.1, p.2 ++ q)
  | [] => by rw [List.nil_append, cutAt_no c q hq]; rfl
  | d :: a => by
    show (if d = c then some ([], a ++ q) else (cutAt c (a ++ q)).map fun p => (d :: p.1, p.2)) = (if d = c then some ([], a) else (cutAt c a).map fun p => (d :: p.1, p.2)).map fun p => (p.1, p.2 ++ q)
    by_cases h : d = c
    · rw [if_pos h, if_pos h]; rfl
    · rw [if_neg h, if_neg h, cutAt_app c q hq a]
      cases cutAt c a <;> rfl
theorem pre_app (p q : Bs) (hp : ∀ c ∈ p, blB c = false) (hq : ∀ c ∈ q, blB c = true) (x : Bs) : pre p (x ++ q) = ((pre p x).1 ++ q, (pre p x).2) := by
  unfold pre
  by_cases h : p.length ≤ x.length
  · rw [List.take_append_of_le_length h, List.drop_append_of_le_length h]
    split <;> rfl
  · have h1 : ¬ p = x.take p.length := fun e => by have := congrArg List.length e; rw [List.length_take] at this; omega
    have h2 : ¬ p = (x ++ q).take p.length := fun e => by
      have hl := congrArg List.length e
      rw [List.length_take, List.length_append] at hl
      have hx : x.length < (x ++ q).length := by rw [List.length_append]; omega
      have g1 : (x ++ q)[x.length] = q[0]'(by rw [List.length_append] at hx; omega) := by rw [List.getElem_append_right (Nat.le_refl _)]; simp
      have g2 : p[x.length]'(by omega) = (x ++ q)[x.length] := by
        have : ∀ (m : Bs) (hm : m = (x ++ q).take p.length) (hi : x.length < m.length), m[x.length] = (x ++ q)[x.length] := by
          rintro m rfl hi
          rw [List.getElem_take]
        exact this p e (by omega)
      have b1 := hp _ (List.getElem_mem (l := p) (n := x.length) (by omega))
      rw [g2, g1] at b1
      have b2 := hq _ (List.getElem_mem (l := q) (n := 0) (by rw [List.length_append] at hx; omega))
      rw [b1] at b2; cases b2
    rw [if_neg h1, if_neg h2]
theorem bl_ne (c : UInt8) (h : blB c = true) : c ≠ 34 := by
  rintro rfl
  revert h
  decide
theorem tagM_app (q : Bs) (hq : ∀ c ∈ q, blB c = true) (x : Bs) : tagM (x ++ q) = (tagM x).map fun p => (p.1, p.2 ++ q) := by
  unfold tagM
  rw [pre_app [87, 47] q (by decide) hq x]
  dsimp only
  rw [pre_app [34] q (by decide) hq]
  dsimp only
  by_cases h : (pre [34] (pre [87, 47] x).1).2 = true
  · rw [if_pos h, if_pos h, cutAt_app 34 q (fun d hd => bl_ne d (hq d hd))]
    cases cutAt 34 (pre [34] (pre [87, 47] x).1).1 with
    | none => rfl
    | some p =>
      dsimp only [Option.map_some]
      split <;> rfl
  · rw [if_neg h, if_neg h]; rfl
theorem listM_tail (q : Bs) (hq : ∀ c ∈ q, blB c = true) : ∀ (n : Nat) (s : Bs) (acc : List (Bool × Bs)), (s ++ q).length < n → listM n (s ++ q) acc = listM n s acc := by
  intro n
  induction n with
  | zero => intro s acc h; omega
  | succ n ih =>
    intro s acc hn
    have hq' : q.dropWhile sepB = [] := dw_nil q fun c hc => bl_sep' (hq c hc)
    simp only [listM]
    rw [dw_app, hq']
    have hd := dw_le (p := sepB) s
    rw [List.length_append] at hn
    by_cases h0 : s.dropWhile sepB = []
    · rw [if_pos h0, if_pos rfl, if_pos h0]
    · rw [if_neg h0, if_neg (by simp [h0]), if_neg h0, tagM_app q hq]
      cases ht : tagM (s.dropWhile sepB) with
      | none => rfl
      | some p =>
        obtain ⟨t, r⟩ := p
        obtain ⟨g1, _⟩ := tagM_lt ht
        have hd2 := dw_le (p := blB) r
        dsimp only [Option.map_some]
        rw [dw_app, dw_nil q hq]
        by_cases hr : r.dropWhile blB = []
        · rw [if_pos hr, hr]
        · rw [if_neg hr]
          cases hr2 : r.dropWhile blB with
          | nil => exact absurd hr2 hr
          | cons c u =>
            rw [hr2] at hd2
            rw [List.cons_append]
            dsimp only
            by_cases hc : c = 44
            · rw [if_pos hc, if_pos hc]
              have := ih (c :: u) (acc ++ [t]) (by rw [List.length_append]; omega)
              rwa [List.cons_append] at this
            · rw [if_neg hc, if_neg hc]
theorem listM_head (p : Bs) (hp : ∀ c ∈ p, blB c = true) (n : Nat) (s : Bs) (acc : List (Bool × Bs)) : listM n (p ++ s) acc = listM n s acc := by
  induction p with
  | nil => rfl
  | cons c p ih => rw [List.cons_append, sep_step _ _ _ _ (bl_sep' (hp c (by simp)))]; exact ih fun d hd => hp d (by simp [hd])
theorem tw_dw {p : UInt8 → Bool} : ∀ l : Bs, l = l.takeWhile p ++ l.dropWhile p
  | [] => rfl
  | c :: l => by
    rw [List.takeWhile_cons, List.dropWhile_cons]
    split
    · rw [List.cons_append]; congr 1; exact tw_dw l
    · rfl
theorem tw_all {p : UInt8 → Bool} : ∀ (l : Bs) c, c ∈ l.takeWhile p → p c = true
  | [], c, h => by cases h
  | d :: l, c, h => by
    rw [List.takeWhile_cons] at h
    split at h
    · rename_i hd
      rcases List.mem_cons.1 h with rfl | h
      · exact hd
      · exact tw_all l c h
    · cases h
/-- A text is its blanks ahead, what is left, and its blanks behind. -/
theorem trB_split (l : Bs) : ∃ p q, (∀ c ∈ p, blB c = true) ∧ (∀ c ∈ q, blB c = true) ∧ l = p ++ (trB l ++ q) := by
  have h1 := tw_dw (p := blB) l.reverse
  have h2 := congrArg List.reverse h1
  rw [List.reverse_reverse, List.reverse_append] at h2
  have h3 := tw_dw (p := blB) (l.reverse.dropWhile blB).reverse
  refine ⟨(l.reverse.dropWhile blB).reverse.takeWhile blB, (l.reverse.takeWhile blB).reverse, fun c hc => tw_all _ c hc, fun c hc => tw_all _ c (List.mem_reverse.1 hc), ?_⟩
  unfold trB
  rw [← List.append_assoc, ← h3]
  exact h2
theorem listM_trB (l : Bs) (n : Nat) (h : l.length < n) : listM n l [] = listM n (trB l) [] := by
  obtain ⟨p, q, hp, hq, hl⟩ := trB_split l
  conv => lhs; rw [hl]
  have e := congrArg List.length hl
  rw [List.length_append, List.length_append] at e
  rw [listM_head p hp, listM_tail q hq n _ _ (by rw [List.length_append]; omega)]
theorem r12star (l : Bs) (hl : l.length ≤ 100000) (K : Nat) : ∀ (n m at0 : Nat) (sep : Bool), at0 ≤ l.length → l.length - at0 < n → n ≤ m →
    iter (ref12_List.l0b K) m (B l, (([] : List TagB), ((at0 : Int), (true, sep)))) = some (if (l.drop at0).all blB = true then ([], true, 0) else ([], false, 2)) := by
  intro n
  induction n with
  | zero => intro m at0 sep h1 h2; omega
  | succ n ih =>
    intro m at0 sep h1 h2 hm
    obtain ⟨m, rfl⟩ : ∃ j, m = j + 1 := ⟨m - 1, by omega⟩
    have ih' := fun (h : at0 < l.length) => ih m (at0 + 1) sep h (by omega) (by omega)
    show ref12_List.l0b K (iter (ref12_List.l0b K) m) _ = _
    generalize iter (ref12_List.l0b K) m = r at *
    unfold ref12_List.l0b
    dsimp only
    rw [B_len, ltI_nat, ifO_dec]
    by_cases h : at0 < l.length
    · rw [if_pos h, inB_yes h, ifO_true, B_at h, show (32 : Int) = ((32 : UInt8).toNat : Int) from rfl, show (9 : Int) = ((9 : UInt8).toNat : Int) from rfl, eq_byte, eq_byte, next64 (by omega), ih' h, drop_one h, List.all_cons, ifO_true, ifO_dec, ifO_dec]
      by_cases c1 : l[at0] = 32
      · rw [if_pos c1, show blB l[at0] = true by rw [bl_is, decide_eq_true c1]; rfl, Bool.true_and]
      · rw [if_neg c1]
        by_cases c2 : l[at0] = 9
        · rw [if_pos c2, show blB l[at0] = true by rw [bl_is, decide_eq_true c2]; simp, Bool.true_and]
        · rw [if_neg c2, show blB l[at0] = false by rw [bl_is, decide_eq_false c1, decide_eq_false c2]; rfl, Bool.false_and]
          rfl
    · rw [if_neg h, ifO_true, drop_nil.2 (by omega)]; rfl
theorem r12blank_loop (l : Bs) (hl : l.length ≤ 100000) (hs : l[(l.takeWhile blB).length]? = some 42) (K : Nat) (hK : 1000010 ≤ K) : ∀ (n m at0 : Nat), at0 ≤ (l.takeWhile blB).length → (l.takeWhile blB).length - at0 < n → n + l.length + 2 ≤ m →
    iter (ref12_List.l0b K) m (B l, (([] : List TagB), ((at0 : Int), (false, true)))) = some (if (l.drop ((l.takeWhile blB).length + 1)).all blB = true then ([], true, 0) else ([], false, 2)) := by
  have hnb : (l.takeWhile blB).length < l.length := (List.getElem?_eq_some_iff.1 hs).1
  have hc := (List.getElem?_eq_some_iff.1 hs).2
  intro n
  induction n with
  | zero => intro m at0 h1 h2; omega
  | succ n ih =>
    intro m at0 h1 h2 hm
    obtain ⟨m, rfl⟩ : ∃ j, m = j + 1 := ⟨m - 1, by omega⟩
    have ih' := fun (h : at0 < (l.takeWhile blB).length) => ih m (at0 + 1) h (by omega) (by omega)
    have hst := fun sep => r12star l hl K (l.length + 1) m (at0 + 1) sep
    show ref12_List.l0b K (iter (ref12_List.l0b K) m) _ = _
    generalize iter (ref12_List.l0b K) m = r at *
    have h : at0 < l.length := by omega
    unfold ref12_List.l0b
    dsimp only
    rw [B_len, ltI_nat, ifO_dec, if_pos h, inB_yes h, ifO_true, B_at h, show (32 : Int) = ((32 : UInt8).toNat : Int) from rfl, show (9 : Int) = ((9 : UInt8).toNat : Int) from rfl, show (44 : Int) = ((44 : UInt8).toNat : Int) from rfl, show (42 : Int) = ((42 : UInt8).toNat : Int) from rfl, eq_byte, eq_byte, eq_byte, eq_byte, next64 (by omega)]
    by_cases hlt : at0 < (l.takeWhile blB).length
    · have hb : blB l[at0] = true := by
        have e : l[at0] = (l.takeWhile blB)[at0] := by
          have : ∀ (x : Bs) (hx : x = l.takeWhile blB ++ l.dropWhile blB) (hi : at0 < x.length), x[at0] = (l.takeWhile blB)[at0] := by
            rintro x rfl hi
            rw [List.getElem_append_left hlt]
          exact this l (tw_dw l) h
        rw [e]
        exact tw_all l _ (List.getElem_mem hlt)
      rw [bl_is, Bool.or_eq_true, decide_eq_true_iff, decide_eq_true_iff] at hb
      rw [ih' hlt]
      rcases hb with hb | hb
      · rw [decide_eq_true hb, ifO_true]
      · rw [hb]; rfl
    · obtain rfl : at0 = (l.takeWhile blB).length := by omega
      rw [hc]
      rw [show decide ((42 : UInt8) = 32) = false from rfl, show decide ((42 : UInt8) = 9) = false from rfl, show decide ((42 : UInt8) = 44) = false from rfl, show decide ((42 : UInt8) = 42) = true from rfl]
      simp only [ifO_false, ifO_true]
      rw [show eqI (lenL ([] : List TagB)) 0 = true from rfl, ifO_true, r12blanks l (by omega) K (by omega), bindO_some, show eqI ((l.takeWhile blB).length : Int) ((l.takeWhile blB).length : Int) = true from by rw [eqI_dec]; simp]
      unfold ref12_List.j2
      dsimp only
      rw [ifO_true, next64 (by omega)]
      exact hst true hnb (by omega) (by omega)
theorem trB_star (l : Bs) (h : l[(l.takeWhile blB).length]? = some 42) : ∃ m, (l.drop ((l.takeWhile blB).length + 1)).all blB = decide (m = ([] : Bs)) ∧ trB l = 42 :: m := by
  have hlt := (List.getElem?_eq_some_iff.1 h).1
  have hc := (List.getElem?_eq_some_iff.1 h).2
  have hl : l = l.takeWhile blB ++ (42 :: l.drop ((l.takeWhile blB).length + 1)) := by
    have e := (List.take_append_drop (l.takeWhile blB).length l).symm
    rw [drop_one hlt, hc] at e
    have e2 : l.take (l.takeWhile blB).length = l.takeWhile blB := by
      have := List.take_left' (l₁ := l.takeWhile blB) (l₂ := l.dropWhile blB) (i := (l.takeWhile blB).length) rfl
      rwa [← tw_dw (p := blB) l] at this
    rw [e2] at e
    exact e
  generalize l.drop ((l.takeWhile blB).length + 1) = t at hl
  have hp := tw_all (p := blB) l
  generalize l.takeWhile blB = p at hl hp
  subst hl
  unfold trB
  rw [List.reverse_append, List.reverse_cons, dw_app, dw_app]
  have hn : ¬ (if t.reverse.dropWhile blB = [] then ([42] : Bs).dropWhile blB else t.reverse.dropWhile blB ++ [42]) = [] := by
    split
    · decide
    · simp
  rw [if_neg hn, List.reverse_append, List.reverse_reverse]
  have dwp : ∀ m : Bs, (p ++ 42 :: m).dropWhile blB = 42 :: m := by
    intro m
    rw [dw_app, dw_nil p hp, if_pos rfl]; rfl
  by_cases h0 : t.reverse.dropWhile blB = []
  · rw [if_pos h0, show (([42] : Bs).dropWhile blB).reverse = [42] from rfl]
    refine ⟨[], ?_, dwp []⟩
    rw [decide_eq_true rfl, List.all_eq_true]
    intro c hc
    have e := tw_dw (p := blB) t.reverse
    rw [h0, List.append_nil] at e
    exact tw_all t.reverse c (by rw [← e]; exact List.mem_reverse.2 hc)
  · rw [if_neg h0, List.reverse_append, List.reverse_singleton]
    refine ⟨(t.reverse.dropWhile blB).reverse, ?_, dwp _⟩
    rw [decide_eq_false (by simpa using h0), Bool.eq_false_iff]
    intro ha
    rw [List.all_eq_true] at ha
    exact h0 (dw_nil t.reverse fun c hc => ha c (List.mem_reverse.1 hc))
theorem r12list (l : Bs) (hl : l.length ≤ 100000) (k : Nat) (hk : 1000010 ≤ k) : ref12_List.f k (B l) = some (if trB l = [42] then ([], true, 0) else outL (listM (l.length + 1) (trB l) [])) := by
  unfold ref12_List.f ref12_List.l0
  by_cases hs : l[(l.takeWhile blB).length]? = some 42
  · have hnb : (l.takeWhile blB).length < l.length := (List.getElem?_eq_some_iff.1 hs).1
    obtain ⟨m, h1, h2⟩ := trB_star l hs
    have := r12blank_loop l hl hs k hk ((l.takeWhile blB).length + 1) k 0 (Nat.zero_le _) (by omega) (by omega)
    rw [show ((0 : Nat) : Int) = 0 from rfl] at this
    rw [this, h1, h2]
    by_cases hm : m = []
    · rw [if_pos (decide_eq_true hm), if_pos (by rw [hm])]
    · rw [if_neg (by simp [hm]), if_neg (by intro e; exact hm (List.cons.inj e).2)]
      simp only [listM]
      rw [show (42 :: m : Bs).dropWhile sepB = 42 :: m from rfl, if_neg (List.cons_ne_nil _ _)]
      have : tagM (42 :: m) = none := by
        have p1 : pre [87, 47] (42 :: m) = (42 :: m, false) := if_neg (fun e => absurd (List.cons.inj e).1 (by decide))
        have p2 : pre [34] (42 :: m) = (42 :: m, false) := if_neg (fun e => absurd (List.cons.inj e).1 (by decide))
        unfold tagM
        rw [p1, p2]
        rfl
      rw [this]
      rfl
  · have := r12list_loop l hl hs k hk () (l.length + 1) k 0 [] true (Nat.zero_le _) (by omega) (by omega) (Nat.le_refl _)
    rw [show ((0 : Nat) : Int) = 0 from rfl, show ([] : List (Bool × Bs)).map toT = ([] : List TagB) from rfl, List.drop_zero] at this
    rw [this, if_neg ?_]
    · unfold scanL
      rw [if_pos rfl, listM_trB l _ (Nat.lt_succ_self _)]
    · intro e
      obtain ⟨p, q, hp, hq, hl2⟩ := trB_split l
      rw [e] at hl2
      refine hs ?_
      have tw : l.takeWhile blB = p := by
        rw [hl2]
        clear hl2 e this hs
        induction p with
        | nil => rfl
        | cons c p ih => rw [List.cons_append, List.takeWhile_cons, if_pos (hp c (by simp)), ih (fun d hd => hp d (by simp [hd]))]
      rw [tw]
      conv => lhs; rw [hl2]
      rw [List.getElem?_append_right (Nat.le_refl _), Nat.sub_self]
      rfl
/-! ### is it held? -/
def anyL (f : Int) (L : List TagB) (s : ByteArray) : Bool := decide (f = 0) && L.any fun t => eqS t.2 s
theorem tagged_loop (L : List TagB) (hL : L.length ≤ 1000000) (f : Int) (o : TagB) (k : Nat) (hk : L.length + 1 < k) : etag_tagged.l3 k (f, (L, ((L.length : Int), (0, (o.1, o.2))))) = some (anyL f L o.2) := by
  unfold etag_tagged.l3
  have H := iter_eq (f := etag_tagged.l3b k) (fun v => ∃ i, i ≤ L.length ∧ v = (f, (L, ((L.length : Int), ((i : Int), (o.1, o.2)))))) (fun v => L.length - v.2.2.2.1.toNat) (fun v => some (anyL f (L.drop v.2.2.2.1.toNat) o.2)) ?_ k (f, (L, ((L.length : Int), (0, (o.1, o.2))))) ⟨0, by omega, rfl⟩ (by simp only [Int.toNat_zero]; omega)
  · exact H
  · rintro r v ⟨i, hi, rfl⟩ ih
    unfold etag_tagged.l3b
    dsimp only
    rw [ltI_nat, ifO_dec, Int.toNat_natCast]
    by_cases h : i < L.length
    · have hr : etag_tagged.j5 k r (f, (L, ((L.length : Int), ((i : Int), (o.1, o.2))))) = some (anyL f (L.drop (i + 1)) o.2) := by
        unfold etag_tagged.j5
        dsimp only
        rw [next64 (by omega)]
        have := ih (f, (L, ((L.length : Int), (((i + 1 : Nat) : Int), (o.1, o.2))))) ⟨i + 1, h, rfl⟩ (by simp only [Int.toNat_natCast]; omega)
        simpa only [Int.toNat_natCast] using this
      rw [if_pos h, lenL_nat, inB_yes h, ifO_true, eqI_dec, ifO_dec, elT_get (t := .agg (.pair .bool .str)) (xs := L) h, like_weak, bindO_some, hr, List.drop_eq_getElem_cons h]
      unfold anyL
      rw [List.any_cons]
      by_cases hf : f = 0
      · rw [if_pos hf, decide_eq_true hf]
        cases eqS L[i].2 o.2 <;> rfl
      · rw [if_neg hf, decide_eq_false hf]; rfl
    · rw [if_neg h, List.drop_eq_nil_of_le (by omega)]
      unfold anyL
      simp
theorem held_loop (L : List TagB) (hL : L.length ≤ 1000000) (st : Bool) (f : Int) (o : TagB) (k : Nat) (hk : L.length + 1 < k) : ref12_Held.l4 k (L, (st, (f, (0, (o.1, o.2))))) = some (if anyL f L o.2 = true then true else st) := by
  unfold ref12_Held.l4
  have H := iter_eq (f := ref12_Held.l4b k) (fun v => ∃ i, i ≤ L.length ∧ v = (L, (st, (f, ((i : Int), (o.1, o.2)))))) (fun v => L.length - v.2.2.2.1.toNat) (fun v => some (if anyL f (L.drop v.2.2.2.1.toNat) o.2 = true then true else st)) ?_ k (L, (st, (f, (0, (o.1, o.2))))) ⟨0, by omega, rfl⟩ (by simp only [Int.toNat_zero]; omega)
  · exact H
  · rintro r v ⟨i, hi, rfl⟩ ih
    unfold ref12_Held.l4b
    dsimp only
    rw [lenL_nat, ltI_nat, ifO_dec, Int.toNat_natCast]
    by_cases h : i < L.length
    · have hr : ref12_Held.j6 k r (L, (st, (f, ((i : Int), (o.1, o.2))))) = some (if anyL f (L.drop (i + 1)) o.2 = true then true else st) := by
        unfold ref12_Held.j6
        dsimp only
        rw [next64 (by omega)]
        have := ih (L, (st, (f, (((i + 1 : Nat) : Int), (o.1, o.2))))) ⟨i + 1, h, rfl⟩ (by simp only [Int.toNat_natCast]; omega)
        simpa only [Int.toNat_natCast] using this
      rw [if_pos h, eqI_dec, ifO_dec, inB_yes h, ifO_true, elT_get (t := .agg (.pair .bool .str)) (xs := L) h, r12like_weak, bindO_some, hr, List.drop_eq_getElem_cons h]
      unfold anyL
      rw [List.any_cons]
      by_cases hf : f = 0
      · rw [if_pos hf, decide_eq_true hf]
        cases eqS L[i].2 o.2 <;> rfl
      · rw [if_neg hf, decide_eq_false hf]; rfl
    · rw [if_neg h, List.drop_eq_nil_of_le (by omega)]
      unfold anyL
      simp
def parsT (l : Bs) : TagB × Int := match tagM l with
  | some (t, []) => ((t.1, B t.2), 0)
  | _ => ((false, B []), 2)
def listV (l : Bs) : List TagB × Bool × Int := if trB l = [42] then ([], true, 0) else outL (listM (l.length + 1) (trB l) [])
theorem listM_len : ∀ (n : Nat) (s : Bs) (acc ts : List (Bool × Bs)), listM n s acc = some ts → ts.length ≤ acc.length + s.length
  | 0, _, _, _, h => by cases h
  | n + 1, s, acc, ts, h => by
    have hd := dw_le (p := sepB) s
    simp only [listM] at h
    split at h
    · cases h; omega
    · split at h
      · cases h
      · rename_i t r ht
        obtain ⟨g1, _⟩ := tagM_lt ht
        have hd2 := dw_le (p := blB) r
        split at h
        · have := listM_len n _ _ _ h
          simp only [List.length_append, List.length_cons, List.length_nil] at this
          omega
        · rename_i c q hq
          rw [hq] at hd2
          split at h
          · have := listM_len n _ _ _ h
            simp only [List.length_append, List.length_cons, List.length_nil] at this hd2
            omega
          · cases h
theorem listV_cases (l : Bs) : listV l = ([], true, 0) ∨ listV l = ([], false, 2) ∨ ∃ L, listV l = (L, false, 0) ∧ L.length ≤ l.length := by
  unfold listV
  have ht := trB_le l
  by_cases h : trB l = [42]
  · rw [if_pos h]; exact .inl rfl
  · rw [if_neg h]
    cases hm : listM (l.length + 1) (trB l) [] with
    | none => exact .inr (.inl rfl)
    | some ts =>
      have := listM_len _ _ _ _ hm
      cases ts with
      | nil => exact .inr (.inl rfl)
      | cons t ts => exact .inr (.inr ⟨_, rfl, by simp only [List.length_map, List.length_nil] at this ⊢; omega⟩)
/-- Of the date that a field tells, and whether it tells one. -/
def dateV (l : Bs) : Int × Int := match found l with
  | some a => (a, 0)
  | none => (0, 2)
theorem when_is (l : List Fld) (nm : ByteArray) (h : sumF l ≤ 100000) (k : Nat) (hk : 1000010 ≤ k) : etag_when.f k (l, nm) = some ((dateV (getV nm l)).1, decide (0 < (XG.vals nm l).length) && eqI (dateV (getV nm l)).2 0) := by
  have h2 := getV_len nm l
  unfold etag_when.f
  rw [get_is nm l h, bindO_some]
  dsimp only
  rw [date_parse _ (by omega) k (by omega), bindO_some]
  show ifO (decide (0 < (XG.vals nm l).length)) (some ((dateV (getV nm l)).1, eqI (dateV (getV nm l)).2 0)) (some ((dateV (getV nm l)).1, false)) = _
  cases decide (0 < (XG.vals nm l).length) <;> rfl
def heldV (q p : List Fld) : Bool :=
  if decide (0 < (XG.vals (B [105, 102, 45, 110, 111, 110, 101, 45, 109, 97, 116, 99, 104]) q).length) = true then (listV (getV (B [105, 102, 45, 110, 111, 110, 101, 45, 109, 97, 116, 99, 104]) q)).2.1 || anyL (parsT (getV (B [101, 116, 97, 103]) p)).2 (listV (getV (B [105, 102, 45, 110, 111, 110, 101, 45, 109, 97, 116, 99, 104]) q)).1 (parsT (getV (B [101, 116, 97, 103]) p)).1.2
  else (decide (0 < (XG.vals (B [105, 102, 45, 109, 111, 100, 105, 102, 105, 101, 100, 45, 115, 105, 110, 99, 101]) q).length) && eqI (dateV (getV (B [105, 102, 45, 109, 111, 100, 105, 102, 105, 101, 100, 45, 115, 105, 110, 99, 101]) q)).2 0) && ((decide (0 < (XG.vals (B [108, 97, 115, 116, 45, 109, 111, 100, 105, 102, 105, 101, 100]) p).length) && eqI (dateV (getV (B [108, 97, 115, 116, 45, 109, 111, 100, 105, 102, 105, 101, 100]) p)).2 0) && leI (dateV (getV (B [108, 97, 115, 116, 45, 109, 111, 100, 105, 102, 105, 101, 100]) p)).1 (dateV (getV (B [105, 102, 45, 109, 111, 100, 105, 102, 105, 101, 100, 45, 115, 105, 110, 99, 101]) q)).1)
theorem held_is (q p : List Fld) (hq : sumF q ≤ 90000) (hp : sumF p ≤ 90000) (k : Nat) (hk : 1000010 ≤ k) : etag_Held.f k (q, p) = some (heldV q p) := by
  unfold etag_Held.f heldV
  dsimp only
  rw [show (⟨#[105, 102, 45, 110, 111, 110, 101, 45, 109, 97, 116, 99, 104]⟩ : ByteArray) = B [105, 102, 45, 110, 111, 110, 101, 45, 109, 97, 116, 99, 104] from rfl, show (⟨#[105, 102, 45, 109, 111, 100, 105, 102, 105, 101, 100, 45, 115, 105, 110, 99, 101]⟩ : ByteArray) = B [105, 102, 45, 109, 111, 100, 105, 102, 105, 101, 100, 45, 115, 105, 110, 99, 101] from rfl, show (⟨#[108, 97, 115, 116, 45, 109, 111, 100, 105, 102, 105, 101, 100]⟩ : ByteArray) = B [108, 97, 115, 116, 45, 109, 111, 100, 105, 102, 105, 101, 100] from rfl]
  rw [get_is _ q (by omega), bindO_some]
  dsimp only
  rw [ifO_dec]
  by_cases h : 0 < (XG.vals (B [105, 102, 45, 110, 111, 110, 101, 45, 109, 97, 116, 99, 104]) q).length
  · rw [if_pos h, if_pos (decide_eq_true h)]
    have g1 := getV_len (B [105, 102, 45, 110, 111, 110, 101, 45, 109, 97, 116, 99, 104]) q
    have g2 := getV_len (B [101, 116, 97, 103]) p
    unfold etag_tagged.f
    dsimp only
    rw [list_is _ (by omega) k (by omega), bindO_some, show (⟨#[101, 116, 97, 103]⟩ : ByteArray) = B [101, 116, 97, 103] from rfl, get_is _ p (by omega)]
    show bindO (ifO (neI (listV (getV (B [105, 102, 45, 110, 111, 110, 101, 45, 109, 97, 116, 99, 104]) q)).2.2 0) (some (listV (getV (B [105, 102, 45, 110, 111, 110, 101, 45, 109, 97, 116, 99, 104]) q)).2.1) (ifO (listV (getV (B [105, 102, 45, 110, 111, 110, 101, 45, 109, 97, 116, 99, 104]) q)).2.1 (some (listV (getV (B [105, 102, 45, 110, 111, 110, 101, 45, 109, 97, 116, 99, 104]) q)).2.1) (bindO (some (B (getV (B [101, 116, 97, 103]) p), decide (0 < (XG.vals (B [101, 116, 97, 103]) p).length))) fun y1 => bindO (etag_Parse.f k y1.1) fun y2 => etag_tagged.l3 k (y2.2, ((listV (getV (B [105, 102, 45, 110, 111, 110, 101, 45, 109, 97, 116, 99, 104]) q)).1, (lenL (listV (getV (B [105, 102, 45, 110, 111, 110, 101, 45, 109, 97, 116, 99, 104]) q)).1, (0, (y2.1.1, y2.1.2)))))))) (fun y => some y) = _
    rw [bindO_some]
    dsimp only
    rw [parse_tag _ (by omega) k (by omega), bindO_some]
    show bindO (ifO (neI (listV (getV (B [105, 102, 45, 110, 111, 110, 101, 45, 109, 97, 116, 99, 104]) q)).2.2 0) (some (listV (getV (B [105, 102, 45, 110, 111, 110, 101, 45, 109, 97, 116, 99, 104]) q)).2.1) (ifO (listV (getV (B [105, 102, 45, 110, 111, 110, 101, 45, 109, 97, 116, 99, 104]) q)).2.1 (some (listV (getV (B [105, 102, 45, 110, 111, 110, 101, 45, 109, 97, 116, 99, 104]) q)).2.1) (etag_tagged.l3 k ((parsT (getV (B [101, 116, 97, 103]) p)).2, ((listV (getV (B [105, 102, 45, 110, 111, 110, 101, 45, 109, 97, 116, 99, 104]) q)).1, (lenL (listV (getV (B [105, 102, 45, 110, 111, 110, 101, 45, 109, 97, 116, 99, 104]) q)).1, (0, ((parsT (getV (B [101, 116, 97, 103]) p)).1.1, (parsT (getV (B [101, 116, 97, 103]) p)).1.2)))))))) (fun y => some y) = _
    generalize parsT (getV (B [101, 116, 97, 103]) p) = pt
    rcases listV_cases (getV (B [105, 102, 45, 110, 111, 110, 101, 45, 109, 97, 116, 99, 104]) q) with e | e | ⟨L, e, hL⟩
    · rw [e]; rfl
    · rw [e]
      show some false = some (false || anyL pt.2 [] pt.1.2)
      unfold anyL
      simp
    · rw [e]
      dsimp only
      rw [show neI 0 0 = false from rfl, ifO_false, ifO_false, lenL_nat, tagged_loop L (by omega) pt.2 pt.1 k (by omega), bindO_some, Bool.false_or]
  · rw [if_neg h, if_neg (by simpa using h), when_is _ _ (by omega) k hk, when_is _ _ (by omega) k hk, bindO_some, bindO_some]
    dsimp only
    generalize (decide (0 < (XG.vals (B [105, 102, 45, 109, 111, 100, 105, 102, 105, 101, 100, 45, 115, 105, 110, 99, 101]) q).length) && eqI (dateV (getV (B [105, 102, 45, 109, 111, 100, 105, 102, 105, 101, 100, 45, 115, 105, 110, 99, 101]) q)).2 0) = b1
    generalize (decide (0 < (XG.vals (B [108, 97, 115, 116, 45, 109, 111, 100, 105, 102, 105, 101, 100]) p).length) && eqI (dateV (getV (B [108, 97, 115, 116, 45, 109, 111, 100, 105, 102, 105, 101, 100]) p)).2 0) = b2
    cases b1 <;> cases b2 <;> rfl
theorem r12held (q p : List Fld) (hq : sumF q ≤ 90000) (hp : sumF p ≤ 90000) (k : Nat) (hk : 1000010 ≤ k) : ref12_Held.f k (q, p) = some (heldV q p) := by
  unfold ref12_Held.f heldV
  dsimp only
  rw [show (⟨#[105, 102, 45, 110, 111, 110, 101, 45, 109, 97, 116, 99, 104]⟩ : ByteArray) = B [105, 102, 45, 110, 111, 110, 101, 45, 109, 97, 116, 99, 104] from rfl, show (⟨#[105, 102, 45, 109, 111, 100, 105, 102, 105, 101, 100, 45, 115, 105, 110, 99, 101]⟩ : ByteArray) = B [105, 102, 45, 109, 111, 100, 105, 102, 105, 101, 100, 45, 115, 105, 110, 99, 101] from rfl, show (⟨#[108, 97, 115, 116, 45, 109, 111, 100, 105, 102, 105, 101, 100]⟩ : ByteArray) = B [108, 97, 115, 116, 45, 109, 111, 100, 105, 102, 105, 101, 100] from rfl, show (⟨#[101, 116, 97, 103]⟩ : ByteArray) = B [101, 116, 97, 103] from rfl]
  rw [r6get _ q (by omega) k (by omega), bindO_some]
  dsimp only
  rw [ifO_dec]
  have g1 := getV_len (B [105, 102, 45, 110, 111, 110, 101, 45, 109, 97, 116, 99, 104]) q
  have g2 := getV_len (B [101, 116, 97, 103]) p
  have g3 := getV_len (B [105, 102, 45, 109, 111, 100, 105, 102, 105, 101, 100, 45, 115, 105, 110, 99, 101]) q
  have g4 := getV_len (B [108, 97, 115, 116, 45, 109, 111, 100, 105, 102, 105, 101, 100]) p
  by_cases h : 0 < (XG.vals (B [105, 102, 45, 110, 111, 110, 101, 45, 109, 97, 116, 99, 104]) q).length
  · rw [if_pos h, if_pos (decide_eq_true h), r12list _ (by omega) k hk, bindO_some, r6get _ p (by omega) k (by omega), bindO_some]
    dsimp only
    rw [r12parse _ (by omega) k (by omega), bindO_some]
    show ifO (neI (listV (getV (B [105, 102, 45, 110, 111, 110, 101, 45, 109, 97, 116, 99, 104]) q)).2.2 0) (some false) (ref12_Held.l4 k ((listV (getV (B [105, 102, 45, 110, 111, 110, 101, 45, 109, 97, 116, 99, 104]) q)).1, ((listV (getV (B [105, 102, 45, 110, 111, 110, 101, 45, 109, 97, 116, 99, 104]) q)).2.1, ((parsT (getV (B [101, 116, 97, 103]) p)).2, (0, ((parsT (getV (B [101, 116, 97, 103]) p)).1.1, (parsT (getV (B [101, 116, 97, 103]) p)).1.2)))))) = _
    generalize parsT (getV (B [101, 116, 97, 103]) p) = pt
    rcases listV_cases (getV (B [105, 102, 45, 110, 111, 110, 101, 45, 109, 97, 116, 99, 104]) q) with e | e | ⟨L, e, hL⟩
    · rw [e]
      dsimp only
      rw [show neI 0 0 = false from rfl, ifO_false, held_loop [] (by simp) true pt.2 pt.1 k (by simp only [List.length_nil]; omega)]
      simp
    · rw [e]
      show some false = some (false || anyL pt.2 [] pt.1.2)
      unfold anyL
      simp
    · rw [e]
      dsimp only
      rw [show neI 0 0 = false from rfl, ifO_false, held_loop L (by omega) false pt.2 pt.1 k (by omega), Bool.false_or]
      cases anyL pt.2 L pt.1.2 <;> rfl
  · rw [if_neg h, if_neg (by simpa using h), r6get _ q (by omega) k (by omega), bindO_some, r6get _ p (by omega) k (by omega), bindO_some]
    dsimp only
    rw [r5parse _ k (by omega), bindO_some, r5parse _ k (by omega), bindO_some]
    show ifO (decide (0 < (XG.vals (B [105, 102, 45, 109, 111, 100, 105, 102, 105, 101, 100, 45, 115, 105, 110, 99, 101]) q).length)) (ifO (decide (0 < (XG.vals (B [108, 97, 115, 116, 45, 109, 111, 100, 105, 102, 105, 101, 100]) p).length)) (ifO (eqI (dateV (getV (B [105, 102, 45, 109, 111, 100, 105, 102, 105, 101, 100, 45, 115, 105, 110, 99, 101]) q)).2 0) (ifO (eqI (dateV (getV (B [108, 97, 115, 116, 45, 109, 111, 100, 105, 102, 105, 101, 100]) p)).2 0) (some (leI (dateV (getV (B [108, 97, 115, 116, 45, 109, 111, 100, 105, 102, 105, 101, 100]) p)).1 (dateV (getV (B [105, 102, 45, 109, 111, 100, 105, 102, 105, 101, 100, 45, 115, 105, 110, 99, 101]) q)).1)) (some false)) (some false)) (some false)) (some false) = _
    generalize decide (0 < (XG.vals (B [105, 102, 45, 109, 111, 100, 105, 102, 105, 101, 100, 45, 115, 105, 110, 99, 101]) q).length) = b1
    generalize decide (0 < (XG.vals (B [108, 97, 115, 116, 45, 109, 111, 100, 105, 102, 105, 101, 100]) p).length) = b2
    generalize eqI (dateV (getV (B [105, 102, 45, 109, 111, 100, 105, 102, 105, 101, 100, 45, 115, 105, 110, 99, 101]) q)).2 0 = b3
    generalize eqI (dateV (getV (B [108, 97, 115, 116, 45, 109, 111, 100, 105, 102, 105, 101, 100]) p)).2 0 = b4
    cases b1 <;> cases b2 <;> cases b3 <;> cases b4 <;> rfl
end Go.Proofs.YtkjjegjafpefcaaDoor.R
