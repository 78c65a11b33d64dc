/- Tags in lists, as they were printed; likeness. -/
import Derived.Test.YtkjjegjafpefcaaDoorF3
import Derived.Test.YtkjjegjafpefcaaDoorPTag
namespace Go.Proofs.YtkjjegjafpefcaaDoor.R
open Go Go.RowKit
set_option linter.unusedSimpArgs false
set_option linter.unusedVariables false
def itemS (p : Bs) (t : Bool × Bs) : Bs := p ++ (pT t ++ (p ++ [44]))
def cats (p : Bs) (ts : List (Bool × Bs)) : Bs := ts.flatMap (itemS p)
theorem dw_all {p : UInt8 → Bool} : ∀ (a b : Bs), (∀ c ∈ a, p c = true) → (a ++ b).dropWhile p = b.dropWhile p
  | [], b, _ => rfl
  | c :: a, b, h => by rw [List.cons_append, List.dropWhile_cons_of_pos (h c (by simp))]; exact dw_all a b (fun d hd => h d (by simp [hd]))
theorem pT_head (t : Bool × Bs) (r : Bs) : (pT t ++ r).dropWhile sepB = pT t ++ r := by
  obtain ⟨wk, a⟩ := t
  unfold pT
  cases wk <;> simp [List.dropWhile_cons, sepB]
theorem bl_sep {c : UInt8} (h : blB c = true) : sepB c = true := by
  unfold blB at h
  unfold sepB
  simp only [Bool.or_eq_true] at h ⊢
  exact h.imp id (fun h => .inl h)
theorem listM_cats (p : Bs) (hp : ∀ c ∈ p, blB c = true) : ∀ (ts acc : List (Bool × Bs)) (n : Nat) (q : Bs), (∀ t ∈ ts, t.2.all inT = true) → (∀ c ∈ q, sepB c = true) → (q ++ cats p ts).length < n → listM n (q ++ cats p ts) acc = some (acc ++ ts)
  | [], acc, n, q, _, hq, hn => by
    obtain ⟨m, rfl⟩ : ∃ m, n = m + 1 := ⟨n - 1, by omega⟩
    unfold listM
    rw [dw_all q _ hq, if_pos (show (cats p []).dropWhile sepB = [] from rfl), List.append_nil]
  | t :: ts, acc, n, q, ht, hq, hn => by
    obtain ⟨m, rfl⟩ : ∃ m, n = m + 1 := ⟨n - 1, by omega⟩
    have e1 : (q ++ cats p (t :: ts)).dropWhile sepB = pT t ++ (p ++ (44 :: cats p ts)) := by
      unfold cats
      rw [List.flatMap_cons, dw_all q _ hq]
      unfold itemS
      rw [List.append_assoc, dw_all p _ (fun c hc => bl_sep (hp c hc)), List.append_assoc, pT_head, List.append_assoc]
      rfl
    have hpt : 2 ≤ (pT t).length := by unfold pT; simp only [List.length_append, List.length_cons, List.length_nil]; omega
    have hlen : (cats p (t :: ts)).length = p.length + ((pT t).length + (p.length + 1)) + (cats p ts).length := by
      unfold cats
      rw [List.flatMap_cons, List.length_append]
      unfold itemS
      simp only [List.length_append, List.length_cons, List.length_nil]
    rw [List.length_append, hlen] at hn
    have hne : ¬ (pT t ++ (p ++ (44 :: cats p ts)) = []) := by
      intro h
      have := congrArg List.length h
      rw [List.length_append, List.length_nil] at this
      omega
    unfold listM
    rw [e1, if_neg hne, tagM_of t (ht t (by simp))]
    dsimp only
    rw [dw_all p _ hp, show (44 :: cats p ts).dropWhile blB = 44 :: cats p ts from rfl]
    dsimp only
    rw [if_pos rfl]
    have := listM_cats p hp ts (acc ++ [t]) m [44] (fun u hu => ht u (by simp [hu])) (by intro c hc; rw [List.mem_singleton] at hc; rw [hc]; rfl) (by simp only [List.length_append, List.length_cons, List.length_nil]; omega)
    rw [List.append_assoc] at this
    exact this
theorem trB_cats (p : Bs) (hp : ∀ c ∈ p, blB c = true) (t : Bool × Bs) (ts : List (Bool × Bs)) : trB (cats p (t :: ts)) = pT t ++ (p ++ (44 :: cats p ts)) := by
  have hend : ∀ us : List (Bool × Bs), us ≠ [] → ∃ m, cats p us = m ++ [44] := by
    intro us
    induction us with
    | nil => intro h; exact absurd rfl h
    | cons u us ih =>
      intro _
      cases us with
      | nil => exact ⟨p ++ (pT u ++ p), by simp [cats, itemS]⟩
      | cons v us =>
        obtain ⟨m, hm⟩ := ih (by simp)
        exact ⟨itemS p u ++ m, by unfold cats at hm ⊢; rw [List.flatMap_cons, hm, List.append_assoc]⟩
  obtain ⟨m, hm⟩ := hend (t :: ts) (by simp)
  unfold trB
  have e : ((cats p (t :: ts)).reverse.dropWhile blB).reverse = cats p (t :: ts) := by
    rw [hm, List.reverse_append, List.reverse_singleton, List.singleton_append, List.dropWhile_cons_of_neg (by decide), List.reverse_cons, List.reverse_reverse]
  rw [e]
  unfold cats
  rw [List.flatMap_cons]
  unfold itemS
  rw [List.append_assoc, dw_all p _ hp, List.append_assoc, List.append_assoc]
  obtain ⟨wk, a⟩ := t
  unfold pT
  cases wk <;> simp [List.dropWhile_cons, blB]
theorem list_cats (p : Bs) (hp : ∀ c ∈ p, blB c = true) (t : Bool × Bs) (ts : List (Bool × Bs)) (ht : ∀ u ∈ t :: ts, u.2.all inT = true) (hl : (cats p (t :: ts)).length ≤ 100000) (k : Nat) (hk : 100010 ≤ k) : etag_List.f k (B (cats p (t :: ts))) = some ((t :: ts).map toT, false, 0) := by
  have h1 : ¬ trB (cats p (t :: ts)) = [42] := by
    rw [trB_cats p hp]
    obtain ⟨wk, a⟩ := t
    unfold pT
    cases wk <;> simp
  have h2 : trB (cats p (t :: ts)) = [] ++ trB (cats p (t :: ts)) := rfl
  have h3 := trB_le (cats p (t :: ts))
  rw [list_is _ hl k (by omega), if_neg h1]
  have : listM ((cats p (t :: ts)).length + 1) (trB (cats p (t :: ts))) [] = some (t :: ts) := by
    have h4 := listM_cats p hp (t :: ts) [] ((cats p (t :: ts)).length + 1) [] ht (by simp) (by simp only [List.nil_append]; omega)
    rw [List.nil_append, List.nil_append] at h4
    rw [← h4]
    unfold listM
    have h5 : (trB (cats p (t :: ts))).dropWhile sepB = (cats p (t :: ts)).dropWhile sepB := by
      rw [trB_cats p hp, pT_head]
      unfold cats
      rw [List.flatMap_cons]
      unfold itemS
      rw [List.append_assoc, dw_all p _ (fun c hc => bl_sep (hp c hc)), List.append_assoc, pT_head, List.append_assoc]
      rfl
    rw [h5]
  rw [this]
  rfl
theorem own_tags (l : List TagB) (hl : l.length ≤ 1000000) (k : Nat) (hk : l.length + 1 < k) : law12_own.f k l = some l := by
  unfold law12_own.f law12_own.l0
  have := iter_eq (f := law12_own.l0b k) (fun v => ∃ i, i ≤ l.length ∧ v = (l, (l.take i, (i : Int)))) (fun v => l.length - v.2.2.toNat) (fun _ => some l) ?_ k (l, (([] : List TagB), 0)) ⟨0, by omega, rfl⟩ (by simp only [Int.toNat_zero]; omega)
  · exact this
  · rintro r v ⟨i, hi, rfl⟩ ih
    unfold law12_own.l0b
    dsimp only
    rw [lenL_nat, ltI_nat, ifO_dec]
    by_cases h : i < l.length
    · rw [if_pos h, inB_yes h, ifO_true, lenL_nat, List.length_take, Nat.min_eq_left (by omega), show ∀ x : TagB, lenL ((x.1, x.2) :: ([] : List TagB)) = ((1 : Nat) : Int) from fun _ => rfl, fitsL_yes (n := i) (m := 1) (by omega) (by omega), ifO_true, next64 (by omega)]
      refine ih _ ⟨i + 1, h, ?_⟩ (by simp only [Int.toNat_natCast]; omega)
      rw [elT_get (t := .agg (.pair .bool .str)) (xs := l) h]
      unfold catL
      rw [take_snoc l i h]
    · rw [if_neg h, List.take_of_length_le (by omega)]
theorem eqD_tag (x y : TagB) : eqD (.agg (.pair .bool .str)) (x.1, x.2) (y.1, y.2) = (eqB x.1 y.1 && eqS x.2 y.2) := rfl
theorem eqS_self (s : ByteArray) : eqS s s = true := by unfold eqS; exact beq_self_eq_true _
theorem eqB_self (b : Bool) : eqB b b = true := by cases b <;> rfl
theorem same_tags (l : List TagB) (hl : l.length ≤ 1000000) (k : Nat) (hk : l.length + 1 < k) : law12_same.f k (l, l) = some true := by
  unfold law12_same.f law12_same.l0
  dsimp only
  rw [neI_dec, decide_eq_false (by simp), ifO_false]
  have := iter_eq (f := law12_same.l0b k) (fun v => ∃ i, i ≤ l.length ∧ v = (l, (l, (i : Int)))) (fun v => l.length - v.2.2.toNat) (fun _ => some true) ?_ k (l, (l, 0)) ⟨0, by omega, rfl⟩ (by simp only [Int.toNat_zero]; omega)
  · exact this
  · rintro r v ⟨i, hi, rfl⟩ ih
    unfold law12_same.l0b
    dsimp only
    rw [lenL_nat, ltI_nat, ifO_dec]
    by_cases h : i < l.length
    · rw [if_pos h, inB_yes h, ifO_true, ifO_true, eqD_tag, eqB_self, eqS_self, show notB (true && true) = false from rfl, ifO_false, next64 (by omega)]
      exact ih _ ⟨i + 1, h, rfl⟩ (by simp only [Int.toNat_natCast]; omega)
    · rw [if_neg h]
theorem like_weak (x y : TagB) (k : Nat) : etag_Like.f k ((x.1, x.2), ((y.1, y.2), false)) = some (eqS x.2 y.2) := by
  unfold etag_Like.f etag_Like.j0
  dsimp only
  rw [show notB false = true from rfl, ifO_true, show eqD (.agg (.pair .bool .str)) ((false, x.2) : TagB) ((false, y.2) : TagB) = eqS x.2 y.2 from by rw [show eqD (.agg (.pair .bool .str)) ((false, x.2) : TagB) ((false, y.2) : TagB) = (eqB false false && eqS x.2 y.2) from rfl]; rfl]
  cases eqS x.2 y.2 <;> rfl
theorem like_strong (x y : TagB) (k : Nat) : etag_Like.f k ((x.1, x.2), ((y.1, y.2), true)) = some (eqS x.2 y.2 && (eqB x.1 y.1 && notB x.1)) := by
  unfold etag_Like.f etag_Like.j0
  dsimp only
  rw [show notB true = false from rfl, ifO_false, eqD_tag]
  cases eqS x.2 y.2 <;> cases x.1 <;> cases y.1 <;> rfl
theorem eqS_comm (x y : ByteArray) : eqS x y = eqS y x := by unfold eqS; exact BEq.comm
theorem awake12 : law12_awake.f 1000010 () = some true := by decide +kernel
end Go.Proofs.YtkjjegjafpefcaaDoor.R
