/- Texts of this session's own, as far as they are used here. -/
import Derived.Test.YtpddbfodjeoofaaKPDatex4
import Derived.Test.YtpddbfodjeoofaaKBy
import Derived.Test.YtpddbfodjeoofaaKDateA
namespace Go.Proofs.Ytpddbfodjeoofaa.Pure
open Go.RowKit Go.Proofs.Ytpddbfodjeoofaa.PDate Go.Proofs.YtpddbfodjeoofaaW.PrintWords Go.Proofs.YtpddbfodjeoofaaW.PrintLast
set_option linter.unusedSimpArgs false
set_option linter.unusedVariables false

def Out {α : Type} (o : Bool) (r : Option (α × Bs)) (v : α) (l : Bs) (o' : Bool) : Prop := (if o = true then none else r) = (if o' = true then none else some (v, l))
theorem Out.bind {α β : Type} {o o1 o2 : Bool} {r : Option (α × Bs)} {v : α} {l1 l2 : Bs} {w : β} {f : α × Bs → Option (β × Bs)} (h : Out o r v l1 o1) (k : Out o1 (f (v, l1)) w l2 o2) : Out o (r.bind f) w l2 o2 := by
  unfold Out at *
  cases o1
  · cases o
    · simp at h; rw [h]; simpa using k
    · simp at h
  · cases o2
    · simp at k
    · cases o
      · simp at h; rw [h]; rfl
      · rfl
theorem Out.true_ {α : Type} {r : Option (α × Bs)} {v : α} {l : Bs} {o' : Bool} (h : Out true r v l o') : o' = true := by
  unfold Out at h; cases o'
  · simp at h
  · rfl
theorem Out.false_ {α : Type} {r : Option (α × Bs)} {v : α} {l : Bs} (h : Out false r v l false) : r = some (v, l) := by unfold Out at h; simpa using h
theorem Out.none_ {α : Type} {r : Option (α × Bs)} {v : α} {l : Bs} (h : Out false r v l true) : r = none := by unfold Out at h; simpa using h

def hp (l p : Bs) : Bool := decide (l.take p.length = p)
theorem hp_iff (l p : Bs) : hp l p = true ↔ ∃ m, l = p ++ m := by
  unfold hp; rw [decide_eq_true_iff]
  constructor
  · intro h; exact ⟨l.drop p.length, by conv => lhs; rw [← List.take_append_drop p.length l, h]⟩
  · rintro ⟨m, rfl⟩; simp
theorem hasPrefix_eq (l p : Bs) : stringslite_HasPrefix.f (B l) (B p) = some (hp l p) := by
  unfold stringslite_HasPrefix.f
  rw [B_size, B_size]
  by_cases h : (l.length : Int) ≥ p.length
  · rw [if_pos h, if_pos (by omega), if_pos (by omega), Int.toNat_natCast, B_extract, B_toList, B_toList, List.drop_zero]
    congr 1
    unfold hp
    rw [Bool.eq_iff_iff, beq_iff_eq, decide_eq_true_iff]
  · rw [if_neg h]
    congr 1
    unfold hp
    symm; rw [decide_eq_false_iff_not]
    intro e
    have := congrArg List.length e
    rw [List.length_take] at this
    omega
theorem hasPrefix2_eq (l p : Bs) : strings_HasPrefix.f (B l) (B p) = some (hp l p) := by unfold strings_HasPrefix.f; rw [hasPrefix_eq]; rfl
theorem cut_eq (l p : Bs) : strings_CutPrefix.f (B l) (B p) = some (if hp l p = true then (B (l.drop p.length), true) else (B l, false)) := by
  unfold strings_CutPrefix.f stringslite_CutPrefix.f
  rw [hasPrefix_eq]
  simp only [Option.bind_some]
  by_cases h : hp l p = true
  · obtain ⟨m, rfl⟩ := (hp_iff l p).1 h
    rw [if_pos h, if_pos h, B_size, B_size, if_pos (by omega), if_pos (by rw [List.length_append]; omega), Int.toNat_natCast, B_extract, List.take_length]
    rfl
  · rw [if_neg h, if_neg h]; rfl
def pw (p l : Bs) : Option (Unit × Bs) := if hp l p = true then some ((), l.drop p.length) else none
theorem word_out (l : Bs) (o : Bool) (p : Bs) : ∃ l' o', date_scan_word.f (B l) o (B p) = some (B l', o') ∧ Out o (pw p l) () l' o' := by
  unfold date_scan_word.f pw
  rw [cut_eq]
  simp only [Option.bind_some]
  by_cases h : hp l p = true
  · rw [if_pos h, if_pos h]
    cases o
    · exact ⟨l.drop p.length, false, rfl, by unfold Out; simp⟩
    · exact ⟨l.drop p.length, true, rfl, by unfold Out; simp⟩
  · rw [if_neg h, if_neg h]
    cases o
    · exact ⟨l, true, rfl, by unfold Out; simp⟩
    · exact ⟨l, true, rfl, by unfold Out; simp⟩

def dig (c : UInt8) : Bool := decide (48 ≤ c.toNat) && decide (c.toNat ≤ 57)
def val (l : Bs) : Int := l.foldl (fun n c => 10 * n + ((c.toNat : Int) - 48)) 0
theorem val_snoc (l : Bs) (c : UInt8) : val (l ++ [c]) = 10 * val l + ((c.toNat : Int) - 48) := by simp [val, List.foldl_append]
theorem fold_bd : ∀ (l : Bs) (a : Int), l.all dig = true → 0 ≤ a → 0 ≤ l.foldl (fun n c => 10 * n + ((c.toNat : Int) - 48)) a ∧ l.foldl (fun n c => 10 * n + ((c.toNat : Int) - 48)) a < (a + 1) * 10 ^ l.length
  | [], a, _, ha => by simp; omega
  | c :: l, a, h, ha => by
    rw [List.all_cons, Bool.and_eq_true] at h
    have h1 := h.1
    simp [dig] at h1
    have := fold_bd l (10 * a + ((c.toNat : Int) - 48)) h.2 (by omega)
    rw [List.foldl_cons, List.length_cons, Int.pow_succ]
    refine ⟨this.1, Int.lt_of_lt_of_le this.2 ?_⟩
    have hp : (0 : Int) ≤ 10 ^ l.length := Int.le_of_lt (Int.pow_pos (by decide))
    have : 10 * a + ((c.toNat : Int) - 48) + 1 ≤ (a + 1) * 10 := by omega
    calc (10 * a + ((c.toNat : Int) - 48) + 1) * 10 ^ l.length ≤ ((a + 1) * 10) * 10 ^ l.length := Int.mul_le_mul_of_nonneg_right this hp
      _ = (a + 1) * (10 ^ l.length * 10) := by rw [Int.mul_assoc, Int.mul_comm 10]
theorem val_bd (l : Bs) (h : l.all dig = true) : 0 ≤ val l ∧ val l < 10 ^ l.length := by
  have := fold_bd l 0 h (by decide)
  simpa [val] using this
def pn (many : Nat) (most : Int) (l : Bs) : Option (Int × Bs) :=
  if many ≤ l.length ∧ (l.take many).all dig = true ∧ val (l.take many) ≤ most then some (val (l.take many), l.drop many) else none
theorem take_snoc_ (l : Bs) (i : Nat) (h : i < l.length) : l.take (i + 1) = l.take i ++ [l[i]] := by rw [List.take_succ_eq_append_getElem h]
theorem number_l0 (l : Bs) (o : Bool) (many : Nat) (most : Int) (hm : many ≤ 4) : ∀ (d i k : Nat), i + d = many → d + 1 ≤ k → i ≤ l.length → (l.take i).all dig = true →
    ∃ v l' o', date_scan_number.l0 k many most (val (l.take i)) many i (B l) o = some (v, B l', o') ∧ Out o (pn many most l) v l' o' ∧ 0 ≤ v ∧ v < 10000 := by
  intro d
  induction d with
  | zero =>
    intro i k hi hk hl ha
    obtain ⟨k, rfl⟩ : ∃ n, k = n + 1 := ⟨k - 1, by omega⟩
    obtain rfl : i = many := by omega
    simp only [date_scan_number.l0]
    have hb := val_bd _ ha
    have hp4 : (10 : Int) ^ (l.take i).length ≤ 10000 := by
      rw [List.length_take, Nat.min_eq_left hl]
      have : i = 0 ∨ i = 1 ∨ i = 2 ∨ i = 3 ∨ i = 4 := by omega
      rcases this with rfl | rfl | rfl | rfl | rfl <;> decide
    rw [if_neg (by omega), if_pos (by omega), B_size, if_pos (by omega), Int.toNat_natCast, B_extract, List.take_length]
    unfold pn
    cases o
    · by_cases hv : val (l.take i) ≤ most
      · rw [if_neg (by decide), decide_eq_false (by omega), if_pos ⟨hl, ha, hv⟩]
        exact ⟨_, _, _, rfl, by unfold Out; simp, hb.1, by omega⟩
      · rw [if_neg (by decide), decide_eq_true (by omega), if_neg (fun h => hv h.2.2)]
        exact ⟨_, _, _, rfl, by unfold Out; simp, hb.1, by omega⟩
    · rw [if_pos rfl]
      exact ⟨_, _, _, rfl, by unfold Out; simp, hb.1, by omega⟩
  | succ d ih =>
    intro i k hi hk hl ha
    obtain ⟨k, rfl⟩ : ∃ n, k = n + 1 := ⟨k - 1, by omega⟩
    simp only [date_scan_number.l0]
    rw [if_pos (by omega), B_size]
    by_cases hlt : i < l.length
    · rw [if_neg (by omega), if_pos (by omega), if_pos (by omega), B_get l i hlt]
      by_cases hd : dig l[i] = true
      · have hd' := hd
        simp [dig] at hd'
        rw [if_neg (by omega), if_neg (by omega)]
        have hb := val_bd _ ha
        have hp4 : (10 : Int) ^ (l.take i).length ≤ 10000 := by
          rw [List.length_take, Nat.min_eq_left hl]
          have : i = 0 ∨ i = 1 ∨ i = 2 ∨ i = 3 ∨ i = 4 := by omega
          rcases this with rfl | rfl | rfl | rfl | rfl <;> decide
        have e : wrap64 (wrap64 (10 * val (l.take i)) + ((l[i].toNat : Int) - 48) % 256) = val (l.take (i + 1)) := by
          rw [take_snoc_ l i hlt, val_snoc, w64 (x := 10 * val (l.take i)) (by omega) (by omega), Int.emod_eq_of_lt (by omega) (by omega), w64 (by omega) (by omega)]
        rw [e, w64 (x := (i : Int) + 1) (by omega) (by omega)]
        exact ih (i + 1) k (by omega) (by omega) (by omega) (by rw [take_snoc_ l i hlt, List.all_append, ha]; simpa using hd)
      · have hn : pn many most l = none := by
          unfold pn
          rw [if_neg]
          rintro ⟨h1, h2, _⟩
          rw [List.all_eq_true] at h2
          exact hd (h2 _ (by rw [List.mem_take_iff_getElem]; exact ⟨i, by omega, rfl⟩))
        have hd' : (l[i].toNat : Int) < 48 ∨ (l[i].toNat : Int) > 57 := by
          simp [dig] at hd; omega
        refine ⟨0, l, true, ?_, by rw [hn]; unfold Out; simp, by decide, by decide⟩
        rcases hd' with g | g
        · rw [if_pos g]
        · rw [if_neg (by omega), if_pos g]
    · rw [if_pos (by omega)]
      have hn : pn many most l = none := by
        unfold pn; rw [if_neg]; rintro ⟨h1, _⟩; omega
      exact ⟨0, l, true, rfl, by rw [hn]; unfold Out; simp, by decide, by decide⟩
theorem number_out (l : Bs) (o : Bool) (many : Nat) (most : Int) (hm : many ≤ 4) (k : Nat) (hk : 5 ≤ k) :
    ∃ v l' o', date_scan_number.f k (B l) o many most = some (v, B l', o') ∧ Out o (pn many most l) v l' o' ∧ 0 ≤ v ∧ v < 10000 := by
  have := number_l0 l o many most hm many 0 k (by omega) (by omega) (by omega) rfl
  unfold date_scan_number.f
  simpa [val] using this
end Go.Proofs.Ytpddbfodjeoofaa.Pure

