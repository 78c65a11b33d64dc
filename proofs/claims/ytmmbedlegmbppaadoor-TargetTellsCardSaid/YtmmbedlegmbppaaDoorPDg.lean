/- Digits: the program's and the document's are one. -/
import Derived.Test.YtmmbedlegmbppaaDoorPCut
import Derived.Test.YtmmbedlegmbppaaDoorF0
namespace Go.Proofs.YtmmbedlegmbppaaDoor.R
open Go Go.RowKit
set_option linter.unusedSimpArgs false
set_option linter.unusedVariables false
def dgs : Int → Bs → Int
  | n, [] => n
  | n, c :: r => dgs (min (10 * n + ((c.toNat : Int) - 48)) 2147483648) r
def dg (c : UInt8) : Bool := decide (48 ≤ c.toNat) && decide (c.toNat ≤ 57)
def digV (l : Bs) : Int × Bool := if l = [] then (0, false) else if l.all dg then (dgs 0 l, true) else (0, false)
theorem dgs_bd : ∀ (l : Bs) (n : Int), l.all dg = true → 0 ≤ n → n ≤ 2147483648 → 0 ≤ dgs n l ∧ dgs n l ≤ 2147483648
  | [], n, _, h, h' => ⟨h, h'⟩
  | c :: r, n, ha, h, h' => by
    simp only [List.all_cons, Bool.and_eq_true] at ha
    have hc : 48 ≤ c.toNat ∧ c.toNat ≤ 57 := by simpa [dg] using ha.1
    exact dgs_bd r _ ha.2 (by omega) (by omega)
theorem digV_bd (l : Bs) : 0 ≤ (digV l).1 ∧ (digV l).1 ≤ 2147483648 := by
  unfold digV
  split
  · simp
  · split
    · rename_i h; exact dgs_bd l 0 h (by omega) (by omega)
    · simp
theorem dgs_fold : ∀ (l : Bs) (n : Int), l.foldl X.dstep n = dgs n l
  | [], n => rfl
  | c :: r, n => by
    show (r.foldl X.dstep (X.dstep n c)) = dgs _ r
    rw [dgs_fold r]
    congr 1
    unfold X.dstep
    split <;> omega
theorem dg_is (c : UInt8) : X.isDigit c = dg c := rfl
theorem digits_is (l : Bs) (hl : l.length ≤ 9223372036854775807) (k : Nat) : ascii_Digits.f k (B l) = some (digV l) := by
  unfold ascii_Digits.f X.ascii_Digits.f
  rw [B_size, if_pos hl, B_toList]
  unfold digV X.allB
  rw [B_data]
  by_cases h0 : l = []
  · rw [if_pos h0, if_pos h0]
  · rw [if_neg h0, if_neg h0]
    have e : l.all X.isDigit = l.all dg := by congr 1
    rw [e]
    by_cases h1 : l.all dg = true
    · rw [if_pos h1, if_pos h1]
      unfold X.digs
      rw [dgs_fold]
    · rw [if_neg h1, if_neg h1]
theorem r1digits (l : Bs) (hl : l.length ≤ 1000000) (k : Nat) (hk : l.length + 1 < k) : ref01_Digits.f k (B l) = some (digV l) := by
  unfold ref01_Digits.f ref01_Digits.l0
  refine iter_eq (f := ref01_Digits.l0b k) (fun v => v.1 = B l ∧ ∃ i : Nat, v.2.2 = (i : Int) ∧ i ≤ l.length ∧ ∃ n : Int, v.2.1 = n ∧ 0 ≤ n ∧ n ≤ 2147483648 ∧ dgs n (l.drop i) = dgs 0 l ∧ (l.take i).all dg = true) (fun v => (l.length + 1 - v.2.2).toNat) (fun _ => some (digV l)) ?_ k _ ⟨rfl, 0, rfl, Nat.zero_le _, 0, rfl, Int.le_refl _, by decide, rfl, rfl⟩ (by show ((l.length : Int) + 1 - 0).toNat < k; omega)
  rintro r ⟨s, n', i'⟩ ⟨h1, i, h3, hi, n, h0, h4, h5, h6, h7⟩ hr
  simp only at h1 h3 h0
  subst h1; subst h3; subst h0
  unfold ref01_Digits.l0b
  simp only [B_len, B_bt, ltI_nat, inB_nat, ifO_dec]
  by_cases h : i < l.length
  · have hu := l[i].toNat_lt
    have hb : ∀ b : Bool, dg l[i] = b → dg l[i] = b := fun _ h => h
    have hf : dg l[i] = false → digV l = (0, false) := by
      intro hc
      have : l.all dg = false := List.all_eq_false.2 ⟨l[i], List.getElem_mem h, by rw [hc]; decide⟩
      unfold digV
      rw [this]
      split <;> rfl
    rw [if_pos h, if_pos h, show l.getD i 0 = l[i] by rw [List.getD_eq_getElem?_getD, List.getElem?_eq_getElem h]; rfl, show ltI (l[i].toNat : Int) 48 = decide (l[i].toNat < 48) from ltI_nat _ 48, show ltI 57 (l[i].toNat : Int) = decide (57 < l[i].toNat) from ltI_nat 57 _, ifO_dec, ifO_dec]
    by_cases h8 : l[i].toNat < 48
    · rw [if_pos h8, hf (by unfold dg; simp; omega)]
    rw [if_neg h8, if_pos h]
    by_cases h9 : 57 < l[i].toNat
    · rw [if_pos h9, hf (by unfold dg; simp; omega)]
    have hc : dg l[i] = true := by unfold dg; simp; omega
    rw [if_neg h9, if_pos h, mul64 (by omega) (by omega), show convI .i64 (l[i].toNat : Int) = (l[i].toNat : Int) from w64 (by omega) (by omega), add64 (by omega) (by omega), sub64 (by omega) (by omega), next64 (by omega), minI_eq]
    refine hr _ ⟨rfl, i + 1, rfl, h, min (10 * n' + (l[i].toNat : Int) - 48) 2147483648, rfl, ?_, ?_, ?_, ?_⟩ (by show ((l.length : Int) + 1 - ((i + 1 : Nat) : Int)).toNat < ((l.length : Int) + 1 - (i : Int)).toNat; omega)
    · omega
    · omega
    · rw [← h6, List.drop_eq_getElem_cons h]
      show dgs _ _ = dgs (min (10 * n' + ((l[i].toNat : Int) - 48)) 2147483648) _
      congr 2; omega
    · rw [List.take_add_one, List.getElem?_eq_getElem h, List.all_append, h7]
      simp [hc]
  · rw [if_neg h]
    rw [List.drop_eq_nil_of_le (by omega)] at h6
    rw [List.take_of_length_le (by omega)] at h7
    rw [show ltI 0 (l.length : Int) = decide (0 < l.length) from ltI_nat 0 _]
    unfold digV
    rw [if_pos h7, show n' = dgs 0 l from h6]
    cases l with
    | nil => rfl
    | cons c l => rw [if_neg (by simp)]; simp
end Go.Proofs.YtmmbedlegmbppaaDoor.R
