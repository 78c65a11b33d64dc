/- Lower letters: the program's and the document's are one. -/
import Derived.Test.YtmmbedlegmbppaaDoorPCut
import Derived.Test.YtmmbedlegmbppaaDoorF0
namespace Go.Proofs.YtmmbedlegmbppaaDoor.R
open Go Go.RowKit
set_option linter.unusedSimpArgs false
set_option linter.unusedVariables false
def lowL (l : Bs) : Bs := l.map X.lowB
theorem lower_is (l : Bs) (h : l.length ≤ 9223372036854775807) (k : Nat) : ascii_Lower.f k (B l) = some (B (lowL l)) := by
  unfold ascii_Lower.f X.ascii_Lower.f
  rw [B_size, if_pos h, B_data]
  rfl
theorem r1lower (l : Bs) (hl : l.length ≤ 1000000) (k : Nat) (hk : l.length + 1 < k) : ref01_Lower.f k (B l) = some (B (lowL l)) := by
  unfold ref01_Lower.f ref01_Lower.l0
  refine iter_eq (f := ref01_Lower.l0b k) (fun v => v.1 = B l ∧ ∃ i : Nat, v.2.2 = (i : Int) ∧ i ≤ l.length ∧ v.2.1 = (lowL (l.take i)).map fun c => (c.toNat : Int)) (fun v => (l.length + 1 - v.2.2).toNat) (fun _ => some (B (lowL l))) ?_ k _ ⟨rfl, 0, rfl, Nat.zero_le _, rfl⟩ (by show ((l.length : Int) + 1 - 0).toNat < k; omega)
  rintro r ⟨s, xs, i'⟩ ⟨h1, i, h3, hi, h7⟩ hr
  simp only at h1 h3 h7
  subst h1; subst h3; subst h7
  unfold ref01_Lower.l0b ref01_Lower.j1
  simp only [B_len, ltI_nat, inB_nat, ifO_dec]
  by_cases h : i < l.length
  · have hu := l[i].toNat_lt
    have hlen : ((lowL (l.take i)).map fun c => (c.toNat : Int)).length = i := by simp [lowL]; omega
    have go : ∀ x : Int, x = ((X.lowB l[i]).toNat : Int) → ifO (fitsL (lenL ((lowL (l.take i)).map fun c => (c.toNat : Int))) (lenL (x :: ([] : List Int))) 1) (r (B l, (catL ((lowL (l.take i)).map fun c => (c.toNat : Int)) (x :: ([] : List Int))), addI .i64 (i : Int) 1)) none = some (B (lowL l)) := by
      intro x hx
      rw [ifO_yes (show fitsL (lenL ((lowL (l.take i)).map fun c => (c.toNat : Int))) (lenL (x :: ([] : List Int))) 1 = true by
        rw [lenL_nat, hlen]
        exact fitsL_yes (n := i) (m := 1) (bytes := 1) (by omega) (by omega)), next64 (by omega)]
      refine hr _ ⟨rfl, i + 1, rfl, h, ?_⟩ (by show ((l.length : Int) + 1 - ((i + 1 : Nat) : Int)).toNat < ((l.length : Int) + 1 - (i : Int)).toNat; omega)
      show _ ++ [x] = _
      rw [List.take_add_one, List.getElem?_eq_getElem h, hx]
      unfold lowL
      rw [List.map_append, List.map_append]
      rfl
    rw [if_pos h, if_pos h, B_at h, show leI 65 (l[i].toNat : Int) = decide (65 ≤ l[i].toNat) from leI_nat 65 _, show leI (l[i].toNat : Int) 90 = decide (l[i].toNat ≤ 90) from leI_nat _ 90, ifO_dec, ifO_dec]
    by_cases a : 65 ≤ l[i].toNat
    · rw [if_pos a]
      by_cases b : l[i].toNat ≤ 90
      · rw [if_pos b]
        refine go _ ?_
        rw [X.lowB_yes a b]
        unfold addI IntKind.wrap
        rw [show (2 : Int) ^ (IntKind.bits .u8) = 256 from rfl]
        simp only [show IntKind.signed .u8 = false from rfl, Bool.false_and]
        split
        · contradiction
        · omega
      · rw [if_neg b]; exact go _ (by rw [X.lowB_no (by omega)])
    · rw [if_neg a]; exact go _ (by rw [X.lowB_no (by omega)])
  · rw [if_neg h, List.take_of_length_le (by omega), B_ofBytes]
end Go.Proofs.YtmmbedlegmbppaaDoor.R
