/- HeadTells: what is told of a head is what the document tells; no condition. -/
import Derived.Test.YtkjjegjafpefcaaDoorPHead3
import Derived.Test.YtkjjegjafpefcaaDoorRW
namespace Go.Proofs.YtkjjegjafpefcaaDoor.R
open Go Go.RowKit
set_option linter.unusedSimpArgs false
set_option linter.unusedVariables false
/-- The fields of the first small test. -/
def L6 : List Fld := [(B [97], B [98]), (B [99], B [100, 44, 32, 101]), (B [97], B [102])]
theorem awake6 (k : Nat) (hk : 100010 ≤ k) : law06_awake.f k () = some true := by
  have s0 : sumF L6 ≤ 100000 := of_decide_eq_true (by kernel_rfl)
  have p1 : head_Parse.f k (⟨#[65, 58, 32, 98, 32, 13, 10, 99, 58, 100, 44, 32, 101, 13, 10, 97, 58, 102, 13, 10, 13, 10, 120]⟩ : ByteArray) = some (L6, 22, 0) := (parse_is [65, 58, 32, 98, 32, 13, 10, 99, 58, 100, 44, 32, 101, 13, 10, 97, 58, 102, 13, 10, 13, 10, 120] (by decide) k hk).trans (by kernel_rfl)
  have p2 : head_Parse.f k (⟨#[32, 97, 58, 32, 98, 13, 10, 13, 10]⟩ : ByteArray) = some ([], 0, 2) := (parse_is [32, 97, 58, 32, 98, 13, 10, 13, 10] (by decide) k hk).trans (by kernel_rfl)
  have p3 : head_Parse.f k (⟨#[97, 58, 32, 98, 13, 10]⟩ : ByteArray) = some ([], 0, 3) := (parse_is [97, 58, 32, 98, 13, 10] (by decide) k hk).trans (by kernel_rfl)
  have r1 : rightV L6 = true := by kernel_rfl
  unfold law06_awake.f
  rw [p1, bindO_some]
  show bindO (head_Print.f k L6) _ = _
  rw [print_is L6 s0 k hk, bindO_some, if_pos r1]
  show bindO (head_Get.f k (L6, (⟨#[97]⟩ : ByteArray))) _ = _
  rw [get_is _ L6 s0, bindO_some, p2, bindO_some, p3, bindO_some]
  have g1 : getV (⟨#[97]⟩ : ByteArray) L6 = [98, 44, 32, 102] := by kernel_rfl
  have g2 : decide (0 < (XG.vals (⟨#[97]⟩ : ByteArray) L6).length) = true := by kernel_rfl
  have q1 : printL L6 ++ [13, 10] = [97, 58, 32, 98, 13, 10, 99, 58, 32, 100, 44, 32, 101, 13, 10, 97, 58, 32, 102, 13, 10, 13, 10] := by kernel_rfl
  rw [g1, g2, q1]
  dsimp only
  rw [right_is L6 (by omega) k (by show 3 + 1 < k; omega), r1, bindO_some, show head_Without.f k (L6, [(⟨#[97]⟩ : ByteArray), (⟨#[120]⟩ : ByteArray)]) = some [(B [99], B [100, 44, 32, 101])] by kernel_rfl, bindO_some, with_is L6 _ _ (by decide) k, bindO_some]
  show _ = some true
  kernel_rfl
theorem fits_of {l : List Fld} (h : ∀ x ∈ l, Ty.Wf (.agg (.pair .str .str)) x) : Fits l := fun f hf => h f hf
theorem tells6 (l : List Fld) (s nm : ByteArray) (hl : sumF l ≤ 10000) (hs : s.size ≤ 10000) (hn : nm.size ≤ 100) (k : Nat) (hk : 100010 ≤ k) : law06_HeadTells.j2 k (l, (s, (nm, (true, false)))) = some true := by
  have hlen := sumF_len l
  have hsB : s = B s.data.toList := B_of s
  have es : s.data.toList.length = s.size := by rw [Array.length_toList]; rfl
  have e1 : head_Parse.f k s = some (parseV s.data.toList) := (congrArg (fun q => head_Parse.f k q) hsB).trans (parse_is s.data.toList (by omega) k hk)
  have e2 : ref06_Parse.f k s = some (parseV s.data.toList) := (congrArg (fun q => ref06_Parse.f k q) hsB).trans (r6parse s.data.toList (by omega) k hk)
  have e3 : head_All.f k (l, nm) = some (XG.vals nm l) := by unfold head_All.f; rw [if_pos (show l.length ≤ 100000 by omega)]
  have hv := XG.vals_len nm l
  have hp : (parseV s.data.toList).1.length ≤ 64 := by
    unfold parseV parseR
    have : ∀ (n : Nat) (m : Bs) (out : List Fld), out.length ≤ 64 → (parseM n m out).1.length ≤ 64 := by
      intro n
      induction n with
      | zero => intro m out _; exact Nat.zero_le _
      | succ n ih =>
        intro m out ho
        unfold parseM
        split
        · exact Nat.zero_le _
        · split
          · exact ho
          · split
            · exact Nat.zero_le _
            · split
              · exact Nat.zero_le _
              · exact ih _ _ (by rw [List.length_append]; show _ + 1 ≤ 64; omega)
    exact this _ _ [] (Nat.zero_le _)
  have qi : ∀ x : Int, eqI x x = true := fun x => by rw [eqI_dec]; simp
  have qb : ∀ x : Bool, eqB x x = true := fun x => by cases x <;> rfl
  unfold law06_HeadTells.j2
  simp only
  rw [ifO_false, e1, bindO_some, e2, bindO_some, r6same _ (by omega) k (by omega), bindO_some, print_is l (by omega) k hk, bindO_some, r6print l (by omega) k hk, bindO_some, get_is nm l (by omega), bindO_some, r6get nm l (by omega) k hk, bindO_some, e3, bindO_some, r6all l nm (by omega) k (by omega), bindO_some, r1same _ (by omega) k (by omega), bindO_some, with_is l nm s (by omega), bindO_some, r6with l nm s (by omega), bindO_some, r6same _ (by rw [List.length_append]; show _ + 1 ≤ _; omega) k (by rw [List.length_append]; show _ + 1 + 1 < _; omega), bindO_some]
  rw [qi, qi, qi, eqS_self, eqS_self, qb, right_is l (by omega) k (by omega), r6right l (by omega) k hk]
  simp only [ifO_true, bindO_some, qb]
theorem HeadTells (l : List Fld) (s nm : ByteArray) (w0 : l.length ≤ 140737488351232 ∧ ∀ x ∈ l, Ty.Wf (.agg (.pair .str .str)) x) (w1 : Ty.Wf .str s) (w2 : Ty.Wf .str nm) : ∃ k, law06_HeadTells.f k (l, (s, nm)) = some true := by
  refine ⟨l.length + 100020, ?_⟩
  have no : law06_HeadTells.j2 (l.length + 100020) (l, (s, (nm, (true, true)))) = some true := rfl
  unfold law06_HeadTells.f
  rw [awake6 _ (by omega), bindO_some, size_is l w0.1 (fits_of w0.2) _ (by omega), bindO_some]
  rw [show ltI 10000 ((szs 0 l : Nat) : Int) = decide (10000 < szs 0 l) from ltI_nat 10000 _, ifO_dec]
  by_cases hs : 10000 < szs 0 l
  · rw [if_pos hs]; exact no
  rw [if_neg hs]
  have hsum : sumF l ≤ 10000 := by have := szs_small 10000 (by decide) l 0 (by omega); omega
  show ifO (ltI 10000 (lenS s)) _ (law06_HeadTells.j2 _ (l, (s, (nm, (true, ltI 100 (lenS nm)))))) = _
  rw [show ltI 10000 (lenS s) = decide (10000 < s.size) from ltI_nat 10000 _, ifO_dec, show ltI 100 (lenS nm) = decide (100 < nm.size) from ltI_nat 100 _]
  by_cases h1 : 10000 < s.size
  · rw [if_pos h1]; exact no
  rw [if_neg h1]
  by_cases h2 : 100 < nm.size
  · rw [decide_eq_true h2]; exact no
  · rw [decide_eq_false h2]
    exact tells6 l s nm hsum (by omega) (by omega) _ (by omega)
end Go.Proofs.YtkjjegjafpefcaaDoor.R
