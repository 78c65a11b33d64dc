/- Texts of this session's own, as far as they are used here. -/
import Derived.Test.YtpddbfodjeoofaaKV
namespace Go.Proofs.Ytpddbfodjeoofaa.Pure
open Go.RowKit Go.Proofs.YtpddbfodjeoofaaW.PrintWords
set_option linter.unusedSimpArgs false
set_option linter.unusedVariables false
abbrev Bs := List UInt8
def B (l : Bs) : ByteArray := ⟨l.toArray⟩
theorem B_size (l : Bs) : (B l).size = l.length := by simp [B, ByteArray.size]
theorem B_data (l : Bs) : (B l).data.toList = l := by simp [B]
theorem B_of (s : ByteArray) : s = B s.data.toList := by cases s; simp [B]
theorem B_ext {s t : ByteArray} (h : s.data.toList = t.data.toList) : s = t := by rw [B_of s, B_of t, h]
theorem B_extract (l : Bs) (a b : Nat) : (B l).extract a b = B ((l.take b).drop a) := B_ext (by simp [B, ByteArray.data_extract, List.extract_eq_drop_take', Array.toList_extract])
theorem loop_eq (bs : ByteArray) : ∀ (n i : Nat) (r : List UInt8), bs.size - i = n → ByteArray.toList.loop bs i r = r.reverse ++ bs.data.toList.drop i := by
  intro n
  induction n with
  | zero => intro i r h; unfold ByteArray.toList.loop; rw [if_neg (by omega)]; rw [List.drop_eq_nil_of_le (by simp only [ByteArray.size] at h; simp only [Array.length_toList]; omega)]; simp
  | succ n ih =>
    intro i r h
    unfold ByteArray.toList.loop
    rw [if_pos (by omega), ih (i + 1) _ (by omega)]
    have hi : i < bs.data.toList.length := by simp only [Array.length_toList]; simp only [ByteArray.size] at h; omega
    rw [List.drop_eq_getElem_cons hi]
    have : bs.get! i = bs.data.toList[i] := by
      show bs.data[i]! = _
      have h2 : i < bs.data.size := by simpa using hi
      rw [getElem!_pos bs.data i h2]; simp
    rw [this]
    simp
theorem toList_eq (bs : ByteArray) : bs.toList = bs.data.toList := by
  unfold ByteArray.toList
  rw [loop_eq bs _ 0 [] rfl]; simp
theorem B_toList (l : Bs) : (B l).toList = l := by rw [toList_eq, B_data]
theorem B_bt (l : Bs) (i : Int) : bt (B l) i = ((l.getD i.toNat 0).toNat : Int) := by
  unfold bt
  split
  · rename_i h
    rw [B_size] at h
    rename_i h0
    have e : (B l)[i.toNat]'h0 = l[i.toNat] := rfl
    rw [e, List.getD_eq_getElem?_getD, List.getElem?_eq_getElem h]; rfl
  · rename_i h
    rw [B_size] at h
    rw [List.getD_eq_getElem?_getD, List.getElem?_eq_none (by omega)]
    rfl
theorem B_get (l : Bs) (i : Nat) (h : i < l.length) : bt (B l) (i : Int) = (l[i].toNat : Int) := by
  rw [B_bt, Int.toNat_natCast, List.getD_eq_getElem?_getD, List.getElem?_eq_getElem h]; rfl
end Go.Proofs.Ytpddbfodjeoofaa.Pure

