/- The document's Trim is the library's. -/
import Derived.Test.YtpddbfodjeoofaaDoorPAsciix3
import Derived.Test.YtpddbfodjeoofaaDoorPureAsciiStays
namespace Go.Proofs.YtpddbfodjeoofaaDoor.Pure
open Go.RowKit Go.Proofs.YtpddbfodjeoofaaDoor.PAscii Go.Proofs.YtpddbfodjeoofaaDoorW.PrintWords Go.Proofs.YtpddbfodjeoofaaDoorW.PrintLast
set_option linter.unusedSimpArgs false
set_option linter.unusedVariables false
theorem u64 {x : Int} (h : -9223372036854775808 ≤ x) (h' : x ≤ 9223372036854775807) : wrap64 x = x := by unfold wrap64; omega
theorem rblank (c : UInt8) : sculleryref01_blank.f (c.toNat : Int) = some (blankB c) := by
  unfold sculleryref01_blank.f blankB X.isBlank
  by_cases h : c.toNat = 32
  · rw [if_pos (by omega)]; simp [h]
  · rw [if_neg (by omega)]
    congr 1
    rw [Bool.eq_iff_iff]
    simp [h]
    omega
theorem strip_cons (c : UInt8) (r : Bs) (h : blankB c = true) : strip (c :: r) = strip r := by
  unfold strip; rw [List.dropWhile_cons, if_pos h]
theorem dw_stop (c : UInt8) (r : Bs) (h : blankB c = false) : (c :: r).dropWhile blankB = c :: r := by
  rw [List.dropWhile_cons, h]; rfl
theorem strip_last (m : Bs) (c d : UInt8) (h : blankB c = false) (hd : blankB d = true) : strip (c :: m ++ [d]) = strip (c :: m) := by
  unfold strip
  rw [List.cons_append, dw_stop c _ h, dw_stop c _ h, ← List.cons_append, nbEnd_blank _ _ hd]
  exact List.take_append_of_le_length (nbEnd_le _)
theorem strip_full (m : Bs) (c d : UInt8) (h : blankB c = false) (hd : blankB d = false) (hm : ∃ p, c :: m = p ++ [d]) : strip (c :: m) = c :: m := by
  obtain ⟨p, hp⟩ := hm
  unfold strip
  rw [dw_stop c _ h, hp, nbEnd_stop _ _ hd]
  exact List.take_of_length_le (by simp)
theorem rtrim : ∀ (n : Nat) (l : Bs) (k : Nat), l.length ≤ n → l.length ≤ 100000 → 2 * n + 2 ≤ k → sculleryref01_Trim.f k (B l) = some (B (strip l)) := by
  intro n
  induction n with
  | zero =>
    intro l k hn h1 hk
    obtain ⟨k, rfl⟩ : ∃ j, k = j + 1 + 1 := ⟨k - 2, by omega⟩
    obtain rfl := List.length_eq_zero_iff.1 (Nat.le_zero.1 hn)
    rfl
  | succ n ih =>
    intro l k hn h1 hk
    obtain ⟨k, rfl⟩ : ∃ j, k = j + 1 + 1 := ⟨k - 2, by omega⟩
    cases l with
    | nil => rfl
    | cons c r =>
      simp only [List.length_cons] at hn h1
      simp only [sculleryref01_Trim.f]
      have hsz : (B (c :: r)).size = r.length + 1 := by rw [B_size]; rfl
      have hb0 : bt (B (c :: r)) 0 = (c.toNat : Int) := B_get (c :: r) 0 (by simp)
      rw [hsz, if_pos (by omega), if_pos (by omega), hb0, rblank]
      simp only [Option.bind_some, sculleryref01_Trim.j0]
      rw [hsz]
      by_cases hc : blankB c = true
      · rw [if_pos hc, if_pos (by omega)]
        have e : (B (c :: r)).extract 1 (r.length + 1) = B r := by rw [B_extract, List.take_of_length_le (by simp)]; rfl
        rw [e, ih r k (by omega) (by omega) (by omega), strip_cons c r hc]; rfl
      · have hcf : blankB c = false := by simpa using hc
        rw [if_neg hc, if_pos (by omega), u64 (x := ((r.length + 1 : Nat) : Int) - 1) (by omega) (by omega), if_pos (by omega), if_pos (by omega)]
        obtain ⟨p, d, hp⟩ : ∃ p d, c :: r = p ++ [d] := ⟨(c :: r).dropLast, (c :: r).getLast (by simp), (List.dropLast_concat_getLast (by simp)).symm⟩
        have hpl : p.length = r.length := by have := congrArg List.length hp; simp at this; omega
        have hbl : bt (B (c :: r)) (((r.length + 1 : Nat) : Int) - 1) = (d.toNat : Int) := by
          rw [show (((r.length + 1 : Nat) : Int) - 1) = ((r.length : Nat) : Int) by omega, B_get _ _ (by simp)]
          congr 2
          have : (c :: r)[r.length]? = some d := by rw [hp, List.getElem?_append_right (by omega), hpl, Nat.sub_self]; rfl
          rw [List.getElem?_eq_getElem (by simp)] at this
          exact Option.some.inj this
        rw [hbl, rblank]
        simp only [Option.bind_some]
        by_cases hd : blankB d = true
        · rw [if_pos hd, if_pos (by omega), show (((r.length + 1 : Nat) : Int) - 1).toNat = r.length by omega, B_extract, List.drop_zero]
          have e : (c :: r).take r.length = p := by rw [hp, ← hpl, List.take_left']; rfl
          rw [e, ih p k (by omega) (by omega) (by omega)]
          simp only [Option.bind_some]
          cases p with
          | nil =>
            have h2 : r = [] := List.length_eq_zero_iff.1 (by simpa using hpl.symm)
            subst h2
            simp at hp
            rw [hp] at hcf; rw [hcf] at hd; cases hd
          | cons c' m =>
            rw [List.cons_append] at hp
            obtain ⟨rfl, rfl⟩ := List.cons.inj hp
            rw [← List.cons_append, strip_last m c d hcf hd]
        · rw [if_neg hd, strip_full r c d hcf (by simpa using hd) ⟨p, hp⟩]
end Go.Proofs.YtpddbfodjeoofaaDoor.Pure
