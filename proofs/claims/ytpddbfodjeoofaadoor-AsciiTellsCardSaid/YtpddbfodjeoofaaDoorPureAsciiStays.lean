/- AsciiStays: lowering and trimming twice is doing so once; a token is a text that may be a value, and one part of its own; no condition. -/
import Derived.Test.YtpddbfodjeoofaaDoorPAsciix3
import Derived.Test.YtpddbfodjeoofaaDoorTrim
namespace Go.Proofs.YtpddbfodjeoofaaDoor.Pure
open Go.RowKit Go.Proofs.YtpddbfodjeoofaaDoor.PAscii Go.Proofs.YtpddbfodjeoofaaDoorW.PrintWords Go.Proofs.YtpddbfodjeoofaaDoorW.PrintLast
set_option linter.unusedSimpArgs false
set_option linter.unusedVariables false
theorem dw_dw (l : Bs) : (l.dropWhile blankB).dropWhile blankB = l.dropWhile blankB := by
  induction l with
  | nil => rfl
  | cons c l ih =>
    rw [List.dropWhile_cons]
    by_cases h : blankB c = true
    · rw [if_pos h]; exact ih
    · rw [if_neg h, List.dropWhile_cons, if_neg h]
theorem take_nb (l : Bs) : l.take (nbEnd l) = (l.reverse.dropWhile blankB).reverse := by
  unfold nbEnd
  have h := congrArg List.reverse (List.takeWhile_append_dropWhile (p := blankB) (l := l.reverse))
  rw [List.reverse_append, List.reverse_reverse] at h
  generalize l.reverse.dropWhile blankB = d at h ⊢
  generalize l.reverse.takeWhile blankB = t at h
  rw [← h, List.take_left' (by simp)]
theorem nb_nb (l : Bs) : nbEnd (l.take (nbEnd l)) = nbEnd l := by
  rw [take_nb]; unfold nbEnd; rw [List.reverse_reverse, dw_dw]
theorem strip_strip (l : Bs) : strip (strip l) = strip l := by
  have h : (strip l).dropWhile blankB = strip l := by
    unfold strip
    cases hd : l.dropWhile blankB with
    | nil => simp
    | cons c r =>
      have hc : ¬ blankB c = true := by
        intro hb
        have := dw_dw l
        rw [hd, List.dropWhile_cons, if_pos hb] at this
        have h2 := congrArg List.length this
        have h3 : (r.dropWhile blankB).length ≤ r.length := by
          have := congrArg List.length (List.takeWhile_append_dropWhile (p := blankB) (l := r))
          rw [List.length_append] at this; omega
        rw [List.length_cons] at h2; omega
      cases hn : nbEnd (c :: r) with
      | zero => rfl
      | succ n => rw [List.take_succ_cons, List.dropWhile_cons, if_neg hc]
  show ((strip l).dropWhile blankB).take (nbEnd ((strip l).dropWhile blankB)) = strip l
  rw [h]
  unfold strip
  rw [nb_nb, List.take_take, Nat.min_self]
theorem strip_le (l : Bs) : (strip l).length ≤ l.length := by
  unfold strip
  rw [List.length_take]
  have := congrArg List.length (List.takeWhile_append_dropWhile (p := blankB) (l := l))
  rw [List.length_append] at this; omega
theorem strip_id (l : Bs) (h : ∀ c ∈ l, blankB c = false) : strip l = l := by
  have d : ∀ m : Bs, (∀ c ∈ m, blankB c = false) → m.dropWhile blankB = m := by
    intro m hm
    cases m with
    | nil => rfl
    | cons c r => rw [List.dropWhile_cons, if_neg (by rw [hm c (by simp)]; decide)]
  unfold strip
  rw [d l h]
  unfold nbEnd
  rw [d l.reverse (fun c hc => h c (List.mem_reverse.1 hc)), List.length_reverse, List.take_length]
set_option maxRecDepth 100000 in
theorem tchar_all : ∀ n : Fin 256, X.isTchar (UInt8.ofNat n.val) = true → X.isText (UInt8.ofNat n.val) = true ∧ X.isTchar (X.lowB (UInt8.ofNat n.val)) = true ∧ blankB (UInt8.ofNat n.val) = false ∧ n.val ≠ 34 ∧ n.val ≠ 44 := by decide +kernel
theorem tchar_is (c : UInt8) (h : X.isTchar c = true) : X.isText c = true ∧ X.isTchar (X.lowB c) = true ∧ blankB c = false ∧ c.toNat ≠ 34 ∧ c.toNat ≠ 44 := by
  have := tchar_all ⟨c.toNat, c.toNat_lt⟩
  simp only [UInt8.ofNat_toNat] at this
  exact this h
set_option maxRecDepth 100000 in
theorem low_all : ∀ n : Fin 256, X.lowB (X.lowB (UInt8.ofNat n.val)) = X.lowB (UInt8.ofNat n.val) := by decide +kernel
theorem low_low (c : UInt8) : X.lowB (X.lowB c) = X.lowB c := by
  have := low_all ⟨c.toNat, c.toNat_lt⟩
  simpa only [UInt8.ofNat_toNat] using this
theorem allB_B (p : UInt8 → Bool) (l : Bs) : X.allB p (B l) = l.all p := by unfold X.allB; rw [B_data]
theorem low_f (l : Bs) (h : l.length ≤ 500) : X.ascii_Lower.f (B l) = some (B (l.map X.lowB)) := by
  unfold X.ascii_Lower.f; rw [B_size, if_pos (by omega), B_data]; rfl
theorem trim_f (l : Bs) (h : l.length ≤ 500) : X.ascii_Trim.f (B l) = some (B (strip l)) := by
  unfold X.ascii_Trim.f; rw [B_size, if_pos (by omega), trim_eq]
theorem token_f (l : Bs) (h : l.length ≤ 500) : X.ascii_Token.f (B l) = some (if l = [] then false else l.all X.isTchar) := by
  unfold X.ascii_Token.f; rw [B_size, if_pos (by omega), B_toList, allB_B]
theorem cuts_plain (l : Bs) (h : ∀ c ∈ l, c.toNat ≠ 34 ∧ c.toNat ≠ 44) : ∀ k i, i ≤ l.length → X.cuts (B l) k 0 i [] = X.takeP [] (B l) := by
  have he : (B l).extract 0 (B l).size = B l := by rw [B_extract, B_size, List.take_length, List.drop_zero]
  intro k
  induction k with
  | zero => intro i _; unfold X.cuts; rw [he]
  | succ k ih =>
    intro i hi
    unfold X.cuts
    by_cases hlt : i < (B l).size
    · have hl : i < l.length := by rwa [B_size] at hlt
      have hc := h _ (List.getElem_mem hl)
      have hg : (B l).data.toList.getD i 0 = l[i] := by rw [B_data, List.getD_eq_getElem?_getD, List.getElem?_eq_getElem hl]; rfl
      rw [if_pos hlt, hg, if_neg hc.1, if_neg hc.2]
      exact ih (i + 1) (by omega)
    · rw [if_neg hlt, he]
theorem AsciiStays (s : ByteArray) : ∃ k, scullerylaw01_AsciiStays.f k s = some true := by
  refine ⟨1, ?_⟩
  rw [B_of s]
  generalize s.data.toList = l
  unfold scullerylaw01_AsciiStays.f
  rw [scullerylaw01_awake.up, B_size]
  simp only [Option.bind_some]
  by_cases h : (l.length : Int) > 500
  · rw [if_pos h]
  rw [if_neg h, low_f l (by omega), trim_f l (by omega)]
  simp only [Option.bind_some]
  have hs := strip_le l
  rw [low_f _ (by rw [List.length_map]; omega), trim_f _ (by omega)]
  simp only [Option.bind_some]
  have hmm : (l.map X.lowB).map X.lowB = l.map X.lowB := by rw [List.map_map]; congr 1; funext c; exact low_low c
  rw [if_pos (by rw [hmm]), if_pos (by rw [strip_strip]), B_size, List.length_map, if_pos rfl, B_size, decide_eq_false (by omega)]
  simp only [scullerylaw01_AsciiStays.j0]
  rw [if_neg (by decide), token_f l (by omega)]
  simp only [Option.bind_some]
  by_cases h0 : l = []
  · rw [if_pos h0, if_neg (by decide)]
  rw [if_neg h0]
  by_cases ht : l.all X.isTchar = true
  · rw [if_pos ht]
    rw [List.all_eq_true] at ht
    have T := fun c hc => tchar_is c (ht c hc)
    have hst : strip l = l := strip_id l (fun c hc => (T c hc).2.2.1)
    have hsp : X.ascii_Split.f (B l) = some [B l] := by
      unfold X.ascii_Split.f
      rw [B_size, if_pos (by omega), cuts_plain l (fun c hc => ⟨(T c hc).2.2.2.1, (T c hc).2.2.2.2⟩) _ 0 (Nat.zero_le _)]
      unfold X.takeP
      rw [trim_eq, hst, B_toList, if_neg h0]; rfl
    have htx : X.ascii_Text.f (B l) = some true := by
      unfold X.ascii_Text.f
      rw [B_size, if_pos (by omega), allB_B, if_pos (by rw [List.all_eq_true]; exact fun c hc => (T c hc).1), trim_eq, hst, beq_self_eq_true]
    have hlt : (l.map X.lowB).all X.isTchar = true := by
      rw [List.all_eq_true]
      intro c hc
      obtain ⟨d, hd, rfl⟩ := List.mem_map.1 hc
      exact (T d hd).2.1
    have htk : X.ascii_Token.f (B (l.map X.lowB)) = some true := by
      rw [token_f _ (by rw [List.length_map]; omega), if_neg (by intro e; exact h0 (List.map_eq_nil_iff.1 e)), hlt]
    rw [hsp, htx, htk]
    simp only [Option.bind_some, if_true]
    rw [hst, if_pos rfl, if_pos (by simp), if_pos (by simp)]
    simp [rdOf]
  · rw [if_neg ht]
end Go.Proofs.YtpddbfodjeoofaaDoor.Pure
