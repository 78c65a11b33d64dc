/- AsciiTells: what the program tells of a text is what the document tells. -/
import Derived.Test.YtpddbfodjeoofaaDoorPAsciix3
import Derived.Test.YtpddbfodjeoofaaDoorRefD
namespace Go.Proofs.YtpddbfodjeoofaaDoor.Pure
open Go.RowKit Go.Proofs.YtpddbfodjeoofaaDoor.PAscii Go.Proofs.YtpddbfodjeoofaaDoorW.PrintWords Go.Proofs.YtpddbfodjeoofaaDoorW.PrintLast
theorem AsciiTells (s : ByteArray) : ∃ k, scullerylaw01_AsciiTells.f k s = some true := by
  refine ⟨3000, ?_⟩
  rw [B_of s]
  generalize s.data.toList = l
  unfold scullerylaw01_AsciiTells.f
  rw [scullerylaw01_awake.up, B_size]
  simp only [Option.bind_some]
  by_cases h : (l.length : Int) > 500
  · rw [if_pos h]
  have hl : l.length ≤ 500 := by omega
  rw [if_neg h, digits_same l hl _ (by omega), split_same l hl _ (by omega), token_same l hl _ (by omega), text_same l hl _ (by omega), lower_same l hl _ (by omega), trim_same l hl _ (by omega)]
  have d : ∃ r, X.ascii_Digits.f (B l) = some r := by unfold X.ascii_Digits.f; rw [B_size, if_pos (by omega)]; exact ⟨_, rfl⟩
  have sp : ∃ r, X.ascii_Split.f (B l) = some r ∧ r.length ≤ 1000 := by
    unfold X.ascii_Split.f; rw [B_size, if_pos (by omega)]
    exact ⟨_, rfl, by have := cuts_len (B l) (l.length + 1) 0 0 []; simp only [List.length_nil] at this; omega⟩
  have t : ∃ r, X.ascii_Token.f (B l) = some r := ⟨_, token_f l hl⟩
  have x : ∃ r, X.ascii_Text.f (B l) = some r := by unfold X.ascii_Text.f; rw [B_size, if_pos (by omega)]; exact ⟨_, rfl⟩
  have lo : ∃ r, X.ascii_Lower.f (B l) = some r := ⟨_, low_f l hl⟩
  have tr : ∃ r, X.ascii_Trim.f (B l) = some r := ⟨_, trim_f l hl⟩
  obtain ⟨d, hd⟩ := d
  obtain ⟨sp, hsp, hs⟩ := sp
  obtain ⟨t, ht⟩ := t
  obtain ⟨x, hx⟩ := x
  obtain ⟨lo, hlo⟩ := lo
  obtain ⟨tr, htr⟩ := tr
  rw [hd, hsp, ht, hx, hlo, htr]
  simp only [Option.bind_some]
  rw [same_self sp hs _ (by omega)]
  simp
end Go.Proofs.YtpddbfodjeoofaaDoor.Pure
