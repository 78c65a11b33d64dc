/- The law ChunkTells, in plain Lean. -/
import Derived.Test.YtmmbedlegmbppaaGreatDoorPChk5
import Derived.Test.YtmmbedlegmbppaaGreatDoorRW
namespace Go.Proofs.YtmmbedlegmbppaaGreatDoor.R
open Go Go.RowKit
set_option maxRecDepth 100000 in
theorem awake07 : law07_awake.f 100020 () = some true := by
  unfold law07_awake.f
  rw [B_lit #[97, 98, 99], B_lit #[65, 32, 59, 120, 61, 49, 13, 10, 48, 49, 50, 51, 52, 53, 54, 55, 56, 57, 13, 10, 48, 13, 10, 122, 58, 32, 121, 13, 10, 13, 10, 109, 111, 114, 101], B_lit #[49, 13, 10, 97, 98], B_lit #[]]
  rw [enc_is _ _ _ (by omega), bindO_some, dec_is _ (by decide) _ (by omega), bindO_some, dec_is _ (by decide) _ (by omega), bindO_some, enc_is _ _ _ (by omega), bindO_some]
  decide +kernel
theorem ChunkTells (body : ByteArray) (s : ByteArray) (size : Int) (w0 : Ty.Wf .str body) (w1 : Ty.Wf .str s) (w2 : Ty.Wf (.int .i64) size) : ∃ k, law07_ChunkTells.f k (body, (s, size)) = some true := by
  refine ⟨100020, ?_⟩
  rw [B_of body, B_of s]
  generalize body.data.toList = b
  generalize s.data.toList = l
  unfold law07_ChunkTells.f
  rw [awake07, bindO_some, B_len, B_len]
  simp only []
  rw [show ltI 1000 (b.length : Int) = decide (1000 < b.length) from ltI_nat 1000 _, ifO_dec]
  by_cases h1 : 1000 < b.length
  · rw [if_pos h1]
  rw [if_neg h1, show ltI 3000 (l.length : Int) = decide (3000 < l.length) from ltI_nat 3000 _, ifO_dec]
  by_cases h2 : 3000 < l.length
  · rw [if_pos h2]
  rw [if_neg h2, enc_is _ _ _ (by omega), bindO_some, r7enc _ _ _ (by omega), bindO_some, dec_is _ (by omega) _ (by omega), bindO_some, r7dec _ (by omega) _ (by omega), bindO_some, ifO_true, eqS_self, ifO_true, eqI_dec, decide_eq_true rfl, ifO_true, eqS_self, ifO_true, eqI_dec, decide_eq_true rfl, ifO_true, eqI_dec, decide_eq_true rfl]
end Go.Proofs.YtmmbedlegmbppaaGreatDoor.R
