/- TargetTells: any host, text by percent, path, and target to a host is what the document tells; no condition. -/
import Derived.Test.YtmmbedlegmbppaaDoorPRef9b
import Derived.Test.YtmmbedlegmbppaaDoorPAw
import Derived.Test.YtmmbedlegmbppaaDoorRW
namespace Go.Proofs.YtmmbedlegmbppaaDoor.R
open Go Go.RowKit
set_option linter.unusedSimpArgs false
set_option linter.unusedVariables false
theorem awake09c : law09_awake.f 3000 () = some true := by decide +kernel
theorem TargetTells (host to : ByteArray) (w0 : Ty.Wf .str host) (w1 : Ty.Wf .str to) : ∃ k, law09_TargetTells.f k (host, to) = some true := by
  refine ⟨3000, ?_⟩
  rw [B_of host, B_of to]
  generalize host.data.toList = h
  generalize to.data.toList = t
  unfold law09_TargetTells.f
  rw [awake09c, bindO_some, B_len, B_len]
  simp only []
  rw [show ltI 300 (h.length : Int) = decide (300 < h.length) from ltI_nat 300 _, ifO_dec]
  by_cases h1 : 300 < h.length
  · rw [if_pos h1]
  rw [if_neg h1, show ltI 300 (t.length : Int) = decide (300 < t.length) from ltI_nat 300 _, ifO_dec]
  by_cases h2 : 300 < t.length
  · rw [if_pos h2]
  have qi : ∀ x : Int, eqI x x = true := fun x => by rw [eqI_dec]; simp
  rw [if_neg h2, host_is h (by omega) 3000 (by omega), bindO_some, r9host h (by omega) 3000 (by omega), bindO_some, pct_is t (by omega) 3000 (by omega), bindO_some, r9pct t (by omega) 3000 (by omega), bindO_some, normal_is h t (by omega) (by omega) 3000 (by omega), bindO_some, r9normal h t (by omega) (by omega) 3000 (by omega), bindO_some]
  rw [ifO_true, eqS_self, ifO_true, qi, ifO_true, eqS_self, ifO_true, qi, ifO_true, eqS_self, ifO_true, qi, ifO_true, dots_is 3000 t (by omega) (by omega), bindO_some, r9dots t (by omega) 3000 (by omega), bindO_some, eqS_self]
end Go.Proofs.YtmmbedlegmbppaaDoor.R
