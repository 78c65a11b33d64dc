/- TargetStays: what is normal stays, whatever host is told; no condition. -/
import Derived.Test.YtmmbedlegmbppaaDoorPNorm
import Derived.Test.YtmmbedlegmbppaaDoorPAw
import Derived.Test.YtmmbedlegmbppaaDoorRW
namespace Go.Proofs.YtmmbedlegmbppaaDoor.R
open Go Go.RowKit
set_option linter.unusedSimpArgs false
set_option linter.unusedVariables false
theorem stays_j8 (h t o : Bs) (hh : h.length ≤ 300) (ht : t.length ≤ 300) (ho : o.length ≤ 300) : law09_TargetStays.j8 3000 (B h, (B t, (B o, true))) = some true := by
  unfold law09_TargetStays.j8
  simp only []
  rw [normal_is h t (by omega) (by omega) 3000 (by omega), bindO_some]
  unfold normR
  cases hn : normM h t with
  | none =>
    dsimp only
    rw [show neI 2 0 = true from rfl, ifO_true, ifO_true, show (⟨#[]⟩ : ByteArray) = B [] from rfl, eqS_self]
  | some n =>
    obtain ⟨h1, h2⟩ := norm_stays hn o
    dsimp only
    rw [show neI 0 0 = false from rfl, ifO_false, normal_is o n (by omega) (by omega) 3000 (by omega), bindO_some]
    unfold normR
    rw [h1]
    dsimp only
    rw [ifO_true, show eqI 0 0 = true from rfl, ifO_true, eqS_self]
theorem stays_j4 (h t o : Bs) (hh : h.length ≤ 300) (ht : t.length ≤ 300) (ho : o.length ≤ 300) : law09_TargetStays.j4 3000 (B h, (B t, (B o, true))) = some true := by
  unfold law09_TargetStays.j4
  simp only []
  rw [pct_is t (by omega) 3000 (by omega), bindO_some]
  unfold pctR
  cases hp : pctM t with
  | none => exact stays_j8 h t o hh ht ho
  | some p =>
    obtain ⟨p1, p2⟩ := pn_of t.length (Nat.le_refl _) hp
    dsimp only
    rw [show eqI 0 0 = true from rfl, ifO_true, pct_is p (by omega) 3000 (by omega), bindO_some]
    unfold pctR
    rw [p1.stays]
    dsimp only
    rw [eqS_self, ifO_no (show notB true = false from rfl), show neI 0 0 = false from rfl, ifO_false, B_len, B_len, ltI_nat, decide_eq_false (by omega)]
    unfold law09_TargetStays.j7
    simp only []
    rw [ifO_false]
    exact stays_j8 h t o hh ht ho
theorem stays_j1 (h t o : Bs) (hh : h.length ≤ 300) (ht : t.length ≤ 300) (ho : o.length ≤ 300) : law09_TargetStays.j1 3000 (B h, (B t, (B o, (true, false)))) = some true := by
  unfold law09_TargetStays.j1
  simp only []
  rw [ifO_false, host_is h (by omega) 3000 (by omega), bindO_some]
  unfold hostR
  cases hm : hostM h with
  | none => exact stays_j4 h t o hh ht ho
  | some g =>
    obtain ⟨s1, s2, s3, s4⟩ := host_stays hm
    dsimp only
    rw [show eqI 0 0 = true from rfl, ifO_true, host_is g (by omega) 3000 (by omega), bindO_some]
    unfold hostR
    rw [s1]
    dsimp only
    rw [eqS_self, ifO_no (show notB true = false from rfl), show neI 0 0 = false from rfl, ifO_false]
    exact stays_j4 h t o hh ht ho
theorem awake09b : law09_awake.f 3000 () = some true := by decide +kernel
theorem TargetStays (host to other : ByteArray) (w0 : Ty.Wf .str host) (w1 : Ty.Wf .str to) (w2 : Ty.Wf .str other) : ∃ k, law09_TargetStays.f k (host, (to, other)) = some true := by
  refine ⟨3000, ?_⟩
  rw [B_of host, B_of to, B_of other]
  generalize host.data.toList = h
  generalize to.data.toList = t
  generalize other.data.toList = o
  have up : law09_TargetStays.j1 3000 (B h, (B t, (B o, (true, true)))) = some true := rfl
  unfold law09_TargetStays.f
  rw [awake09b, bindO_some, B_len, B_len, B_len]
  simp only []
  rw [show ltI 300 (h.length : Int) = decide (300 < h.length) from ltI_nat 300 _, ifO_dec]
  by_cases h1 : 300 < h.length
  · rw [if_pos h1]; exact up
  rw [if_neg h1, show ltI 300 (t.length : Int) = decide (300 < t.length) from ltI_nat 300 _, ifO_dec]
  by_cases h2 : 300 < t.length
  · rw [if_pos h2]; exact up
  rw [if_neg h2, show ltI 300 (o.length : Int) = decide (300 < o.length) from ltI_nat 300 _]
  by_cases h3 : 300 < o.length
  · rw [decide_eq_true h3]; exact up
  · rw [decide_eq_false h3]
    exact stays_j1 h t o (by omega) (by omega) (by omega)
end Go.Proofs.YtmmbedlegmbppaaDoor.R
