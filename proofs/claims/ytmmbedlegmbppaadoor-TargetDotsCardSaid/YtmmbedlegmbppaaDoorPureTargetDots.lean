/- TargetDots: a path without dots has no parts that are, and stays; no condition. -/
import Derived.Test.YtmmbedlegmbppaaDoorPDots2
import Derived.Test.YtmmbedlegmbppaaDoorPCut
import Derived.Test.YtmmbedlegmbppaaDoorPAw
import Derived.Test.YtmmbedlegmbppaaDoorRW
namespace Go.Proofs.YtmmbedlegmbppaaDoor.R
open Go Go.RowKit
set_option linter.unusedSimpArgs false
set_option linter.unusedVariables false
theorem bt_is {l : Bs} {i : Nat} (c : UInt8) (n : Int) (hn : n = (c.toNat : Int)) (h : i < l.length) : eqI (btI (B l) (i : Int)) n = decide (l[i]? = some c) := by
  subst hn
  rw [B_bt, eqI_dec, List.getD_eq_getElem?_getD, List.getElem?_eq_getElem h]
  refine decide_eq_decide.2 ?_
  rw [Option.getD_some, Option.some.injEq]
  exact ⟨fun h => UInt8.toNat_inj.1 (Int.ofNat.inj h), fun h => by rw [h]⟩
/-- No part of a text with slashes is dots. -/
def NoDots (s : Bs) : Prop := ∀ i : Nat, s[i]? = some (47 : UInt8) → s[i + 1]? = some (46 : UInt8) → s[i + 2]? ≠ some (47 : UInt8) ∧ (s[i + 2]? = some (46 : UInt8) → s[i + 3]? ≠ some (47 : UInt8))
theorem dots_l5 (path part d : ByteArray) (s : Bs) (hs : s.length ≤ 500) (hno : NoDots s) : law09_TargetDots.l5 1000 (path, (part, (true, (d, (B s, 0))))) = law09_TargetDots.l7 1000 (path, (part, (true, (d, 0)))) := by
  unfold law09_TargetDots.l5
  refine iter_eq (f := law09_TargetDots.l5b 1000) (fun v => ∃ i : Nat, v = (path, (part, (true, (d, (B s, (i : Int)))))) ∧ i ≤ s.length) (fun v => ((s.length : Int) + 1 - v.2.2.2.2.2).toNat) (fun _ => law09_TargetDots.l7 1000 (path, (part, (true, (d, 0))))) ?_ 1000 _ ⟨0, rfl, Nat.zero_le _⟩ (by show ((s.length : Int) + 1 - 0).toNat < 1000; omega)
  rintro r _ ⟨i, rfl, hi⟩ hr
  have nx : i + 2 < s.length → law09_TargetDots.j6 1000 r (path, (part, (true, (d, (B s, ((i : Int), false)))))) = law09_TargetDots.l7 1000 (path, (part, (true, (d, 0)))) := fun h => by
    unfold law09_TargetDots.j6
    simp only []
    rw [ifO_false, next64 (by omega)]
    exact hr _ ⟨i + 1, rfl, by omega⟩ (by show ((s.length : Int) + 1 - ((i + 1 : Nat) : Int)).toNat < ((s.length : Int) + 1 - (i : Int)).toNat; omega)
  unfold law09_TargetDots.l5b
  simp only []
  have e2 : addI .i64 (i : Int) 2 = ((i + 2 : Nat) : Int) := by rw [add64 (by omega) (by omega)]; rfl
  have e3 : addI .i64 (i : Int) 3 = ((i + 3 : Nat) : Int) := by rw [add64 (by omega) (by omega)]; rfl
  rw [e2, B_len, ltI_nat]
  by_cases h : i + 2 < s.length
  · have nx := nx h
    rw [decide_eq_true h, ifO_true, inB_yes (by omega), ifO_true, bt_is 47 47 rfl (by omega)]
    by_cases h0 : s[i]? = some 47
    · rw [decide_eq_true h0, ifO_true, next64 (by omega), inB_yes (by omega), ifO_true, bt_is 46 46 rfl (by omega)]
      by_cases h1 : s[i + 1]? = some 46
      · obtain ⟨n2, n3⟩ := hno i h0 h1
        rw [decide_eq_true h1, ifO_true, inB_yes (by omega), ifO_true, bt_is 47 47 rfl (by omega), decide_eq_false n2, ifO_false, ifO_true, bt_is 46 46 rfl (by omega)]
        by_cases h2 : s[i + 2]? = some 46
        · rw [decide_eq_true h2, ifO_true, e3, ltI_nat]
          by_cases h3 : i + 3 < s.length
          · rw [decide_eq_true h3, ifO_true, inB_yes (by omega), ifO_true, bt_is 47 47 rfl (by omega), decide_eq_false (n3 h2)]
            exact nx
          · rw [decide_eq_false h3, ifO_false]; exact nx
        · rw [decide_eq_false h2, ifO_false]; exact nx
      · rw [decide_eq_false h1, ifO_false]; exact nx
    · rw [decide_eq_false h0, ifO_false]; exact nx
  · rw [decide_eq_false h, ifO_false]
theorem dots_l7 (b part : Bs) (hb : b.length ≤ 300) (hp : part.length ≤ 100) : law09_TargetDots.l7 1000 (B (47 :: b), (B part, (true, (B (dotsM (47 :: b)), 0)))) = some true := by
  unfold law09_TargetDots.l7
  refine iter_eq (f := law09_TargetDots.l7b 1000) (fun v => ∃ i : Nat, v = (B (47 :: b), (B part, (true, (B (dotsM (47 :: b)), (i : Int))))) ∧ i ≤ part.length ∧ ∀ c ∈ part.take i, c ≠ 47) (fun v => ((part.length : Int) + 1 - v.2.2.2.2).toNat) (fun _ => some true) ?_ 1000 _ ⟨0, rfl, Nat.zero_le _, by simp⟩ (by show ((part.length : Int) + 1 - 0).toNat < 1000; omega)
  rintro r _ ⟨i, rfl, hi, hno⟩ hr
  unfold law09_TargetDots.l7b
  simp only []
  rw [B_len, ltI_nat]
  by_cases h : i < part.length
  · rw [decide_eq_true h, ifO_true, inB_yes h, ifO_true, bt_is 47 47 rfl h]
    by_cases h0 : part[i]? = some 47
    · rw [decide_eq_true h0, ifO_true]
    · rw [decide_eq_false h0, ifO_false, next64 (by omega)]
      refine hr _ ⟨i + 1, rfl, by omega, fun c hc => ?_⟩ (by show ((part.length : Int) + 1 - ((i + 1 : Nat) : Int)).toNat < ((part.length : Int) + 1 - (i : Int)).toNat; omega)
      rw [List.take_add_one, List.getElem?_eq_getElem h] at hc
      rcases List.mem_append.1 hc with hc | hc
      · exact hno c hc
      · rw [Option.toList_some, List.mem_singleton] at hc
        rintro rfl
        exact h0 (by rw [List.getElem?_eq_getElem h, hc])
  · rw [decide_eq_false h, ifO_false]
    rw [List.take_of_length_le (by omega)] at hno
    rw [show (⟨#[46]⟩ : ByteArray) = B [46] from rfl, show (⟨#[46, 46]⟩ : ByteArray) = B [46, 46] from rfl, show (⟨#[47]⟩ : ByteArray) = B [47] from rfl, show (⟨#[47, 46]⟩ : ByteArray) = B [47, 46] from rfl, show (⟨#[47, 46, 46]⟩ : ByteArray) = B [47, 46, 46] from rfl]
    simp only [B_eq, B_cat, B_fits]
    by_cases h1 : part = [46]
    · rw [decide_eq_true h1, ifO_true]
    rw [decide_eq_false h1, ifO_false]
    by_cases h2 : part = [46, 46]
    · rw [decide_eq_true h2, ifO_true]
    rw [decide_eq_false h2, ifO_false, ifO_true]
    rw [ifO_yes (by simp; omega), ifO_yes (by simp; omega), ifO_yes (by simp; omega)]
    rw [dots_is 1000 _ (by simp; omega) (by simp; omega), bindO_some]
    rw [show [47] ++ part ++ [47, 46, 46] ++ 47 :: b = 47 :: (part ++ 47 :: 46 :: 46 :: 47 :: b) by simp, dotsM_back part b (by simp [dotB, h1, h2]) hno, B_eq, decide_eq_true rfl, ifO_true]
    rw [ifO_yes (by simp; omega), dots_is 1000 _ (by simp; omega) (by simp; omega), bindO_some]
    rw [show [47, 46] ++ 47 :: b = 47 :: 46 :: 47 :: b by simp, dotsM_dot, B_eq, decide_eq_true rfl]
theorem dots_no (b : Bs) : NoDots (dotsM (47 :: b) ++ [47]) := by
  rw [dotsM_slash]
  have hm := keptM_mem (splitC 47 b) (splitC_free 47 b)
  generalize keptM (splitC 47 b) = ks at hm
  by_cases hn : ks = []
  · subst hn
    intro i h0 h1
    have : i + 1 < 2 := (List.getElem?_eq_some_iff.1 h1).1
    have hi : i = 0 := by omega
    subst hi
    cases h1
  · intro i h0 h1
    rw [show (47 :: joinB 47 ks) ++ [47] = 47 :: catC ks by rw [List.cons_append, join_cat ks hn]] at h0 h1 ⊢
    exact dots_none ks hm i h0 h1
theorem dotsM_len47 (b : Bs) : (dotsM (47 :: b)).length ≤ b.length + 3 := by
  rw [dotsM_slash]
  have htot := tot_kept (splitC 47 b)
  rw [tot_split] at htot
  have hj := joinB_tot (keptM (splitC 47 b))
  rw [List.length_cons]
  omega
theorem dots_j1 (l part : Bs) (hl : l.length ≤ 300) (hp : part.length ≤ 100) (b : Bs) (hb : l = 47 :: b) : law09_TargetDots.j1 1000 (B l, (B part, (true, false))) = some true := by
  subst hb
  rw [List.length_cons] at hl
  have hd := dotsM_len47 b
  obtain ⟨d, hdd⟩ : ∃ d, dotsM (47 :: b) = 47 :: d := ⟨_, dotsM_slash b⟩
  unfold law09_TargetDots.j1
  simp only []
  rw [ifO_false, dots_is 1000 _ (by simp; omega) (by simp; omega), bindO_some, dots_is 1000 _ (by omega) (by omega), bindO_some, dotsM_idem, eqS_self]
  rw [ifO_no (show notB true = false from rfl), show (⟨#[]⟩ : ByteArray) = B [] from rfl, B_eq, decide_eq_false (by rw [hdd]; simp), ifO_false]
  rw [B_len, ifO_yes (show inB 0 _ = true from inB_yes (i := 0) (by rw [hdd]; simp))]
  rw [show neI (btI (B (dotsM (47 :: b))) 0) 47 = false by rw [hdd]; rfl]
  unfold law09_TargetDots.j4
  simp only []
  rw [ifO_false, show (⟨#[47]⟩ : ByteArray) = B [47] from rfl, B_fits, ifO_yes (by simp; omega), B_cat]
  rw [dots_l5 _ _ _ _ (by simp; omega) (dots_no b)]
  exact dots_l7 b part (by omega) hp
theorem TargetDots (path part : ByteArray) (w0 : Ty.Wf .str path) (w1 : Ty.Wf .str part) : ∃ k, law09_TargetDots.f k (path, part) = some true := by
  refine ⟨1000, ?_⟩
  rw [B_of path, B_of part]
  generalize path.data.toList = l
  generalize part.data.toList = p
  have up : law09_TargetDots.j1 1000 (B l, (B p, (true, true))) = some true := rfl
  unfold law09_TargetDots.f
  rw [awake09, bindO_some, B_len, B_len]
  simp only []
  rw [show ltI 300 (l.length : Int) = decide (300 < l.length) from ltI_nat 300 _, ifO_dec]
  by_cases h1 : 300 < l.length
  · rw [if_pos h1]; exact up
  rw [if_neg h1, show ltI 100 (p.length : Int) = decide (100 < p.length) from ltI_nat 100 _, ifO_dec]
  by_cases h2 : 100 < p.length
  · rw [if_pos h2]; exact up
  rw [if_neg h2]
  cases l with
  | nil => exact up
  | cons c b =>
    rw [ifO_no (show eqI (((c :: b).length : Nat) : Int) 0 = false by rw [eqI_dec, decide_eq_false_iff_not]; simp; omega)]
    rw [ifO_yes (show inB 0 _ = true from inB_yes (i := 0) (by simp))]
    have e : neI (btI (B (c :: b)) 0) 47 = decide (¬ c = 47) := by
      rw [show btI (B (c :: b)) 0 = (c.toNat : Int) from rfl, neI_dec]
      refine decide_eq_decide.2 ⟨fun h hc => h (by rw [hc]; rfl), fun h hc => h (UInt8.toNat_inj.1 (Int.ofNat.inj hc))⟩
    rw [e]
    by_cases hc : c = 47
    · rw [decide_eq_false (by simp [hc])]
      exact dots_j1 _ p (by omega) (by omega) b (by rw [hc])
    · rw [decide_eq_true hc]; exact up
end Go.Proofs.YtmmbedlegmbppaaDoor.R
