/- strings.Builder: its check of copies, and its text, told as a whole. -/
import Derived.Test.YtmmbedlegmbppaaDoorR25
import Derived.Shelf.Strings.Builder1
import Derived.WalkKit
import Derived.KernelRfl
import Derived.Deep.Draws
import Derived.BigQuiet
import Derived.Tactics
import Derived.RowKit3
namespace Go.Proofs.YtmmbedlegmbppaaDoor.R
open Go Go.RowKit Go.Shelf
set_option linter.unusedVariables false
set_option linter.unusedSimpArgs false
theorem loads_bytes {P : Program} (w : World) : ∀ (l : List Int) (a : Addr) (acc : ByteArray), (∀ (j : Nat) (x : Int), l[j]? = some x → w.cell? (a.add j) = some (.int .u8 x)) → (Go.loadBytes a acc l.length).run P w = .ok ⟨acc.data ++ (l.map fun n => UInt8.ofNat n.toNat).toArray⟩ w
  | [], a, acc, _ => by simp [Go.loadBytes]
  | x :: l, a, acc, h => by
    have h0 : w.cell? a = some (.int .u8 x) := by have := h 0 x rfl; simpa [Addr.add] using this
    have ih := loads_bytes (P := P) w l (a.add 1) (acc.push x.toNat.toUInt8) (fun j y hj => by
      have := h (j + 1) y (by simpa using hj)
      have e : (a.add 1).add j = a.add (j + 1) := by cases j <;> simp [Addr.add] <;> omega
      rw [e]; exact this)
    rw [List.length_cons]
    unfold Go.loadBytes
    simp only [Sem.run_bind, run_load, h0, Result.andThen_ok, ih]
    congr 2
    apply Array.ext'
    simp [ByteArray.push]
theorem ustr_row {P : Program} (w : World) (pt it ty e : TypeId) (hp : P.underlying pt = some (.pointer e)) (hc : P.cellsOf e = 1) (g cells : Nat) (hsh : w.shape? g = some (e, cells)) (l : List Int) (h0 : l ≠ []) (hn : l.length ≤ cells) (h63 : l.length ≤ 9223372036854775807)
    (hcell : ∀ (j : Nat) (x : Int), l[j]? = some x → w.cell? ((⟨g, 0, none⟩ : Addr).add j) = some (.int .u8 x)) :
    (Builtin.unsafeString_ #[pt, it] ty #[.pointer (some ⟨g, 0, none⟩), .int .i64 l.length]).run P w = .ok (.string (ofBytes l)) (w.freeze ⟨g, 0, none⟩ l.length) := by
  have hl : l.length ≠ 0 := by simpa using h0
  have hlb := loads_bytes (P := P) w l ⟨g, 0, none⟩ .empty hcell
  have hlies := Lib.liesAt_bytes (P := P) hc (cells / P.cellsOf e) l.length (by rw [hc]; simpa using hn)
  have h63' : ¬ (9223372036854775807 : Int) < (l.length : Int) := by omega
  have hdef : Builtin.unsafeString_ #[pt, it] ty #[.pointer (some ⟨g, 0, none⟩), .int .i64 l.length] =
      (do
        let n ← asInt (.int .i64 l.length)
        if n < 0 then runtimePanic (.error "unsafe.String: len out of range")
        if n > IntKind.i64.max then unsupported (.unsafePointer "String: a length above the largest int")
        if n = 0 then pure (.string .empty)
        else if ← variablesAt ⟨g, 0, none⟩ (← elemOf pt) n.toNat then do
          let s ← loadBytes ⟨g, 0, none⟩ .empty n.toNat
          freeze ⟨g, 0, none⟩ n.toNat
          pure (.string s)
        else unsupported (.unsafePointer "String: not so many bytes at ptr")) := rfl
  rw [hdef]
  have hmax : IntKind.i64.max = 9223372036854775807 := rfl
  have hneg : ¬ (l.length : Int) < 0 := by omega
  simp [asInt, asIntOf, hmax, h63', hneg, hl, variablesAt, hsh, elemOf, run_underlying hp, hlies, hlb, ofBytes]
theorem freeze_heap (w : World) (p : Addr) (n k : Nat) (h : k ≠ p.block) : (w.freeze p n).heap[k]? = w.heap[k]? := by
  unfold World.freeze
  split
  · rfl
  · simp only [Array.getElem?_modify]
    rw [if_neg (fun e => h e.symm)]
theorem freeze_size (w : World) (p : Addr) (n : Nat) : (w.freeze p n).heap.size = w.heap.size := by
  unfold World.freeze
  split <;> simp
theorem freeze_cell (w : World) (p q : Addr) (n : Nat) : (w.freeze p n).cell? q = w.cell? q := by
  unfold World.freeze
  split
  · rfl
  · unfold World.cell?
    simp only [Array.getElem?_modify]
    by_cases h : p.block = q.block
    · rw [if_pos h]
      cases w.heap[q.block]? with
      | none => rfl
      | some o => cases o <;> rfl
    · rw [if_neg h]
set_option maxHeartbeats 2000000 in
set_option maxRecDepth 100000 in
theorem bld_copy.ok : Spx.OK Go.Proofs.Tryd.prog 99 (.copy 73) := by
  have lies : liesAt Go.Proofs.Tryd.prog (Go.Proofs.Tryd.prog).depth 73 (2 / (Go.Proofs.Tryd.prog).cellsOf 73) 0 73 1 = true := by kernel_rfl
  have sz : ((Go.Proofs.Tryd.prog).info? 73).map (·.size) = some 2 := by kernel_rfl
  obtain ⟨j, hj, hjs⟩ := Option.map_eq_some_iff.1 sz
  intro w b c0 v hb hc
  have hsh : w.shape? b = some (73, 2) := by simp [World.shape?, hb]
  have hfz : w.frozen? ⟨b, 0, none⟩ = false := Lib.frozen_of_heap hb 0
  rcases hc with rfl | rfl
  · have h0 : w.cell? ⟨b, 0, none⟩ = some (.pointer none) := by rw [Lib.cell_of_heap hb]; rfl
    have main : Calls Go.Proofs.Tryd.prog 99 #[.pointer (some ⟨b, 0, none⟩)] w fun e w' => e = .returned (.tuple #[]) ∧ w' = w.setCell ⟨b, 0, none⟩ (.pointer (some ⟨b, 0, none⟩)) := by
      go_enter Tryd.func99, Tryd.ntmps99
      go_wp2
      rw [Lib.run_to_unsafe w ⟨b, 0, none⟩ Tryd.underlying71 Tryd.underlying152 hj (by rw [hjs]; decide) hsh (Nat.zero_lt_succ 1)]
      simp only [Result.andThen]
      rw [Oper.upon_value]
      go_wp2
      rw [run_callFunc_extern Tryd.func141 (by kernel_rfl) (by kernel_rfl) (by kernel_rfl) (e := Extern.AbiNoEscape.same) (by kernel_rfl)]
      rw [Lib.run_noEscape]
      simp only [Result.andThen]
      rw [Oper.upon_value]
      go_wp2
      rw [Lib.run_from_unsafe w ⟨b, 0, none⟩ Tryd.underlying152 Tryd.underlying71 hj hsh lies]
      simp only [Result.andThen]
      rw [Oper.upon_value]
      go_wp2
      go_end0
      exact ⟨rfl, rfl⟩
    refine main.mono ?_
    rintro e w' ⟨rfl, rfl⟩
    refine ⟨rfl, rfl, rfl, rfl, by simp, fun g hg => ?_, ?_⟩
    · exact heap_setCell_other w ⟨b, 0, none⟩ g _ hg
    · rw [heap_setCell_same w b 0 _ _ _ hb]
      rfl
  · have h0 : w.cell? ⟨b, 0, none⟩ = some (.pointer (some ⟨b, 0, none⟩)) := by rw [Lib.cell_of_heap hb]; rfl
    have main : Calls Go.Proofs.Tryd.prog 99 #[.pointer (some ⟨b, 0, none⟩)] w fun e w' => e = .returned (.tuple #[]) ∧ w' = w := by
      go_enter Tryd.func99, Tryd.ntmps99
      go_wp2
      rw [Lib.run_neq_ptr_same w _ Tryd.underlying71 hj]
      go_wp2
      go_end0
      exact ⟨rfl, rfl⟩
    refine main.mono ?_
    rintro e w' ⟨rfl, rfl⟩
    exact ⟨rfl, rfl, rfl, rfl, rfl, fun _ _ => rfl, hb⟩
set_option maxHeartbeats 2000000 in
set_option maxRecDepth 100000 in
theorem bld_str.ok : Spx.OK Go.Proofs.Tryd.prog 53 (.str 73 5) := by
  have cb : (Go.Proofs.Tryd.prog).cellsOf 5 = 1 := by kernel_rfl
  intro w b B c0 v l hb hown hnil
  by_cases h0 : l = []
  · have hv := hnil h0
    subst h0 hv
    have main : Calls Go.Proofs.Tryd.prog 53 #[.pointer (some ⟨b, 0, none⟩)] w fun e w' => e = .returned (.string ⟨#[]⟩) ∧ w' = w.drew := by
      have hUS := fun (W : World) (q : Option Addr) => Lib.run_unsafeString_none (P := Go.Proofs.Tryd.prog) W 123 3 9 q
      have c1 : w.drew.cell? ⟨b, 1, none⟩ = some (.slice none 0 0) := by
        have : w.drew.heap[b]? = some (.cells #[c0, .slice none 0 0] 73 (0, 0)) := hb
        rw [Lib.cell_of_heap this]; rfl
      have hSD : (Builtin.unsafeSliceData_ #[46] 123 #[.slice none 0 0]).run Go.Proofs.Tryd.prog w.drew = .ok (.pointer none) w.drew := rfl
      go_enter Tryd.func53, Tryd.ntmps53
      go_wp2
      go_region
      all_goals (go_wp2; go_ret; exact ⟨rfl, rfl⟩)
    refine main.mono ?_
    rintro e w' ⟨rfl, rfl⟩
    exact ⟨rfl, rfl, rfl, rfl, Nat.le_refl _, fun _ _ _ => rfl, fun g i hg => by simp [Value.ownBlock] at hg⟩
  · have hl0 : l.length ≠ 0 := by simpa using h0
    obtain ⟨g, cap, cur, rfl, hbg, hg, hnc, hcm, hcs, htake⟩ : ∃ g cap cur, v = .slice (some ⟨g, 0, none⟩) l.length cap ∧ B ≤ g ∧ w.heap[g]? = some (.cells cur 5 (0, 0)) ∧ l.length ≤ cap ∧ cap ≤ maxLen ∧ cur.size = cap * 1 ∧ cur.toList.take (l.length * 1) = l.map fun n => .int .u8 n := by
      rcases hown.2 with ⟨_, hz⟩ | ⟨g, cap, cur, hv, r⟩
      · exact absurd hz hl0
      · exact ⟨g, cap, cur, hv, r⟩
    have main : Calls Go.Proofs.Tryd.prog 53 #[.pointer (some ⟨b, 0, none⟩)] w fun e w' => e = .returned (.string (ofBytes l)) ∧ w' = w.drew.freeze ⟨g, 0, none⟩ l.length := by
      have c1 : w.drew.cell? ⟨b, 1, none⟩ = some (.slice (some ⟨g, 0, none⟩) l.length cap) := by
        have : w.drew.heap[b]? = some (.cells #[c0, .slice (some ⟨g, 0, none⟩) l.length cap] 73 (0, 0)) := hb
        rw [Lib.cell_of_heap this]; rfl
      have hSD : (Builtin.unsafeSliceData_ #[46] 123 #[.slice (some ⟨g, 0, none⟩) l.length cap]).run Go.Proofs.Tryd.prog w.drew = .ok (.pointer (some ⟨g, 0, none⟩)) w.drew :=
        Lib.run_unsafeSliceData_row _ _ _ _ _ _ (by omega)
      have hUS : (Builtin.unsafeString_ #[123, 3] 9 #[.pointer (some ⟨g, 0, none⟩), .int .i64 l.length]).run Go.Proofs.Tryd.prog w.drew = .ok (.string (ofBytes l)) (w.drew.freeze ⟨g, 0, none⟩ l.length) := by
        refine ustr_row w.drew 123 3 9 5 Tryd.underlying123 cb g cur.size (by have hg' : w.drew.heap[g]? = some (.cells cur 5 (0, 0)) := hg; simp [World.shape?, hg']) l h0 (by omega) (by unfold maxLen at hcm; omega) ?_
        intro j x hx
        exact hown.cells (g := g) rfl j (.int .u8 x) (by simp [hx])
      go_enter Tryd.func53, Tryd.ntmps53
      go_wp2
      go_region
      all_goals (go_wp2; go_ret; exact ⟨rfl, rfl⟩)
    refine main.mono ?_
    rintro e w' ⟨rfl, rfl⟩
    refine ⟨rfl, ?_, ?_, ?_, ?_, fun k hk hne => ?_, fun g' i hg' => ?_⟩
    · unfold World.freeze; split <;> rfl
    · unfold World.freeze; split <;> rfl
    · unfold World.freeze; split <;> rfl
    · rw [freeze_size]; exact Nat.le_refl _
    · rw [freeze_heap _ _ _ _ (fun e => hne (by rw [show k = g from e]; rfl))]; rfl
    · rw [freeze_cell]; rfl
end Go.Proofs.YtmmbedlegmbppaaDoor.R
