/- strings.IndexAny at two ASCII bytes, in any text of at most 8 bytes. -/
import Derived.Test.YtmmbedlegmbppaaDoorRHI
import Derived.Lib.IndexAny
namespace Go.Proofs
open Go.Shelf Go.RowKit Go.Lib
variable {P : Program} {ρ : Ren}
theorem decode_hi (s : ByteArray) (i : Nat) (hi : i < s.size) (h : ¬ (s[i]'hi).toNat < 128) :
    128 ≤ (Utf8.decode s i).1 ∧ Lib.validRune (Utf8.decode s i).1 = true ∧ 1 ≤ (Utf8.decode s i).2 ∧ i + (Utf8.decode s i).2 ≤ s.size ∧ ∀ j, i ≤ j → j < i + (Utf8.decode s i).2 → 128 ≤ (s.get! j).toNat := by
  have h0 : ¬ (s.get! (i + 0)).toNat < 128 := by
    have e : s.get! (i + 0) = s[i]'hi := by
      show s.get! i = _
      simp [ByteArray.get!, getElem!_pos, hi]
      rfl
    rw [e]; exact h
  have one : ∀ j, i ≤ j → j < i + 1 → 128 ≤ (s.get! j).toNat := fun j h1 h2 => by
    rw [show j = i + 0 by omega]; omega
  have hv : ∀ n : Nat, (n < 55296 ∨ (57343 < n ∧ n ≤ 1114111)) → Lib.validRune (n : Int) = true := fun n hn => by
    unfold Lib.validRune
    exact decide_eq_true (by omega)
  have err : 128 ≤ (Utf8.runeError, 1).1 ∧ Lib.validRune ((Utf8.runeError, 1).1 : Nat) = true ∧ 1 ≤ (Utf8.runeError, 1).2 ∧ i + (Utf8.runeError, 1).2 ≤ s.size ∧ ∀ j, i ≤ j → j < i + (Utf8.runeError, 1).2 → 128 ≤ (s.get! j).toNat :=
    ⟨by decide, by decide, by decide, hi, one⟩
  unfold Utf8.decode
  simp only []
  rw [if_neg h0]
  split
  · rename_i h1
    simp only [Bool.and_eq_true, decide_eq_true_eq, beq_iff_eq] at h1
    split
    · refine ⟨by omega, hv _ (.inl (by omega)), by omega, by omega, fun j a b => ?_⟩
      rcases (by omega : j = i + 0 ∨ j = i + 1) with e | e <;> (rw [e]; omega)
    · exact err
  · split
    · rename_i h1
      simp only [Bool.and_eq_true, decide_eq_true_eq, beq_iff_eq] at h1
      split
      · rename_i h2
        simp only [Bool.and_eq_true, decide_eq_true_eq, Utf8.valid, Bool.or_eq_true] at h2
        refine ⟨by omega, hv _ (by omega), by omega, by omega, fun j a b => ?_⟩
        rcases (by omega : j = i + 0 ∨ j = i + 1 ∨ j = i + 2) with e | e | e <;> (rw [e]; omega)
      · exact err
    · split
      · rename_i h1
        simp only [Bool.and_eq_true, decide_eq_true_eq, beq_iff_eq] at h1
        split
        · rename_i h2
          simp only [Bool.and_eq_true, decide_eq_true_eq, Utf8.valid, Bool.or_eq_true] at h2
          refine ⟨by omega, hv _ (by omega), by omega, by omega, fun j a b => ?_⟩
          rcases (by omega : j = i + 0 ∨ j = i + 1 ∨ j = i + 2 ∨ j = i + 3) with e | e | e | e <;> (rw [e]; omega)
        · exact err
      · exact err
theorem run_next_at {w : World} {b : Nat} {s : ByteArray} {pos : Nat} (hob : w.heap[b]? = some (.stringIter s pos)) (h : pos < s.size) :
    ∃ w2 : World, (∀ ty, (Instr.next (.pointer (some ⟨b, 0, none⟩)) true ty).run P w = .ok (.tuple #[.bool true, .int .i64 pos, .int .i32 ((Utf8.decode s pos).1 : Nat)]) w2) ∧
      w2.heap[b]? = some (.stringIter s (pos + (Utf8.decode s pos).2)) ∧ Below b w w2 := by
  have hlt : b < w.heap.size := (Array.getElem?_eq_some_iff.1 hob).1
  refine ⟨{ w with heap := w.heap.setIfInBounds b (.stringIter s (pos + (Utf8.decode s pos).2)) }, fun ty => ?_, ?_, rfl, rfl, rfl, by simp, fun k hk => ?_⟩
  · simp only [Instr.next, getObj, setObj, Sem.run_bind, Sem.run, hob, Result.andThen, h, if_true]
    simp [goInt, Sem.run, hob]
  · show (w.heap.setIfInBounds b _)[b]? = _
    rw [Array.getElem?_setIfInBounds_self_of_lt hlt]
  · exact Array.getElem?_setIfInBounds_ne (by omega)
theorem run_next_stop {w : World} {b : Nat} {s : ByteArray} {pos : Nat} (hob : w.heap[b]? = some (.stringIter s pos)) (h : ¬ pos < s.size) (ty : TypeId) :
    (Instr.next (.pointer (some ⟨b, 0, none⟩)) true ty).run P w = .ok (.tuple #[.bool false]) w := by
  simp [Instr.next, getObj, Sem.run, hob, h]
theorem noAny_jump {s : ByteArray} {chars : List UInt8} {i n : Nat} (hc : ∀ b ∈ chars, b.toNat < 128) (h : Lib.NoAny s.data.toList chars i) (hn : ∀ j, i ≤ j → j < i + n → 128 ≤ (s.get! j).toNat) : Lib.NoAny s.data.toList chars (i + n) := fun j b hj hb => by
  by_cases hji : j < i
  · exact h j b hji hb
  · have h1 := hn j (by omega) hj
    have hjs : j < s.size := by
      have := (List.getElem?_eq_some_iff.1 hb).1
      rw [← Lib.size_eq] at this; exact this
    have hbj : s.get! j = b := by
      rw [Lib.data_getElem? s j hjs] at hb
      rw [← Option.some.inj hb]
      show s.get! j = _
      simp [ByteArray.get!, getElem!_pos, hjs]
      rfl
    rw [hbj] at h1
    cases hcb : chars.contains b with
    | false => rfl
    | true => exact absurd (hc b (List.contains_iff_mem.1 hcb)) (by omega)
set_option maxHeartbeats 8000000 in
set_option maxRecDepth 1000000 in
theorem Any.strings_IndexAny_two (L : Lays.n153 P ρ) (s chars : ByteArray) (w : World) (h2 : chars.size = 2) (h8 : s.size ≤ 8) (hascii : ∀ (j : Nat) (h : j < chars.size), (chars[j]'h).toNat < 128) :
    Calls P (ρ.f 153) #[.string s, .string chars] w fun e w' => e = .returned (.int .i64 (Lib.indexAny s.data.toList chars.data.toList)) ∧ Below w.heap.size w w' := by
  have HA : Aside (∀ (j : Nat) (h : j < chars.size), (chars[j]'h).toNat < 128) := hascii
  have HC : Aside (∀ b ∈ chars.data.toList, b.toNat < 128) := (show ∀ b ∈ chars.data.toList, b.toNat < 128 from fun b hb => by
    obtain ⟨j, hj, e⟩ := List.getElem_of_mem hb
    have hj' : j < chars.size := by rw [Lib.size_eq]; exact hj
    have := hascii j hj'
    have e2 := Lib.data_getElem? chars j hj'
    rw [List.getElem?_eq_getElem hj, e] at e2
    rw [Option.some.inj e2]; exact this)
  clear hascii
  have hemp : chars.toList.isEmpty = false := by
    rw [Lib.toList_data]
    cases h : chars.data.toList with
    | nil => have := Lib.size_eq chars; rw [h, List.length_nil] at this; omega
    | cons _ _ => rfl
  have hn1 : ((chars.size : Int) == 1) = false := beq_eq_false_iff_ne.2 (by omega)
  have h8z : decide ((8 : Int) < (s.size : Int)) = false := decide_eq_false (by omega)
  have t3 := L.t3; have a3 := L.a3; have z3 := L.z3; have v3 := L.v3
  have t4 := L.t4; have a4 := L.a4; have z4 := L.z4; have v4 := L.v4
  have t5 := L.t5; have a5 := L.a5; have z5 := L.z5; have v5 := L.v5
  have t9 := L.t9; have a9 := L.a9; have z9 := L.z9; have v9 := L.v9
  have t21 := L.t21; have a21 := L.a21; have z21 := L.z21; have v21 := L.v21
  have e152 : ∀ args w, (callFunc (ρ.f 152) args).run P w = .ok (.enter (ρ.f 152) args) w := enters_of L.f152 (by kernel_rfl) rfl
  have e226 : ∀ args w, (callFunc (ρ.f 226) args).run P w = .ok (.enter (ρ.f 226) args) w := enters_of L.f226 (by kernel_rfl) rfl
  go_enter L.f153, Body.n153_ntmps ρ
  go_wp2_with (go_at_fn (ρ.f 226); refine (Any.strings_shouldUseASCIISet { L with } _ _).mono ?_; rintro e w' ⟨rfl, hw⟩; rw [hw, h8z])
  go_loopg [9, 10] s.size (fun g _ _ wx => ∃ i : Nat, i + g = s.size ∧ wx.heap[w.heap.size]? = some (.stringIter s i) ∧ Below w.heap.size w wx ∧ Lib.NoAny s.data.toList chars.data.toList i)
  case atStart => exact ⟨0, by omega, World.iter_heap _ _ _, (Below.refl _ _).alloc (Nat.le_refl _) _, Lib.NoAny.zero _ _⟩
  case round =>
    obtain ⟨i, hig, hob, hbel, hno⟩ := hrel
    have HN : Aside (Lib.NoAny s.data.toList chars.data.toList i) := hno
    have HB : Aside (Below w.heap.size w wr) := hbel
    clear hno hbel
    by_cases hi : i < s.size
    · obtain ⟨w2, hnx, hob2, hb2⟩ := run_next_at (P := P) hob hi
      have HO : Aside (w2.heap[w.heap.size]? = some (.stringIter s (i + (Utf8.decode s i).2)) ∧ Below w.heap.size w w2) := ⟨hob2, HB.out.trans hb2⟩
      clear hob2 hb2
      obtain ⟨x, hx⟩ : ∃ x : UInt8, s[i]'hi = x := ⟨_, rfl⟩
      have hxl : s.data.toList[i]? = some x := by rw [← hx]; exact Lib.data_getElem? s i hi
      have Hx : Aside (s.data.toList[i]? = some x) := hxl
      by_cases h128 : x.toNat < 128
      · have hde : Utf8.decode s i = (x.toNat, 1) := by rw [← hx]; exact decode_ascii s i hi (by rw [hx]; exact h128)
        rw [hde] at hnx HO
        clear hde hxl hx
        have hcon := Lib.contains_iff_indexByte chars.data.toList x
        have hback : ((x.toNat : Int)).toNat.toUInt8 = x := by simp
        cases hin : chars.data.toList.contains x
        · rw [hin] at hcon
          have hlt : ¬ ((0 : Int) ≤ Lib.indexByte chars.data.toList x) := of_decide_eq_false hcon.symm
          clear hcon
          go_wp2_with (go_at_fn (ρ.f 152); refine (Any.strings_IndexRune_ascii { L with } _ _ _ (by omega) (by omega)).mono ?_; rintro e w' ⟨rfl, hw⟩; rw [hw, hback])
          go_roundg (gk - 1)
          case measure => omega
          case rel => exact ⟨i + 1, by omega, HO.out.1, HO.out.2, HN.out.succ Hx.out hin⟩
        · rw [hin] at hcon
          have hge : (0 : Int) ≤ Lib.indexByte chars.data.toList x := of_decide_eq_true hcon.symm
          clear hcon
          go_wp2_with (go_at_fn (ρ.f 152); refine (Any.strings_IndexRune_ascii { L with } _ _ _ (by omega) (by omega)).mono ?_; rintro e w' ⟨rfl, hw⟩; rw [hw, hback])
          go_ret
          exact ⟨by rw [Lib.indexAny_hit HN.out Hx.out hin]; rfl, HO.out.2⟩
      · obtain ⟨d1, d2, d3, d4, d5⟩ := decode_hi s i hi (by rw [hx]; exact h128)
        have d6 : (Utf8.decode s i).1 < 1114112 := by
          have d2' := d2
          unfold Lib.validRune at d2'
          have := of_decide_eq_true d2'
          omega
        have HN2 : Aside (Lib.NoAny s.data.toList chars.data.toList (i + (Utf8.decode s i).2)) := noAny_jump HC.out HN.out d5
        generalize (Utf8.decode s i).1 = c at hnx d1 d2 d6
        generalize (Utf8.decode s i).2 = n at HO d3 d4 HN2
        clear d5 hx hxl
        go_wp2_with (go_at_fn (ρ.f 152); refine (Any.strings_IndexRune_hi { L with } _ _ _ (by omega) (by omega) d2 h2 HA.out).mono ?_; rintro e w' ⟨rfl, hw⟩)
        go_roundg (gk - n)
        case measure => omega
        case rel =>
          have hlt : w.heap.size < w2.heap.size := (Array.getElem?_eq_some_iff.1 HO.out.1).1
          exact ⟨i + n, by omega, (hw.block _ hlt).trans HO.out.1, HO.out.2.trans ⟨hw.os, hw.tape, hw.output, hw.size, fun k hk => hw.block k (by omega)⟩, HN2.out⟩
    · have hnx := fun ty => run_next_stop (P := P) hob hi ty
      go_wp2
      go_ret
      exact ⟨by rw [Lib.indexAny_none (by rw [← Lib.size_eq, show s.size = i by omega]; exact HN.out)]; rfl, HB.out⟩
end Go.Proofs
namespace Go.Proofs.YtmmbedlegmbppaaDoor.R
open Go Go.RowKit
def x_IndexAny.f (k : Nat) (x : Tup [.str, .str]) : Option (Tup [.int .i64]) := if asciiB x.2.data.toList = true ∧ x.2.size = 2 ∧ x.1.size < 4294967281 then some (Lib.indexAny x.1.data.toList x.2.data.toList) else none
theorem x_IndexAny.ok : Spec.Sound P T 110 ⟨[.str, .str], [.int .i64], x_IndexAny.f⟩ := sound_flat rfl rfl fun k x r w h hT => by
  obtain ⟨s, t⟩ := x
  simp only [x_IndexAny.f] at h
  split at h
  · rename_i hc
    obtain rfl := Option.some.inj h
    by_cases h8 : s.size ≤ 8
    · refine (Any.strings_IndexAny_two Tryd.lays153 s t w hc.2.1 h8 (fun j hj => ascii_of_all hc.1 j _ (Lib.data_getElem? t j hj))).mono ?_
      rintro e w1 ⟨rfl, hb⟩
      exact ⟨rfl, hb⟩
    · refine (Tryd.strings_IndexAny_long (zero_of_info (P := Tryd.prog) (n := 256) (by kernel_rfl)).1 s t w (Nat.le_of_eq hc.2.1.symm) (by omega) hc.2.2 (by rw [hc.2.1]; omega) (ascii_of_all hc.1)).mono ?_
      rintro e w1 ⟨rfl, rfl⟩
      exact ⟨rfl, ((Below.refl _ _).alloc (Nat.le_refl _) _).alloc (by simp) _⟩
  · cases h
end Go.Proofs.YtmmbedlegmbppaaDoor.R
