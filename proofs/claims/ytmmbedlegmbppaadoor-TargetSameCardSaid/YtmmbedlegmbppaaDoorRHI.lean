/- strings.IndexRune at a rune that is no ASCII, in the text of two ASCII bytes: it is not there. -/
import Derived.Test.YtmmbedlegmbppaaDoorRHC
import Derived.Shelf.Strings.Runes
import Derived.Laws.Runes
import Derived.Laws.RangeString
import Derived.Deep.LoopGhost
import Derived.Deep.DeepBigQuietO
namespace Go.Proofs
open Go.Shelf Go.RowKit Go.Lib
variable {P : Program} {ρ : Ren}
set_option maxHeartbeats 2000000 in
set_option maxRecDepth 1000000 in
theorem Any.strings_IndexRune_hi (L : Lays.n152 P ρ) (s : ByteArray) (r : Int) (w : World) (h0 : 128 ≤ r) (h1 : r < 1114112) (hv : Lib.validRune r = true) (h2 : s.size = 2) (hascii : ∀ (j : Nat) (h : j < s.size), (s[j]'h).toNat < 128) :
    Calls P (ρ.f 152) #[.string s, .int .i32 r] w fun e w' => e = .returned (.int .i64 (-1)) ∧ Below w.heap.size w w' := by
  have HA : Aside (∀ (j : Nat) (h : j < s.size), (s[j]'h).toNat < 128) := hascii
  have mixed := L.mixed
  have t3 := L.t3; have a3 := L.a3; have z3 := L.z3; have v3 := L.v3
  have t4 := L.t4; have a4 := L.a4; have z4 := L.z4; have v4 := L.v4
  have t5 := L.t5; have a5 := L.a5; have z5 := L.z5; have v5 := L.v5
  have t9 := L.t9; have a9 := L.a9; have z9 := L.z9; have v9 := L.v9
  have t21 := L.t21; have a21 := L.a21; have z21 := L.z21; have v21 := L.v21
  have e137 : ∀ args w, (callFunc (ρ.f 137) args).run P w = .ok (.enter (ρ.f 137) args) w := enters_of L.f137 (by kernel_rfl) rfl
  have e119 : ∀ args w, (callFunc (ρ.f 119) args).run P w = .ok (.enter (ρ.f 119) args) w := enters_of L.f119 (by kernel_rfl) rfl
  by_cases hr : r = 65533
  · subst hr
    clear hascii
    go_enter L.f152, Body.n152_ntmps ρ
    go_wp2
    go_loopg [5, 6] s.size (fun g _ _ wx => ∃ i : Nat, i + g = s.size ∧ wx = w.iter s i)
    case atStart => exact ⟨0, by omega, rfl⟩
    case round =>
      obtain ⟨i, hig, rfl⟩ := hrel
      cases gk with
      | zero =>
        obtain rfl : i = s.size := by omega
        have hnx := fun ty => run_next_end (P := P) w s 2 ty (by omega)
        clear hig
        go_wp2
        go_ret
        exact ⟨rfl, (Below.refl _ _).alloc (Nat.le_refl _) _⟩
      | succ g =>
        have hi : i < s.size := by omega
        obtain ⟨x, hx⟩ : ∃ x : UInt8, s[i]'hi = x := ⟨_, rfl⟩
        have hx128 : x.toNat < 128 := by rw [← hx]; exact HA.out i hi
        have hnx := fun ty => run_next_ascii (P := P) w s i ty hi (by rw [hx]; exact hx128)
        rw [hx] at hnx
        clear hx
        have hne : ((x.toNat : Int) == 65533) = false := beq_eq_false_iff_ne.2 (by omega)
        go_wp2
        go_roundg g
        case measure => omega
        case rel => exact ⟨i + 1, by omega, rfl⟩
  · have hrf : (r == 65533) = false := beq_eq_false_iff_ne.2 hr
    have hs21 : (P.underlying (ρ.t 21)).isSome = true := by rw [t21]; rfl
    obtain ⟨q1, q2, q3⟩ := encode_facts r (by rw [validRune_eq]; exact hv) h0
    generalize hen : Utf8.encode r = en at q1 q2 q3
    have hcv := fun w => run_convert_int_string (P := P) w (ρ.t 21) (ρ.t 9) .i32 r hs21 t9
    rw [hen] at hcv
    have hlast : (en.size : Int) - 1 = ((en.size - 1 : Nat) : Int) := by omega
    obtain ⟨y, hy⟩ : ∃ y : UInt8, en[en.size - 1]'(by omega) = y := ⟨_, rfl⟩
    have hy1 : 128 ≤ y.toNat := by rw [← hy]; exact q3 (by omega)
    go_enter L.f152, Body.n152_ntmps ρ
    go_wp2_with (go_at_fn (ρ.f 119); refine (Any.utf8_ValidRune { L with } _ _).mono ?_; rintro e w' ⟨rfl, hw⟩; rw [hw, hv])
    go_step3
    go_wp2
    go_loopg [9] 0 (fun g u9 wx => u9 = .int .i64 ((en.size - 1 : Nat) : Int) ∧ wx = w)
    case atStart => exact ⟨rfl, rfl⟩
    case round =>
      obtain ⟨rfl, rfl⟩ := hrel
      by_cases h2' : en.size = 2
      · have hx128 : (s[1]'(by omega)).toNat < 128 := HA.out 1 (by omega)
        obtain ⟨x, hx⟩ : ∃ x : UInt8, s[1]'(by omega) = x := ⟨_, rfl⟩
        rw [hx] at hx128
        have hone : ((en.size - 1 : Nat) : Int) = 1 := by omega
        have hne : ((x.toNat : Int) == (y.toNat : Int)) = false := beq_eq_false_iff_ne.2 (by omega)
        have hia : ∀ w k, (Instr.index (ρ.t 9) (.string s) (.int k 1)).run P w = .ok (.int .u8 x.toNat) w := by
          intro w k
          rw [run_index_string (P := P) w (ρ.t 9) s k 1 t9, dif_pos ⟨by omega, by omega⟩]
          show Result.ok (Value.int .u8 ((s[1]'(by omega)).toNat : Int)) w = _
          rw [hx]
        have hib : ∀ w k, (Instr.index (ρ.t 9) (.string en) (.int k 1)).run P w = .ok (.int .u8 y.toNat) w := by
          intro w k
          rw [run_index_string (P := P) w (ρ.t 9) en k 1 t9, dif_pos ⟨by omega, by omega⟩, ← hy]
          congr 3
          simp [h2']
        have hne' : ((x.toNat : Int) != (y.toNat : Int)) = true := by rw [bne, hne]; rfl
        have hsl : ∀ w k, (Instr.slice (ρ.t 9) (.string s) (some (.int k 2)) none none).run P w = .ok (.string ⟨#[]⟩) w := by
          intro w k
          rw [run_slice_string_l (P := P) w (ρ.t 9) s t9 k 2 (by omega) (by omega), h2]
          congr 2
          apply ByteArray.ext
          simp [show Int.toNat 2 = 2 from rfl]
        have hno : ∀ c, Lib.indexByte (ByteArray.mk #[]).data.toList c = -1 := fun c => rfl
        simp only [hone]
        go_wp2
        go_step3
        refine wp_seq ?_
        refine wp_seq ?_
        go_big_quiet_o (fail)
        have hc : ∀ w c, Calls P (ρ.f 137) #[.string ⟨#[]⟩, .int .u8 c] w fun e w' => e = .returned (.int .i64 (-1)) ∧ w' = w := fun w c =>
          (Any.strings_IndexByte { L with } _ _ _).mono fun e w' ⟨h1, h2⟩ => ⟨by rw [h1, hno], h2⟩
        have hw2 : IntKind.i64.wrap (1 + 1) = 2 := by decide
        have hsl2 : ∀ w, (Instr.slice (ρ.t 9) (.string s) (some (.int .i64 (IntKind.i64.wrap (1 + 1)))) none none).run P w = .ok (.string ⟨#[]⟩) w := fun w => by rw [hw2]; exact hsl w _
        go_wp2
        go_big_quiet_o (exact (hc _ _).mono fun e w' hh => ⟨hh.1, _, hh.2⟩)
        go_wp2
        rw [Exit.noGoto_ret]
        go_wp2
        rw [Exit.noGoto_ret]
        go_ret
        exact ⟨rfl, (Below.refl _ _).trans ⟨rfl, rfl, rfl, Nat.le_refl _, fun _ _ => rfl⟩⟩
      · have hge : ¬ ((en.size - 1 : Nat) : Int) < 2 := by omega
        go_wp2
        all_goals (try rw [Exit.noGoto_ret])
        all_goals (go_ret; exact ⟨rfl, Below.refl _ _⟩)
end Go.Proofs
namespace Go.Proofs.YtmmbedlegmbppaaDoor.R
open Go Go.RowKit
def x_IndexRune.f (k : Nat) (x : Tup [.str, .int .i32]) : Option (Tup [.int .i64]) :=
  if 0 ≤ x.2 ∧ x.2 < 128 then some (Lib.indexByte x.1.data.toList x.2.toNat.toUInt8)
  else if Lib.validRune x.2 = true ∧ 128 ≤ x.2 ∧ x.1.size = 2 ∧ asciiB x.1.data.toList = true then some (-1) else none
theorem x_IndexRune.ok : Spec.Sound P T 106 ⟨[.str, .int .i32], [.int .i64], x_IndexRune.f⟩ := sound_flat rfl rfl fun k x r w h hT => by
  obtain ⟨s, c⟩ := x
  simp only [x_IndexRune.f] at h
  split at h
  · rename_i hc
    obtain rfl := Option.some.inj h
    refine (Tryd.strings_IndexRune_ascii s c w hc.1 hc.2).mono ?_
    rintro e w1 ⟨rfl, rfl⟩
    exact ⟨rfl, Below.refl _ _⟩
  · split at h
    · rename_i hc
      obtain rfl := Option.some.inj h
      have hlt : @LT.lt Int _ c 1114112 := by
        have this : Lib.validRune c = true := hc.1
        unfold Lib.validRune at this
        have := of_decide_eq_true this
        omega
      refine (Any.strings_IndexRune_hi Tryd.lays152 s c w hc.2.1 hlt hc.1 hc.2.2.1 (fun j hj => ?_)).mono ?_
      · exact ascii_of_all hc.2.2.2 j _ (Lib.data_getElem? s j hj)
      · rintro e w1 ⟨rfl, hb⟩
        exact ⟨rfl, hb⟩
    · cases h
end Go.Proofs.YtmmbedlegmbppaaDoor.R
