/- internal/strconv.ParseUint and strconv.ParseUint at base 16, bits 8, at texts of two bytes. -/
import Derived.Test.YtmmbedlegmbppaaDoorShelf
import Derived.Test.YtmmbedlegmbppaaDoorRHJ
import Derived.Lib.Strings
import Derived.Lib.Walk
import Derived.Lib.ConvBytes
import Derived.Lib.ParseIntBMem
import Derived.Lib.Hide
import Derived.Laws.Strings3
import Derived.Laws.Closers25
import Derived.Laws.Closers25b
import Derived.WalkKit
import Derived.BigCall
import Derived.BigGuard
namespace Go.Proofs
open Go.Shelf Go.RowKit
variable {P : Program} {ρ : Ren}
/-- A digit by sixteen. -/
def hexB (c : UInt8) : Option Nat :=
  if 48 ≤ c.toNat ∧ c.toNat ≤ 57 then some (c.toNat - 48) else if 97 ≤ c.toNat ∧ c.toNat ≤ 102 then some (c.toNat - 87) else if 65 ≤ c.toNat ∧ c.toNat ≤ 70 then some (c.toNat - 55) else none
def hexL (acc : Nat) : List UInt8 → Option Nat
  | [] => some acc
  | c :: r => match hexB c with
    | some d => hexL (acc * 16 + d) r
    | none => none
def hexT (t : TypeId) : Option Nat → Value
  | some n => .tuple #[.int .u64 n, .nilIface]
  | none => .tuple #[.int .u64 0, .iface t (.int .i64 2)]
theorem low_fin : ∀ n : Fin 256, (97 ≤ bits .or .u8 (n.val : Int) 32 ∧ bits .or .u8 (n.val : Int) 32 ≤ 122 ∧ bits .or .u8 (n.val : Int) 32 = (if n.val < 97 then (n.val : Int) + 32 else n.val) ∧ ((65 ≤ n.val ∧ n.val ≤ 90) ∨ (97 ≤ n.val ∧ n.val ≤ 122))) ∨
    ((bits .or .u8 (n.val : Int) 32 < 97 ∨ 122 < bits .or .u8 (n.val : Int) 32) ∧ ¬ (65 ≤ n.val ∧ n.val ≤ 90) ∧ ¬ (97 ≤ n.val ∧ n.val ≤ 122)) := by decide +kernel
set_option maxHeartbeats 32000000 in
set_option maxRecDepth 100000 in
theorem Any.internal_strconv_ParseUint_16_b8 (L : Lays.n287 P ρ) (t : ByteArray) (h2 : t.size = 2) (w : World) :
    Calls P (ρ.f 287) #[.string t, .int .i64 16, .int .i64 8] w fun e w' => e = .returned (hexT (ρ.t 167) (hexL 0 t.data.toList)) ∧ w' = Lib.bytesWorld w (ρ.t 5) t := by
  have hne : t.size ≠ 0 := by omega
  have hmax : t.size ≤ 9223372036854775806 := by omega
  have mixed := L.mixed
  have t9 := L.t9; have a9 := L.a9; have z9 := L.z9; have v9 := L.v9
  have t3 := L.t3; have a3 := L.a3; have z3 := L.z3; have v3 := L.v3
  have t53 := L.t53; have a53 := L.a53; have z53 := L.z53; have v53 := L.v53
  have t75 := L.t75; have a75 := L.a75; have z75 := L.z75; have v75 := L.v75
  have t4 := L.t4; have a4 := L.a4; have z4 := L.z4; have v4 := L.v4
  have t167 := L.t167; have a167 := L.a167; have z167 := L.z167; have v167 := L.v167
  have t5 := L.t5; have a5 := L.a5; have z5 := L.z5; have v5 := L.v5
  have t46 := L.t46; have a46 := L.a46; have z46 := L.z46; have v46 := L.v46
  have t37 := L.t37; have a37 := L.a37; have z37 := L.z37; have v37 := L.v37
  have t0 := L.t0; have a0 := L.a0; have z0 := L.z0; have v0 := L.v0
  have e321 : ∀ args w, (callFunc (ρ.f 321) args).run P w = .ok (.enter (ρ.f 321) args) w := enters_of L.f321 (by kernel_rfl) rfl
  have hemp : t.toList.isEmpty = false := by
    rw [← decide_eq_emptyBytes]
    exact decide_eq_false (fun h => hne (by rw [h]; rfl))
  have hcv := Lib.run_convert_string_bytes (P := P) w (ρ.t 9) (ρ.t 37) (ρ.t 5) t (u := .string) L.t9 L.t37 L.t5
  have hB : ∀ j, j < t.size → (Lib.bytesWorld w (ρ.t 5) t).cell? ⟨w.heap.size, j, none⟩ = some (.int .u8 (t.data.toList.getD j 0).toNat) := fun j hj => Lib.bytesWorld_cell w (ρ.t 5) t j hj
  obtain ⟨W1, hW1⟩ : ∃ W1, W1 = Lib.bytesWorld w (ρ.t 5) t := ⟨_, rfl⟩
  rw [← hW1] at hcv hB ⊢
  clear hW1
  obtain ⟨bs, hL⟩ : ∃ bs, bs = t.data.toList := ⟨_, rfl⟩
  have hLn : bs.length = t.size := by rw [hL, Lib.size_eq]
  rw [← hL] at hB ⊢
  clear hL
  -- 'maxVal := uint64(1)<<uint(bitSize) - 1': its value, for the walk to take
  have hmv : IntKind.u64.wrap (IntKind.u64.wrap 256 - 1) = 255 := by
    rw [IntKind.wrap_u64, IntKind.wrap_u64]
    decide
  go_enter L.f287, Body.n287_ntmps ρ
  go_wp2
  go_loop [12, 13, 101] (fun vu vn vi => ∃ (k acc : Nat) (a : Int), vu = .bool false ∧ vn = .int .u64 a ∧ vi = .int .i64 k ∧ k ≤ 2 ∧ Hid (a = (acc : Int) ∧ acc ≤ 255 ∧ (k = 0 → acc = 0) ∧ (k ≤ 1 → acc ≤ 15) ∧ hexL 0 bs = hexL acc (bs.drop k)))
    (fun _ _ vi => t.size - (intOf vi).toNat)
  case atStart => exact ⟨0, 0, 0, rfl, rfl, rfl, by omega, Lib.hid ⟨by omega, by omega, by omega, by omega, rfl⟩⟩
  case round =>
    obtain ⟨k, acc, a, rfl, rfl, rfl, hk, hh⟩ := hrel
    obtain ⟨ha, hacc, hk0, hk1, hdec⟩ := hh.out
    clear hh
    have a0 : 0 ≤ a := by omega
    have a1 : a ≤ 255 := by omega
    by_cases hkn : k < t.size
    · have a2 : a ≤ 15 := by have := hk1 (by omega); omega
      have hc := hB k hkn
      have hdrop : bs.drop k = bs[k]'(by omega) :: bs.drop (k + 1) := List.drop_eq_getElem_cons (by omega)
      have hget : bs.getD k 0 = bs[k]'(by omega) := by simp [List.getD, List.getElem?_eq_getElem (show k < bs.length by omega)]
      rw [hdrop] at hdec
      rw [hget] at hc
      generalize bs[k]'(by omega) = c at hc hdec
      have hc256 : c.toNat < 256 := c.toNat_lt
      clear hB hdrop hget
      have hlow := low_fin ⟨c.toNat, hc256⟩
      simp only [] at hlow
      cases hx : hexB c with
      | some d =>
        have hF : hexL acc (c :: bs.drop (k + 1)) = hexL (acc * 16 + d) (bs.drop (k + 1)) := by rw [hexL, hx]
        have hd : d ≤ 15 := by
          unfold hexB at hx
          split at hx
          · obtain rfl := Option.some.inj hx; omega
          · split at hx
            · obtain rfl := Option.some.inj hx; omega
            · split at hx
              · obtain rfl := Option.some.inj hx; omega
              · cases hx
        have HN : Hid (a * 16 + (d : Int) = ((acc * 16 + d : Nat) : Int) ∧ acc * 16 + d ≤ 255 ∧ (k + 1 = 0 → acc * 16 + d = 0) ∧ (k + 1 ≤ 1 → acc * 16 + d ≤ 15) ∧ hexL 0 bs = hexL (acc * 16 + d) (bs.drop (k + 1))) :=
          Lib.hid ⟨by omega, by omega, by omega, fun h => by have := hk0 (by omega); omega, by rw [hdec, hF]⟩
        by_cases hdig : 48 ≤ c.toNat ∧ c.toNat ≤ 57
        · obtain ⟨hd0, hd1⟩ := hdig
          obtain rfl : d = c.toNat - 48 := by
            unfold hexB at hx
            rw [if_pos ⟨hd0, hd1⟩] at hx
            exact (Option.some.inj hx).symm
          have HN2 : Hid (a * 16 + ((c.toNat : Int) - 48) = ((acc * 16 + (c.toNat - 48) : Nat) : Int) ∧ acc * 16 + (c.toNat - 48) ≤ 255 ∧ (k + 1 = 0 → acc * 16 + (c.toNat - 48) = 0) ∧ (k + 1 ≤ 1 → acc * 16 + (c.toNat - 48) ≤ 15) ∧ hexL 0 bs = hexL (acc * 16 + (c.toNat - 48)) (bs.drop (k + 1))) := Lib.hid ⟨by omega, HN.out.2⟩
          clear hF hdec ha hx hlow HN hk0 hk1 hacc hd
          go_wp2
          exact ⟨⟨k + 1, acc * 16 + (c.toNat - 48), a * 16 + ((c.toNat : Int) - 48), rfl, rfl, rfl, by omega, HN2⟩, by simp [intOf]; omega⟩
        · obtain ⟨v, hv, hv0, hv1, hvd, h95⟩ : ∃ v : Int, bits .or .u8 (c.toNat : Int) 32 = v ∧ 97 ≤ v ∧ v ≤ 102 ∧ v - 97 + 10 = (d : Int) ∧ c.toNat ≠ 95 := by
            unfold hexB at hx
            rw [if_neg hdig] at hx
            rcases hlow with ⟨l0, l1, l2, l3⟩ | ⟨_, l1, l2⟩
            · split at hx
              · obtain rfl := Option.some.inj hx
                rw [if_neg (by omega)] at l2
                exact ⟨_, l2, by omega, by omega, by omega, by omega⟩
              · split at hx
                · obtain rfl := Option.some.inj hx
                  rw [if_pos (by omega)] at l2
                  exact ⟨_, l2, by omega, by omega, by omega, by omega⟩
                · cases hx
            · split at hx
              · omega
              · split at hx
                · omega
                · cases hx
          clear hlow hx hF hdec ha hk0 hk1 hacc
          rw [← hvd] at HN
          clear hvd
          have h95' : ((c.toNat : Int) == 95) = false := beq_eq_false_iff_ne.2 (by omega)
          go_wp2_with (go_at_fn (ρ.f 321); refine (Any.internal_strconv_lower { L with } _ _).mono ?_; rintro e w' ⟨rfl, rfl⟩; rw [hv])
          all_goals exact ⟨⟨k + 1, acc * 16 + d, a * 16 + (v - 97 + 10), rfl, rfl, rfl, by omega, HN⟩, by simp [intOf]; omega⟩
      | none =>
        have hF : hexL acc (c :: bs.drop (k + 1)) = none := by rw [hexL, hx]
        rw [hF] at hdec
        obtain ⟨v, hv, hv0, hv1, hvn⟩ : ∃ v : Int, bits .or .u8 (c.toNat : Int) 32 = v ∧ 0 ≤ v ∧ v < 256 ∧ ¬ (97 ≤ v ∧ v ≤ 102) := by
          refine ⟨_, rfl, bits_lo_u8 .or (c.toNat : Int) 32, ?_, fun hh => ?_⟩
          · have := bits_hi_u8 .or (c.toNat : Int) 32
            omega
          · unfold hexB at hx
            split at hx
            · cases hx
            · split at hx
              · cases hx
              · split at hx
                · cases hx
                · rcases hlow with ⟨l0, l1, l2, l3⟩ | ⟨l0, l1, l2⟩
                  · split at l2 <;> omega
                  · omega
        have hdig : ¬ (48 ≤ c.toNat ∧ c.toNat ≤ 57) := by
          unfold hexB at hx
          split at hx
          · cases hx
          · assumption
        have hu0 := bits_lo_u8 .or 95 32
        have hu1 := bits_hi_u8 .or 95 32
        clear hlow hx hF ha hk0 hk1 hacc
        go_wp2_with (go_at_fn (ρ.f 321); refine (Any.internal_strconv_lower { L with } _ _).mono ?_; rintro e w' ⟨rfl, rfl⟩)
        all_goals go_ret2
        all_goals first | exact ⟨rfl, rfl⟩ | exact ⟨by rw [hdec]; rfl, rfl⟩
    · -- THE BYTES ARE AT AN END
      have hkk : k = t.size := by omega
      subst hkk
      have hF : hexL acc (bs.drop t.size) = some acc := by rw [List.drop_eq_nil_of_le (by omega)]; rfl
      rw [hF] at hdec
      subst ha
      clear hacc hF a0 a1 hk0 hk1
      go_wp2
      go_ret2
      first | exact ⟨rfl, rfl⟩ | exact ⟨by rw [hdec]; rfl, rfl⟩
end Go.Proofs
