/- strconv.FormatInt at base 16: the digits of numbers that are not great. -/
import Derived.Test.YtmmbedlegmbppaaDoorRT
import Derived.Test.YtmmbedlegmbppaaDoorShelf
namespace Go.Proofs.YtmmbedlegmbppaaDoor.R
open Go Go.RowKit Go.Shelf
set_option linter.unusedVariables false
set_option maxRecDepth 100000
theorem isPow16 (w : World) : Calls Tryd.prog 187 #[.int .i64 16] w fun e w' => e = .returned (.bool true) ∧ w' = w := by
  have h : Go.bits BinOp.and IntKind.i64 16 15 = 0 := by decide
  go_enter Tryd.func187, Tryd.ntmps187
  go_wp2
  go_ret
  exact ⟨rfl, rfl⟩
theorem tz64_core (x : Nat) (w : World) (hc : w.cell? ⟨7, 15, none⟩ = some (.int .u8 4)) (hx0 : ((x : Int) == 0) = false)
    (key : IntKind.u64.wrap (Go.bits BinOp.and IntKind.u64 (x : Int) (IntKind.u64.wrap (-(x : Int))) * 285870213051353865) / 288230376151711744 = (15 : Int)) :
    Calls Tryd.prog 196 #[.int .u64 (x : Int)] w fun e w' => e = .returned (.int .i64 4) ∧ w' = w := by
  go_enter Tryd.func196, Tryd.ntmps196
  go_wp2_with (simp only [key])
  go_ret
  exact ⟨rfl, rfl⟩
theorem tz_16 (w : World) (hc : w.cell? ⟨7, 15, none⟩ = some (.int .u8 4)) : Calls Tryd.prog 188 #[.int .u64 16] w fun e w' => e = .returned (.int .i64 4) ∧ w' = w := by
  have h : Calls Tryd.prog 196 #[.int .u64 16] w fun e w' => e = .returned (.int .i64 4) ∧ w' = w := tz64_core 16 w hc (by decide) (by decide)
  go_enter Tryd.func188, Tryd.ntmps188
  go_wp2_with (go_at_call 196; refine h.mono ?_; rintro e w' ⟨rfl, rfl⟩)
  go_ret
  exact ⟨rfl, rfl⟩
def hexd (n : Nat) : UInt8 := if n < 10 then UInt8.ofNat (48 + n) else UInt8.ofNat (87 + n)
def hexS : Nat → Nat → List UInt8
  | 0, _ => []
  | f + 1, n => if n < 16 then [hexd n] else hexS f (n / 16) ++ [hexd (n % 16)]
theorem and15 (u : Nat) (hu : u < 4294967296) : Go.bits BinOp.and IntKind.u64 (u : Int) 15 = ((u % 16 : Nat) : Int) := by
  have h := bits_and_u64_nat u 15 (by omega) (by omega)
  rw [show ((15 : Nat) : Int) = 15 from rfl] at h
  rw [h]
  congr 1
  exact Nat.and_two_pow_sub_one_eq_mod u 4
abbrev litH : ByteArray := { data := #[48, 49, 50, 51, 52, 53, 54, 55, 56, 57, 97, 98, 99, 100, 101, 102, 103, 104, 105, 106, 107, 108, 109, 110, 111, 112, 113, 114, 115, 116, 117, 118, 119, 120, 121, 122] }
theorem byte_at : ∀ (d : Fin 16) (h2 : d.val < litH.size), (litH[d.val]'h2) = hexd d.val := by decide
set_option maxHeartbeats 8000000 in
theorem fmt_calls (n : Nat) (hn : n < 4294967296) (r : List UInt8) (hr : r = hexS 9 n) (w : World) (hcb : w.cell? ⟨7, 15, none⟩ = some (.int .u8 4)) :
    Calls Tryd.prog 161 #[.slice none 0 0, .int .u64 (n : Int), .int .i64 16, .bool false, .bool false] w fun e w' => e = .returned (.tuple #[.slice none 0 0, .string ⟨r.toArray⟩]) ∧ Below w.heap.size w w' := by
  have hg : (7 : Nat) < w.heap.size := Lib.lt_of_cell hcb
  have hcb1 : ∀ o, (w.alloc o).cell? ⟨7, 15, none⟩ = some (.int .u8 4) := fun o => (((Below.refl _ w).alloc (Nat.le_refl _) o).cell (show (⟨7, 15, none⟩ : Addr).block < w.heap.size from hg)).trans hcb
  go_enter Tryd.func161, Tryd.ntmps161
  go_wp2_with (first | (go_at_call 187; refine (isPow16 _).mono ?_; rintro e w' ⟨rfl, rfl⟩) | (go_at_call 188; refine (tz_16 _ (hcb1 _)).mono ?_; rintro e w' ⟨rfl, rfl⟩))
  have hzr : Tryd.zeroCells188 = Array.replicate 65 (Value.int .u8 0) := by kernel_rfl
  have hz : ∀ j, j < 65 → (w.alloc (.cells Tryd.zeroCells188 188)).cell? ⟨w.heap.size, j, none⟩ = some (.int .u8 0) := fun j hj => by
    rw [World.cell?_alloc_new, hzr]
    simp [hj]
  have hf : ∀ j, j < 65 → (w.alloc (.cells Tryd.zeroCells188 188)).frozen? ⟨w.heap.size, j, none⟩ = false := fun j hj => by
    unfold World.frozen?
    rw [heap_alloc_new]
    simp
  have hB0 : Below w.heap.size w (w.alloc (.cells Tryd.zeroCells188 188)) := (Below.refl _ _).alloc (Nat.le_refl _) _
  clear hzr hcb hcb1 hg
  go_loopg [1, 13] 8 (fun kq v1 v13 w' => ∃ (u i : Nat) (D : List UInt8), v1 = .int .u64 (u : Int) ∧ v13 = .int .i64 (i : Int) ∧ i = 57 + kq ∧ Hid (u < 16 ^ kq ∧ u < 4294967296 ∧ r = hexS (kq + 1) u ++ D ∧ D.length = 65 - i ∧ i ≤ 65) ∧ Hid (∀ j, j < 65 → w'.cell? ⟨w.heap.size, j, none⟩ = some (.int .u8 (if j < i then 0 else (D.getD (j - i) 0).toNat))) ∧ Hid (∀ j, j < 65 → w'.frozen? ⟨w.heap.size, j, none⟩ = false) ∧ Hid (Below w.heap.size w w'))
  case atStart => exact ⟨n, 65, [], rfl, rfl, rfl, Lib.hid ⟨by omega, hn, by simp [hr], rfl, by omega⟩, Lib.hid (fun j hj => by rw [if_pos hj]; exact hz j hj), Lib.hid hf, Lib.hid hB0⟩
  case round =>
    obtain ⟨u, i, D, rfl, rfl, rfl, HU, HC, HF, HB⟩ := hrel
    clear hz hf hB0
    obtain ⟨hu1, hu2, hu3, hu4, hi65⟩ := HU.out
    by_cases h16 : 16 ≤ u
    · cases gk with
      | zero => simp at hu1; omega
      | succ k1 =>
      have hcell := HC.out (57 + k1) (by omega)
      have hfz := HF.out (57 + k1) (by omega)
      rw [if_pos (by omega)] at hcell
      have b0 : decide ((16 : Int) ≤ (u : Int)) = true := decide_eq_true (by omega)
      have b1 : decide ((u : Int) ≥ 16) = true := decide_eq_true (by omega)
      have ha := and15 u hu2
      have hd : u % 16 < 16 := Nat.mod_lt _ (by decide)
      generalize hdd : u % 16 = d at ha hd
      have hd0 : (0 : Int) ≤ (d : Int) := by omega
      have hd1 : (d : Int) < 36 := by omega
      have hk8 : k1 + 1 ≤ 8 := by omega
      have HX := HU
      clear HU hu1 hu3 hu4
      go_wp2
      go_roundg k1
      case measure => omega
      case rel =>
        have hbyte := byte_at ⟨d, hd⟩ (by show d < 36; omega)
        obtain ⟨hu1, hu2, hu3, hu4, hi65⟩ := HX.out
        have hq : hexS (k1 + 1 + 1) u = hexS (k1 + 1) (u / 16) ++ [hexd d] := by rw [← hdd, hexS, if_neg (by omega)]
        have hp : 16 ^ (k1 + 1) = 16 ^ k1 * 16 := Nat.pow_succ 16 k1
        refine ⟨u / 16, 57 + k1, hexd d :: D, by simp, by simp; omega, rfl, Lib.hid ⟨by omega, by omega, by rw [hu3, hq, List.append_assoc]; rfl, by rw [List.length_cons, hu4]; omega, by omega⟩, Lib.hid (fun j hj => ?_), Lib.hid (fun j hj => ?_), Lib.hid (HB.out.setCell (Nat.le_refl _) _)⟩
        · by_cases hji : j = 57 + k1
          · subst hji
            rw [World.cell?_setCell_same (h := hcell), if_neg (by omega), Nat.sub_self]
            exact congrArg (fun b : UInt8 => some (Value.int .u8 (b.toNat : Int))) hbyte
          · rw [World.cell?_setCell_other (h := by intro h; injection h with _ h; omega), HC.out j hj]
            by_cases hlt : j < 57 + k1
            · rw [if_pos hlt, if_pos (by omega)]
            · rw [if_neg hlt, if_neg (by omega), show j - (57 + k1) = (j - (57 + (k1 + 1))) + 1 by omega]
              rfl
        · rw [World.frozen?_setCell]; exact HF.out j hj
    · have b0 : decide ((16 : Int) ≤ (u : Int)) = false := decide_eq_false (by omega)
      have b1 : decide ((u : Int) ≥ 16) = false := decide_eq_false (by omega)
      have hcell := HC.out (56 + gk) (by omega)
      have hfz := HF.out (56 + gk) (by omega)
      rw [if_pos (by omega)] at hcell
      have hd1 : (u : Int) < 36 := by omega
      have hgk : gk ≤ 8 := by omega
      have HX := HU
      clear HU hu1 hu3 hu4
      have hal : Program.arrayLen Tryd.prog 188 = 65 := by simp [Program.arrayLen, Tryd.underlying188]
      have hsl : ∀ W, (Instr.sliceAt 188 (.pointer (some ⟨w.heap.size, 0, none⟩)) (some (.int .i64 (57 + (gk : Int) - 1))) none none).run Tryd.prog W = .ok (.slice (some ⟨w.heap.size, 56 + gk, none⟩) (9 - gk) (9 - gk)) W := fun W => by
        rw [run_sliceAt_array_l W 188 ⟨w.heap.size, 0, none⟩ (by simp [Program.arrayLen, Program.elem, Tryd.underlying188]) .i64 (57 + (gk : Int) - 1) (by omega) (by rw [hal]; omega), hal]
        have e1 : (57 + (gk : Int) - 1).toNat = 56 + gk := by omega
        have e2 : 65 - (56 + gk) = 9 - gk := by omega
        have e3 : ¬ 65 = 56 + gk := by omega
        rw [e1]
        simp [slicedAt, Program.elem, Tryd.underlying188, Tryd.sizeOf5, Addr.add, e2, e3]
      clear hal
      have hll : (hexd u :: D).length = 9 - gk := by
        obtain ⟨hu1, hu2, hu3, hu4, hi65⟩ := HX.out
        rw [List.length_cons, hu4]; omega
      have h36 : u < litH.size := by show u < 36; omega
      have hfin : ∀ j (hj : j < (hexd u :: D).length), (wr.setCell ⟨w.heap.size, 56 + gk, none⟩ (.int .u8 ((litH[u]'h36).toNat : Int))).cell? ((⟨w.heap.size, 56 + gk, none⟩ : Addr).add j) = some (.int .u8 ((hexd u :: D)[j].toNat : Int)) := by
        intro j hj
        rw [hll] at hj
        have e : (⟨w.heap.size, 56 + gk, none⟩ : Addr).add j = ⟨w.heap.size, 56 + gk + j, none⟩ := by
          unfold Addr.add
          by_cases h : j = 0 <;> simp [h]
        rw [e]
        have hbyte := byte_at ⟨u, by omega⟩ h36
        cases j with
        | zero =>
          rw [Nat.add_zero, World.cell?_setCell_same (h := hcell)]
          exact congrArg (fun b : UInt8 => some (Value.int .u8 (b.toNat : Int))) hbyte
        | succ j =>
          rw [World.cell?_setCell_other (h := by intro h; injection h with _ h; omega), HC.out _ (by omega), if_neg (by omega), show 56 + gk + (j + 1) - (57 + gk) = j by omega]
          have hjD : j < D.length := by rw [List.length_cons] at hll; omega
          rw [List.getD_eq_getElem?_getD, List.getElem?_eq_getElem hjD]
          rfl
      have hres : r = hexd u :: D := by
        obtain ⟨hu1, hu2, hu3, hu4, hi65⟩ := HX.out
        rw [hu3, hexS, if_pos (by omega)]; rfl
      have hll2 : r.length = 9 - gk := by rw [hres]; exact hll
      have hfin2 : ∀ j (hj : j < r.length), (wr.setCell ⟨w.heap.size, 56 + gk, none⟩ (.int .u8 ((litH[u]'h36).toNat : Int))).cell? ((⟨w.heap.size, 56 + gk, none⟩ : Addr).add j) = some (.int .u8 (r[j].toNat : Int)) := by
        intro j hj
        have h1 : j < (hexd u :: D).length := by rw [← hres]; exact hj
        have h2 : r[j] = (hexd u :: D)[j]'h1 := by simp only [hres]
        rw [h2]
        exact hfin j h1
      clear hr HX hfin hll hres
      have hconv := Go.run_convert_bytes_back (P := Tryd.prog) (wr.setCell ⟨w.heap.size, 56 + gk, none⟩ (.int .u8 ((litH[u]'h36).toNat : Int))) 46 9 5 ⟨w.heap.size, 56 + gk, none⟩ (9 - gk) r Tryd.underlying46 Tryd.underlying5 Tryd.underlying9 hfin2
      rw [hll2] at hconv
      unfold litH at hconv
      clear hfin2 hll2
      go_wp2
      go_ret2
      exact ⟨rfl, HB.out.setCell (Nat.le_refl _) _⟩
theorem fmtint_in (n : Nat) (hn : n < 4294967296) (w : World) (hcb : w.cell? ⟨7, 15, none⟩ = some (.int .u8 4)) :
    Calls Tryd.prog 113 #[.int .i64 (n : Int), .int .i64 16] w fun e w' => e = .returned (.string ⟨(hexS 9 n).toArray⟩) ∧ Below w.heap.size w w' := by
  have hw : IntKind.u64.wrap (n : Int) = (n : Int) := by rw [IntKind.wrap_u64]; omega
  have b0 : decide ((n : Int) < 0) = false := decide_eq_false (by omega)
  go_enter Tryd.func113, Tryd.ntmps113
  go_wp2_with (go_at_call 161; refine (fmt_calls n hn _ rfl w hcb).mono ?_; rintro e w' ⟨rfl, hB⟩)
  go_ret
  exact ⟨rfl, hB⟩
theorem fmtint_calls (n : Nat) (hn : n < 4294967296) (w : World) (hcb : w.cell? ⟨7, 15, none⟩ = some (.int .u8 4)) :
    Calls Tryd.prog 73 #[.int .i64 (n : Int), .int .i64 16] w fun e w' => e = .returned (.string ⟨(hexS 9 n).toArray⟩) ∧ Below w.heap.size w w' := by
  go_enter Tryd.func73, Tryd.ntmps73
  go_wp2_with (go_at_call 113; refine (fmtint_in n hn w hcb).mono ?_; rintro e w' ⟨rfl, hB⟩)
  go_ret
  exact ⟨rfl, hB⟩
def x_FormatInt.f (k : Nat) (x : Tup [.int .i64, .int .i64]) : Option (Tup [.str]) := if 0 ≤ x.1 ∧ x.1 < 4294967296 ∧ x.2 = 16 then some ⟨(hexS 9 x.1.toNat).toArray⟩ else none
theorem x_FormatInt.ok : Spec.Sound P T 73 ⟨[.int .i64, .int .i64], [.str], x_FormatInt.f⟩ := sound_flat rfl rfl fun k x r w h hT => by
  obtain ⟨n, b⟩ := x
  simp only [x_FormatInt.f] at h
  split at h
  · rename_i hc
    obtain ⟨h0, h1, h2⟩ := hc
    obtain rfl := Option.some.inj h
    have hb : b = (16 : Int) := h2
    subst hb
    obtain ⟨m, rfl⟩ : ∃ m : Nat, n = (m : Int) := ⟨n.toNat, (Int.toNat_of_nonneg h0).symm⟩
    have hm : m < 4294967296 := by have h1' : (m : Int) < 4294967296 := h1; omega
    refine (fmtint_calls m hm w (hT.2.2.cell (by kernel_rfl) 15 (by decide))).mono ?_
    rintro e w1 ⟨rfl, hb⟩
    exact ⟨rfl, hb⟩
  · cases h
end Go.Proofs.YtmmbedlegmbppaaDoor.R
