/- Plain facts about the plain operations, for texts told as lists of bytes. -/
import Derived.Test.YtmmbedlegmbppaaDoorQ6
namespace Go.Proofs.YtmmbedlegmbppaaDoor.R
open Go Go.RowKit
set_option linter.unusedVariables false
set_option linter.unusedSimpArgs false
/-- Rounds: what each round tells, if the later ones tell so. -/
theorem iter_eq {V R : Type} {f : (V → Option R) → V → Option R} (inv : V → Prop) (m : V → Nat) (spec : V → Option R)
    (h : ∀ r v, inv v → (∀ v', inv v' → m v' < m v → r v' = spec v') → f r v = spec v) : ∀ k v, inv v → m v < k → iter f k v = spec v := by
  intro k
  induction k with
  | zero => intro v _ hk; omega
  | succ k ih =>
    intro v hv hk
    show f (iter f k) v = spec v
    exact h _ v hv (fun v' hv' hm => ih v' hv' (by omega))
abbrev Bs := List UInt8
def B (l : Bs) : ByteArray := ⟨l.toArray⟩
theorem B_size (l : Bs) : (B l).size = l.length := by simp [B, ByteArray.size]
theorem B_data (l : Bs) : (B l).data.toList = l := by simp [B]
theorem B_of (s : ByteArray) : s = B s.data.toList := by cases s; simp [B]
theorem B_ext {s t : ByteArray} (h : s.data.toList = t.data.toList) : s = t := by rw [B_of s, B_of t, h]
theorem B_inj {l m : Bs} (h : B l = B m) : l = m := by have := congrArg (fun s : ByteArray => s.data.toList) h; simpa [B] using this
theorem B_cat (l m : Bs) : catS (B l) (B m) = B (l ++ m) := B_ext (by simp [B, catS])
theorem B_extract (l : Bs) (a b : Nat) : (B l).extract a b = B ((l.take b).drop a) := B_ext (by simp [B, ByteArray.data_extract, List.extract_eq_drop_take', Array.toList_extract])
theorem B_cut (l : Bs) (a b : Nat) : cutS (B l) (a : Int) (b : Int) = B ((l.take b).drop a) := by unfold cutS; rw [Int.toNat_natCast, Int.toNat_natCast, B_extract]
theorem B_lit (a : Array UInt8) : (⟨a⟩ : ByteArray) = B a.toList := by simp [B]
theorem B_loop (bs : ByteArray) : ∀ (n i : Nat) (r : List UInt8), bs.size - i = n → ByteArray.toList.loop bs i r = r.reverse ++ bs.data.toList.drop i := by
  intro n
  induction n with
  | zero => intro i r h; unfold ByteArray.toList.loop; rw [if_neg (by omega)]; rw [List.drop_eq_nil_of_le (by simp only [ByteArray.size] at h; simp only [Array.length_toList]; omega)]; simp
  | succ n ih =>
    intro i r h
    unfold ByteArray.toList.loop
    rw [if_pos (by omega), ih (i + 1) _ (by omega)]
    have hi : i < bs.data.toList.length := by simp only [Array.length_toList]; simp only [ByteArray.size] at h; omega
    rw [List.drop_eq_getElem_cons hi]
    have : bs.get! i = bs.data.toList[i] := by
      show bs.data[i]! = _
      have h2 : i < bs.data.size := by simpa using hi
      rw [getElem!_pos bs.data i h2]; simp
    rw [this]
    simp
theorem toList_data (bs : ByteArray) : bs.toList = bs.data.toList := by
  unfold ByteArray.toList
  rw [B_loop bs _ 0 [] rfl]; simp
theorem B_toList (l : Bs) : (B l).toList = l := by rw [toList_data, B_data]
theorem B_len (l : Bs) : lenS (B l) = (l.length : Int) := by unfold lenS; rw [B_size]
theorem B_bt (l : Bs) (i : Nat) : btI (B l) (i : Int) = ((l.getD i 0).toNat : Int) := by
  unfold btI
  rw [Int.toNat_natCast]
  split
  · rename_i h
    have h' := h
    rw [B_size] at h'
    have e : (B l)[i]'h = l[i]'h' := rfl
    rw [e, List.getD_eq_getElem?_getD, List.getElem?_eq_getElem h']; rfl
  · rename_i h
    rw [B_size] at h
    rw [List.getD_eq_getElem?_getD, List.getElem?_eq_none (by omega)]
    rfl
theorem B_eq (l m : Bs) : eqS (B l) (B m) = decide (l = m) := by
  unfold eqS; rw [B_toList, B_toList, Bool.eq_iff_iff, beq_iff_eq, decide_eq_true_eq]
theorem B_fits (l m : Bs) : fitsS (B l) (B m) = decide (l.length + m.length ≤ 9223372036854775807) := by unfold fitsS; rw [B_size, B_size]
theorem B_ok (l : Bs) : okS (B l) = decide (l.length ≤ 9223372036854775807) := by unfold okS; rw [B_size]
theorem B_ofBytes (l : Bs) : ofBytes (l.map fun c => (c.toNat : Int)) = B l := by
  unfold ofBytes B
  rw [List.map_map]
  congr 2
  rw [show ((fun n : Int => UInt8.ofNat n.toNat) ∘ fun c : UInt8 => (c.toNat : Int)) = id from funext fun c => by simp]
  simp
theorem B_bytes (l : Bs) : bytesI (B l) = l.map fun c => (c.toNat : Int) := by unfold bytesI; rw [B_data]
theorem inB_nat (i n : Nat) : inB (i : Int) (n : Int) = decide (i < n) := by unfold inB; rw [Bool.eq_iff_iff]; simp
theorem inB_yes {i n : Nat} (h : i < n) : inB (i : Int) (n : Int) = true := by rw [inB_nat]; simp [h]
theorem boundB_nat (i n : Nat) : boundB (i : Int) (n : Int) = decide (i ≤ n) := by unfold boundB; rw [Bool.eq_iff_iff]; simp
theorem boundB_yes {i n : Nat} (h : i ≤ n) : boundB (i : Int) (n : Int) = true := by rw [boundB_nat]; simp [h]
theorem ltI_nat (i n : Nat) : ltI (i : Int) (n : Int) = decide (i < n) := by unfold ltI; rw [Bool.eq_iff_iff]; simp
theorem leI_nat (i n : Nat) : leI (i : Int) (n : Int) = decide (i ≤ n) := by unfold leI; rw [Bool.eq_iff_iff]; simp
theorem ifO_true {R : Type} (x y : Option R) : ifO true x y = x := rfl
theorem ifO_false {R : Type} (x y : Option R) : ifO false x y = y := rfl
theorem ifO_yes {R : Type} {c : Bool} (h : c = true) (x y : Option R) : ifO c x y = x := by rw [h]; rfl
theorem ifO_no {R : Type} {c : Bool} (h : c = false) (x y : Option R) : ifO c x y = y := by rw [h]; rfl
theorem ifO_dec {R : Type} (p : Prop) [Decidable p] (x y : Option R) : ifO (decide p) x y = if p then x else y := by unfold ifO; by_cases h : p <;> simp [h]
theorem bindO_some {V R : Type} (v : V) (f : V → Option R) : bindO (some v) f = f v := rfl
theorem w64 {x : Int} (h : -9223372036854775808 ≤ x) (h' : x ≤ 9223372036854775807) : IntKind.wrap .i64 x = x := by
  unfold IntKind.wrap
  rw [show (2 : Int) ^ (IntKind.bits .i64) = 18446744073709551616 from rfl, show (2 : Int) ^ (IntKind.bits .i64 - 1) = 9223372036854775808 from rfl]
  simp only [show IntKind.signed .i64 = true from rfl, Bool.true_and, decide_eq_true_eq]
  split <;> omega
theorem add64 {x y : Int} (h : -9223372036854775808 ≤ x + y) (h' : x + y ≤ 9223372036854775807) : addI .i64 x y = x + y := w64 h h'
theorem sub64 {x y : Int} (h : -9223372036854775808 ≤ x - y) (h' : x - y ≤ 9223372036854775807) : subI .i64 x y = x - y := w64 h h'
theorem mul64 {x y : Int} (h : -9223372036854775808 ≤ x * y) (h' : x * y ≤ 9223372036854775807) : mulI .i64 x y = x * y := w64 h h'
theorem next64 {i : Nat} (h : i < 9223372036854775807) : addI .i64 (i : Int) 1 = ((i + 1 : Nat) : Int) := by rw [add64 (by omega) (by omega)]; rfl
theorem eqI_dec (x y : Int) : eqI x y = decide (x = y) := by unfold eqI; rw [Bool.eq_iff_iff]; simp
theorem neI_dec (x y : Int) : neI x y = decide (x ≠ y) := by unfold neI; rw [Bool.eq_iff_iff]; simp
theorem lenL_nat {α : Type} (xs : List α) : lenL xs = (xs.length : Int) := rfl
theorem fitsL_yes {n m bytes : Nat} (h : (n + m) * bytes ≤ 140737488355328) (h' : n + m ≤ 140737488355328) : fitsL (n : Int) (m : Int) bytes = true := by
  unfold fitsL
  rw [Bool.and_eq_true, decide_eq_true_eq, decide_eq_true_eq]
  refine ⟨?_, ?_⟩
  · have := Int.ofNat_le.2 h
    rw [Int.natCast_mul, Int.natCast_add] at this
    exact this
  · have := Int.ofNat_le.2 h'
    rw [Int.natCast_add] at this
    exact this
theorem elT_get {t : Ty} {xs : List t.den} {i : Nat} (h : i < xs.length) : elT t xs (i : Int) = xs[i] := by
  unfold elT; rw [Int.toNat_natCast, List.getD_eq_getElem?_getD, List.getElem?_eq_getElem h]; rfl
end Go.Proofs.YtmmbedlegmbppaaDoor.R
