/- The dates: a model of the three forms, on plain lists of bytes. -/
import Derived.RowKit3
namespace Go.Proofs.YtkjjegjafpefcaaDoor.Pure
open Go.RowKit
set_option linter.unusedSimpArgs false
set_option linter.unusedVariables false
abbrev Bs := List UInt8
def Lp (y : Int) : Bool := decide (y % 4 = 0 ∧ (y % 100 ≠ 0 ∨ y % 400 = 0))
def Lg (y m : Int) : Int := if m = 2 then (if Lp y = true then 29 else 28) else if m = 4 ∨ m = 6 ∨ m = 9 ∨ m = 11 then 30 else 31
def Cm (y : Int) : Nat → Int
  | 0 => 0
  | n + 1 => Cm y n + Lg y (n + 1)
def Ah (y : Int) : Int := 365 * y + (y - 1) / 4 - (y - 1) / 100 + (y - 1) / 400
theorem Lg_bd (y m : Int) : 28 ≤ Lg y m ∧ Lg y m ≤ 31 := by unfold Lg; split <;> (try split) <;> omega
theorem Cm_bd (y : Int) (n : Nat) : 0 ≤ Cm y n ∧ Cm y n ≤ 31 * n := by
  induction n with
  | zero => simp [Cm]
  | succ n ih => have := Lg_bd y (n + 1); simp only [Cm]; omega
def Ok3 (y m d : Int) : Prop := 1970 ≤ y ∧ y ≤ 9999 ∧ 1 ≤ m ∧ m ≤ 12 ∧ 1 ≤ d ∧ d ≤ Lg y m
instance (y m d : Int) : Decidable (Ok3 y m d) := by unfold Ok3; infer_instance
def Dn (y m d : Int) : Int := Ah y - Ah 1970 + d - 1 + Cm y (m - 1).toNat
theorem Ah_bd (y : Int) (h : 1970 ≤ y) (h' : y ≤ 20000) : Ah 1970 ≤ Ah y ∧ Ah y ≤ 10000000 ∧ Ah 1970 = 719527 := by unfold Ah; omega
theorem Dn_nonneg (y m d : Int) (h : Ok3 y m d) : 0 ≤ Dn y m d ∧ Dn y m d ≤ 20000000 := by
  obtain ⟨h1, h2, h3, h4, h5, h6⟩ := h
  have hL := Lg_bd y m
  have hA := Ah_bd y h1 (by omega)
  have hC := Cm_bd y (m - 1).toNat
  unfold Dn; omega
def Ouc {α : Type} (o : Bool) (r : Option (α × Bs)) (v : α) (l : Bs) (o' : Bool) : Prop := (if o = true then none else r) = (if o' = true then none else some (v, l))
theorem Ouc.bind {α β : Type} {o o1 o2 : Bool} {r : Option (α × Bs)} {v : α} {l1 l2 : Bs} {w : β} {f : α × Bs → Option (β × Bs)} (h : Ouc o r v l1 o1) (k : Ouc o1 (f (v, l1)) w l2 o2) : Ouc o (r.bind f) w l2 o2 := by
  unfold Ouc at *
  cases o1
  · cases o
    · simp at h; rw [h]; simpa using k
    · simp at h
  · cases o2
    · simp at k
    · cases o
      · simp at h; rw [h]; rfl
      · rfl
theorem Ouc.true_ {α : Type} {r : Option (α × Bs)} {v : α} {l : Bs} {o' : Bool} (h : Ouc true r v l o') : o' = true := by
  unfold Ouc at h; cases o'
  · simp at h
  · rfl
theorem Ouc.false_ {α : Type} {r : Option (α × Bs)} {v : α} {l : Bs} (h : Ouc false r v l false) : r = some (v, l) := by unfold Ouc at h; simpa using h
theorem Ouc.none_ {α : Type} {r : Option (α × Bs)} {v : α} {l : Bs} (h : Ouc false r v l true) : r = none := by unfold Ouc at h; simpa using h
def hp (l p : Bs) : Bool := decide (l.take p.length = p)
theorem hp_iff (l p : Bs) : hp l p = true ↔ ∃ m, l = p ++ m := by
  unfold hp; rw [decide_eq_true_iff]
  constructor
  · intro h; exact ⟨l.drop p.length, by conv => lhs; rw [← List.take_append_drop p.length l, h]⟩
  · rintro ⟨m, rfl⟩; simp
def pw (p l : Bs) : Option (Unit × Bs) := if hp l p = true then some ((), l.drop p.length) else none
def dig (c : UInt8) : Bool := decide (48 ≤ c.toNat) && decide (c.toNat ≤ 57)
def val (l : Bs) : Int := l.foldl (fun n c => 10 * n + ((c.toNat : Int) - 48)) 0
theorem val_snoc (l : Bs) (c : UInt8) : val (l ++ [c]) = 10 * val l + ((c.toNat : Int) - 48) := by simp [val, List.foldl_append]
theorem fold_bd : ∀ (l : Bs) (a : Int), l.all dig = true → 0 ≤ a → 0 ≤ l.foldl (fun n c => 10 * n + ((c.toNat : Int) - 48)) a ∧ l.foldl (fun n c => 10 * n + ((c.toNat : Int) - 48)) a < (a + 1) * 10 ^ l.length
  | [], a, _, ha => by simp; omega
  | c :: l, a, h, ha => by
    rw [List.all_cons, Bool.and_eq_true] at h
    have h1 := h.1
    simp [dig] at h1
    have := fold_bd l (10 * a + ((c.toNat : Int) - 48)) h.2 (by omega)
    rw [List.foldl_cons, List.length_cons, Int.pow_succ]
    refine ⟨this.1, Int.lt_of_lt_of_le this.2 ?_⟩
    have hp : (0 : Int) ≤ 10 ^ l.length := Int.le_of_lt (Int.pow_pos (by decide))
    have : 10 * a + ((c.toNat : Int) - 48) + 1 ≤ (a + 1) * 10 := by omega
    calc (10 * a + ((c.toNat : Int) - 48) + 1) * 10 ^ l.length ≤ ((a + 1) * 10) * 10 ^ l.length := Int.mul_le_mul_of_nonneg_right this hp
      _ = (a + 1) * (10 ^ l.length * 10) := by rw [Int.mul_assoc, Int.mul_comm 10]
theorem val_bd (l : Bs) (h : l.all dig = true) : 0 ≤ val l ∧ val l < 10 ^ l.length := by
  have := fold_bd l 0 h (by decide)
  simpa [val] using this
def pn (many : Nat) (most : Int) (l : Bs) : Option (Int × Bs) :=
  if many ≤ l.length ∧ (l.take many).all dig = true ∧ val (l.take many) ≤ most then some (val (l.take many), l.drop many) else none
theorem take_snoc_ (l : Bs) (i : Nat) (h : i < l.length) : l.take (i + 1) = l.take i ++ [l[i]] := by rw [List.take_succ_eq_append_getElem h]
def NM : List Bs := [[74, 97, 110], [70, 101, 98], [77, 97, 114], [65, 112, 114], [77, 97, 121], [74, 117, 110], [74, 117, 108], [65, 117, 103], [83, 101, 112], [79, 99, 116], [78, 111, 118], [68, 101, 99]]
def nm (i : Nat) : Bs := NM.getD i []
theorem nm_len : ∀ i, i < 12 → (nm i).length = 3 := by decide
def pmf (l : Bs) : Nat → Nat → Option (Int × Bs)
  | 0, _ => none
  | d + 1, j => if hp l (nm j) = true then some ((j : Int) + 1, l.drop 3) else pmf l d (j + 1)
def pm (l : Bs) : Option (Int × Bs) := pmf l 12 0
def pc (l : Bs) : Option (Int × Bs) := (pn 2 23 l).bind fun a => (pw [58] a.2).bind fun b => (pn 2 59 b.2).bind fun c => (pw [58] c.2).bind fun d => (pn 2 59 d.2).bind fun e => some (3600 * a.1 + 60 * c.1 + e.1, e.2)
theorem Ouc.pure_ {α : Type} (o : Bool) (v : α) (l : Bs) : Ouc o (some (v, l)) v l o := by unfold Ouc; cases o <;> simp
abbrev Day := Int × Int × Int × Int
def p1 (l : Bs) : Option (Day × Bs) := (pw [44, 32] l).bind fun a => (pn 2 31 a.2).bind fun d => (pw [32] d.2).bind fun b => (pm b.2).bind fun m => (pw [32] m.2).bind fun c => (pn 4 9999 c.2).bind fun y => (pw [32] y.2).bind fun e => (pc e.2).bind fun s => (pw [32, 71, 77, 84] s.2).bind fun z => some ((y.1, m.1, d.1, s.1), z.2)
def p2 (l : Bs) : Option (Day × Bs) := (pw [44, 32] l).bind fun a => (pn 2 31 a.2).bind fun d => (pw [45] d.2).bind fun b => (pm b.2).bind fun m => (pw [45] m.2).bind fun c => (pn 2 9999 c.2).bind fun y => (pw [32] y.2).bind fun e => (pc e.2).bind fun s => (pw [32, 71, 77, 84] s.2).bind fun z => some (((if y.1 < 70 then y.1 + 2000 else y.1 + 1900), m.1, d.1, s.1), z.2)
def p3r (m d : Int) (l : Bs) : Option (Day × Bs) := (pw [32] l).bind fun e => (pc e.2).bind fun s => (pw [32] s.2).bind fun z => (pn 4 9999 z.2).bind fun y => some ((y.1, m, d, s.1), y.2)
def p3 (l : Bs) : Option (Day × Bs) := (pw [32] l).bind fun a => (pm a.2).bind fun m => (pw [32] m.2).bind fun b => if hp b.2 [32] = true then (pw [32] b.2).bind fun c => (pn 1 9 c.2).bind fun d => p3r m.1 d.1 d.2 else (pn 2 31 b.2).bind fun d => if d.1 < 10 then none else p3r m.1 d.1 d.2
def WD : List Bs := [[83, 117, 110, 100, 97, 121], [77, 111, 110, 100, 97, 121], [84, 117, 101, 115, 100, 97, 121], [87, 101, 100, 110, 101, 115, 100, 97, 121], [84, 104, 117, 114, 115, 100, 97, 121], [70, 114, 105, 100, 97, 121], [83, 97, 116, 117, 114, 100, 97, 121]]
def wdn (i : Nat) : Bs := WD.getD i []
theorem wdn_len : ∀ i, i < 7 → 6 ≤ (wdn i).length ∧ (wdn i).length ≤ 9 := by decide
def wname (full : Bool) (w : Nat) : Bs := if full = true then wdn w else (wdn w).take 3
def suc (p : Bs → Option (Day × Bs)) (full : Bool) (l : Bs) (w : Nat) : Option Int :=
  (pw (wname full w) l).bind fun a => (p a.2).bind fun r => if r.2 = [] ∧ Ok3 r.1.1 r.1.2.1 r.1.2.2.1 ∧ (Dn r.1.1 r.1.2.1 r.1.2.2.1 % 7 + 4) % 7 = (w : Int) then some (Dn r.1.1 r.1.2.1 r.1.2.2.1 * 86400 + r.1.2.2.2) else none
def sl (p : Bs → Option (Day × Bs)) (full : Bool) (l : Bs) : Nat → Nat → Option Int
  | 0, _ => none
  | d + 1, w => match suc p full l w with
    | some a => some a
    | none => sl p full l d (w + 1)
def found (l : Bs) : Option Int := match sl p1 false l 7 0 with
  | some a => some a
  | none => match sl p2 true l 7 0 with
    | some a => some a
    | none => sl p3 false l 7 0
end Go.Proofs.YtkjjegjafpefcaaDoor.Pure
