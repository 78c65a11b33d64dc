/- ascii's Token, Text, Trim and Digits: what each tells. -/
import Derived.Test.YtmmbedlegmbppaaDoorX1
namespace Go.Proofs.YtmmbedlegmbppaaDoor.X
open Go.RowKit Go.Shelf
set_option linter.unusedVariables false
set_option linter.unusedSimpArgs false
def isLetter (c : UInt8) : Bool := decide (97 ≤ bits .or .u8 (c.toNat : Int) 32) && decide (bits .or .u8 (c.toNat : Int) 32 ≤ 122)
theorem letter_gives (c : UInt8) (W : World) : Calls Tryd.prog 92 #[.int .u8 c.toNat] W fun e W1 => e = .returned (.bool (isLetter c)) ∧ W1 = W := by
  go_enter Tryd.func92, Tryd.ntmps92
  unfold isLetter
  generalize hv : bits .or .u8 (c.toNat : Int) 32 = v
  by_cases h : 97 ≤ v
  · have h1 : (decide (97 ≤ v)) = true := decide_eq_true h
    go_wp2
    all_goals (try simp only [hv] at *)
    all_goals (go_ret; refine ⟨?_, rfl⟩; simp_all)
  · have h1 : (decide (97 ≤ v)) = false := decide_eq_false h
    go_wp2
    all_goals (try simp only [hv] at *)
    all_goals (go_ret; refine ⟨?_, rfl⟩; simp_all)
def signs : List UInt8 := [33, 35, 36, 37, 38, 39, 42, 43, 45, 46, 94, 95, 96, 124, 126]
def isTchar (c : UInt8) : Bool := isDigit c || (isLetter c || decide (0 ≤ Lib.indexByte signs c))
theorem tchar_gives (c : UInt8) (W : World) : Calls Tryd.prog 90 #[.int .u8 c.toNat] W fun e W1 => e = .returned (.bool (isTchar c)) ∧ W1 = W := by
  go_enter Tryd.func90, Tryd.ntmps90
  have hb : ((c.toNat : Int)).toNat.toUInt8 = c := by simp
  unfold isTchar
  cases h1 : isDigit c <;> cases h2 : isLetter c
  all_goals (go_wp2_with (first | (go_at_call 91; refine (digit_gives c _).mono ?_; rintro e w1 ⟨rfl, rfl⟩; rw [h1]) | (go_at_call 92; refine (letter_gives c _).mono ?_; rintro e w1 ⟨rfl, rfl⟩; rw [h2]) | (go_at_call 67; refine (Tryd.strings_IndexByte _ _ _).mono ?_; rintro e w1 ⟨rfl, rfl⟩; rw [hb])))
  all_goals (go_ret; exact ⟨rfl, rfl⟩)
def isText (c : UInt8) : Bool := decide (c.toNat = 9) || (decide (32 ≤ c.toNat) && decide (¬ c.toNat = 127))
theorem text_gives (c : UInt8) (W : World) : Calls Tryd.prog 167 #[.int .u8 c.toNat] W fun e W1 => e = .returned (.bool (isText c)) ∧ W1 = W := by
  go_enter Tryd.func167, Tryd.ntmps167
  by_cases h1 : c.toNat = 9
  · have e1 : ((c.toNat : Int) == 9) = true := beq_iff_eq.mpr (by omega)
    go_wp2; go_ret; exact ⟨by simp [isText, h1], rfl⟩
  · have e1 : ((c.toNat : Int) == 9) = false := beq_eq_false_iff_ne.mpr (by omega)
    by_cases h2 : 32 ≤ c.toNat
    · have e2 : decide ((32 : Int) ≤ (c.toNat : Int)) = true := decide_eq_true (by omega)
      by_cases h3 : c.toNat = 127
      · have e3 : ((c.toNat : Int) != 127) = false := bne_eq_false_iff_eq.mpr (by omega)
        go_wp2; go_ret; exact ⟨by simp [isText, h3], rfl⟩
      · have e3 : ((c.toNat : Int) != 127) = true := bne_iff_ne.mpr (by omega)
        go_wp2; go_ret; exact ⟨by simp [isText, h1, h2, h3], rfl⟩
    · have e2 : decide ((32 : Int) ≤ (c.toNat : Int)) = false := decide_eq_false (by omega)
      go_wp2; go_ret; exact ⟨by simp [isText, h1, h2], rfl⟩
def isBlank (c : Nat) : Bool := decide (c = 32) || decide (c = 9)
theorem blank_gives (w : World) : PredAt Tryd.prog 127 #[] encR isBlank w := by
  intro W c _
  unfold FnGives
  unfold encR
  go_enter Tryd.func127, Tryd.ntmps127
  by_cases h1 : c = 32
  · have e1 : ((c : Int) == 32) = true := beq_iff_eq.mpr (by omega)
    go_wp2; go_ret; exact ⟨by simp [isBlank, h1], 0, (World.drewN_zero _).symm⟩
  · have e1 : ((c : Int) == 32) = false := beq_eq_false_iff_ne.mpr (by omega)
    by_cases h2 : c = 9
    · have e2 : ((c : Int) == 9) = true := beq_iff_eq.mpr (by omega)
      go_wp2; go_ret; exact ⟨by simp [isBlank, h2], 0, (World.drewN_zero _).symm⟩
    · have e2 : ((c : Int) == 9) = false := beq_eq_false_iff_ne.mpr (by omega)
      go_wp2; go_ret; exact ⟨by simp [isBlank, h1, h2], 0, (World.drewN_zero _).symm⟩
theorem to_below {f : FuncId} {p : UInt8 → Bool} (h : ∀ (c : UInt8) (W : World), Calls Tryd.prog f #[.int .u8 c.toNat] W fun e W1 => e = .returned (.bool (p c)) ∧ W1 = W) : ∀ (c : UInt8) (W : World), Calls Tryd.prog f #[.int .u8 c.toNat] W fun e W1 => e = .returned (.bool (p c)) ∧ Below W.heap.size W W1 :=
  fun c W => (h c W).mono (fun e W1 h => ⟨h.1, by rw [h.2]; exact Below.refl _ _⟩)
def ascii_Token.f (a0 : ByteArray) : Option Bool := if a0.size ≤ 9223372036854775807 then some (if a0.toList = [] then false else allB isTchar a0) else none
theorem ascii_Token.calls (a0 : ByteArray) (r : Bool) (w : World) (h : ascii_Token.f a0 = some r) :
    Calls Tryd.prog 43 #[.string a0] w fun e w1 => e = .returned (.bool r) ∧ Below w.heap.size w w1 := by
  unfold ascii_Token.f at h
  split at h
  case isFalse => cases h
  case isTrue hs =>
  obtain rfl := Option.some.inj h
  clear h
  have hB0 := Below.refl w.heap.size w
  go_enter Tryd.func43, Tryd.ntmps43
  by_cases h0 : a0.toList = []
  · rw [if_pos h0]
    go_wp2
    go_ret; exact ⟨rfl, hB0⟩
  · rw [if_neg h0]
    have h1 : (a0.toList != []) = true := bne_iff_ne.mpr h0
    have h2 : a0.toList.isEmpty = false := by cases hh : a0.toList with
      | nil => exact absurd hh h0
      | cons _ _ => rfl
    go_wp2_with (go_at_call 89; refine (ascii_all 90 _ Tryd.func90 (by kernel_rfl) rfl isTchar (to_below tchar_gives) a0 hs _).mono ?_; rintro e w1 ⟨rfl, hB⟩)
    go_ret; exact ⟨by simp [h2], hB⟩
def ascii_Trim.f (a0 : ByteArray) : Option ByteArray := if a0.size ≤ 9223372036854775807 then some (Lib.trimF isBlank a0) else none
theorem ascii_Trim.calls (a0 : ByteArray) (r : ByteArray) (w : World) (hT : Tabs w) (h : ascii_Trim.f a0 = some r) :
    Calls Tryd.prog 87 #[.string a0] w fun e w1 => e = .returned (.string r) ∧ Below w.heap.size w w1 := by
  unfold ascii_Trim.f at h
  split at h
  case isFalse => cases h
  case isTrue hs =>
  obtain rfl := Option.some.inj h
  clear h
  have eg : ∀ args w, (callFunc 127 args).run Tryd.prog w = .ok (.enter 127 args) w := fun args w => enters_ Tryd.func127 (by kernel_rfl) rfl args w
  go_enter Tryd.func87, Tryd.ntmps87
  go_wp2_with (go_at_call 126; refine (Tryd.strings_TrimFunc 127 #[] eg isBlank a0 _ hs hT (blank_gives _)).mono ?_; rintro e w1 ⟨rfl, hB⟩)
  go_ret; exact ⟨rfl, hB⟩
def ascii_Text.f (a0 : ByteArray) : Option Bool := if a0.size ≤ 9223372036854775807 then some (if allB isText a0 = true then ((Lib.trimF isBlank a0).toList == a0.toList) else false) else none
theorem ascii_Text.calls (a0 : ByteArray) (r : Bool) (w : World) (hT : Tabs w) (h : ascii_Text.f a0 = some r) :
    Calls Tryd.prog 117 #[.string a0] w fun e w1 => e = .returned (.bool r) ∧ Below w.heap.size w w1 := by
  unfold ascii_Text.f at h
  split at h
  case isFalse => cases h
  case isTrue hs =>
  obtain rfl := Option.some.inj h
  clear h
  have C : ∀ W, Tabs W → Calls Tryd.prog 87 #[.string a0] W fun e w1 => e = .returned (.string (Lib.trimF isBlank a0)) ∧ Below W.heap.size W w1 := fun W hT => ascii_Trim.calls a0 _ W hT (by unfold ascii_Trim.f; rw [if_pos hs])
  go_enter Tryd.func117, Tryd.ntmps117
  generalize hq : Lib.trimF isBlank a0 = q at C ⊢
  cases h0 : allB isText a0
  · go_wp2_with (first | (go_at_call 89; refine (ascii_all 167 _ Tryd.func167 (by kernel_rfl) rfl isText (to_below text_gives) a0 hs _).mono ?_; rintro e w1 ⟨rfl, hB⟩; rw [h0]))
    go_ret; exact ⟨rfl, hB⟩
  · go_wp2_with (first | (go_at_call 89; refine (ascii_all 167 _ Tryd.func167 (by kernel_rfl) rfl isText (to_below text_gives) a0 hs _).mono ?_; rintro e w1 ⟨rfl, hB⟩; rw [h0]; have hT1 := Tabs.below hT hB) | (go_at_call 87; refine (C _ hT1).mono ?_; rintro e w2 ⟨rfl, hB2⟩))
    go_ret; exact ⟨rfl, hB.trans (hB2.mono hB.size)⟩
end Go.Proofs.YtmmbedlegmbppaaDoor.X
