/- Fields and heads, as they are read. -/
import Derived.Test.YtmmbedlegmbppaaDoorPHead
namespace Go.Proofs.YtmmbedlegmbppaaDoor.R
open Go Go.RowKit
set_option linter.unusedSimpArgs false
set_option linter.unusedVariables false
def fieldM (l : Bs) : Option (Bs × Bs) := match cutAt 58 l with
  | none => none
  | some (a, b) => if tokB a = true ∧ txtB (strip b) = true then some (lowL a, strip b) else none
theorem field_is (l : Bs) (hl : l.length ≤ 1000000) (k : Nat) : head_field.f k (B l) = some (match fieldM l with
    | some (n, v) => ((B n, B v), 0)
    | none => ((B [], B []), 2)) := by
  unfold head_field.f fieldM
  rw [show (⟨#[58]⟩ : ByteArray) = B [58] from rfl, cut_is l hl, bindO_some]
  cases hc : cutAt 58 l with
  | none =>
    show bindO (ascii_Trim.f k (B [])) _ = _
    rw [trim_is _ (by simp), bindO_some]; rfl
  | some p =>
    obtain ⟨a, b⟩ := p
    obtain ⟨h1, h2⟩ := cutAt_some hc
    have hlen : l.length = a.length + (b.length + 1) := by rw [h1]; simp
    have hs := strip_le b
    show bindO (ascii_Trim.f k (B b)) _ = _
    rw [trim_is b (by omega), bindO_some, show notB true = false from rfl, ifO_false]
    show bindO (ascii_Token.f k (B a)) _ = _
    rw [token_is a (by omega), bindO_some, text_is (strip b) (by omega)]
    simp only
    cases ht : tokB a with
    | false =>
      rw [show notB false = true from rfl, ifO_true, if_neg (by simp)]; rfl
    | true =>
      rw [show notB true = false from rfl, ifO_false, bindO_some]
      unfold head_field.j2
      cases hx : txtB (strip b) with
      | false => rw [if_neg (by simp)]; rfl
      | true =>
        show bindO (ascii_Lower.f k (B a)) _ = _
        rw [lower_is a (by omega), bindO_some, if_pos ⟨rfl, rfl⟩]
def parseM : Nat → Bs → List Fld → List Fld × Bs × Int
  | 0, _, _ => ([], [], 9)
  | n + 1, l, out =>
    if ¬ (lineM l).2.2 = 0 then ([], [], (lineM l).2.2) else if (lineM l).1 = [] then (out, (lineM l).2.1, 0) else if out.length = 64 then ([], [], 4) else
      match fieldM (lineM l).1 with
      | none => ([], [], 2)
      | some f => parseM n (lineM l).2.1 (out ++ [(B f.1, B f.2)])
def parseR (N : Nat) (p : List Fld × Bs × Int) : List Fld × Int × Int := (p.1, if p.2.2 = 0 then ((N - p.2.1.length : Nat) : Int) else 0, p.2.2)
theorem parse_loop (l0 : Bs) (h0 : l0.length ≤ 100000) (K : Nat) : ∀ (n m : Nat) (l : Bs) (out : List Fld), l.length < n → n ≤ m → l.length ≤ l0.length → out.length ≤ 64 → iter (head_Parse.l0b K) m (B l0, out, B l) = some (parseR l0.length (parseM n l out)) := by
  intro n
  induction n with
  | zero => intro m l out h; omega
  | succ n ih =>
    intro m l out hn hm hl ho
    obtain ⟨m, rfl⟩ : ∃ j, m = j + 1 := ⟨m - 1, by omega⟩
    show head_Parse.l0b K (iter (head_Parse.l0b K) m) _ = _
    generalize hr : iter (head_Parse.l0b K) m = r
    unfold head_Parse.l0b parseM
    simp only
    rw [line_is l (by omega), bindO_some, neI_dec, ifO_dec]
    simp only
    by_cases he : (lineM l).2.2 = 0
    · obtain ⟨h1, h2, h3⟩ := lineM_ok he
      have hlen : l.length = (lineM l).1.length + ((lineM l).2.1.length + 2) := by
        have := congrArg List.length h1
        simp only [List.length_append, List.length_cons] at this
        omega
      rw [if_neg (by omega), if_neg (by omega), show (⟨#[]⟩ : ByteArray) = B [] from rfl, B_eq, ifO_dec]
      by_cases hn0 : (lineM l).1 = []
      · rw [if_pos hn0, if_pos hn0, B_len, B_len, sub64 (by omega) (by omega)]
        unfold parseR
        rw [if_pos rfl, show (l0.length : Int) - ((lineM l).2.1.length : Int) = ((l0.length - (lineM l).2.1.length : Nat) : Int) by omega]
      · rw [if_neg hn0, if_neg hn0, lenL_nat, eqI_dec, ifO_dec]
        by_cases h64 : out.length = 64
        · rw [if_pos (by omega), if_pos h64]; rfl
        · rw [if_neg (by omega), if_neg h64, field_is _ (by omega), bindO_some]
          cases hf : fieldM (lineM l).1 with
          | none => rfl
          | some f =>
            show ifO (neI 0 0) _ _ = _
            rw [show neI 0 0 = false from rfl, ifO_false, show ∀ x : Fld, fitsL (out.length : Int) (lenL (x :: ([] : List Fld))) 32 = true from fun x => fitsL_yes (n := out.length) (m := 1) (by omega) (by omega), ifO_true]
            subst hr
            exact ih m (lineM l).2.1 (out ++ [(B f.1, B f.2)]) (by omega) (by omega) (by omega) (by rw [List.length_append]; show _ + 1 ≤ 64; omega)
    · rw [if_pos he, if_pos he]
      unfold parseR
      rw [if_neg he]
/-- What fields a text begins with, how long they are, and why there are none. -/
def parseV (l : Bs) : List Fld × Int × Int := parseR l.length (parseM (l.length + 1) l [])
theorem parse_is (l : Bs) (h : l.length ≤ 100000) (k : Nat) (hk : 100010 ≤ k) : head_Parse.f k (B l) = some (parseV l) := by
  unfold head_Parse.f head_Parse.l0
  exact parse_loop l h k (l.length + 1) k l [] (by omega) (by omega) (Nat.le_refl _) (by simp)
end Go.Proofs.YtmmbedlegmbppaaDoor.R
