/- target.Percent, told plainly; what is told by percent in one way stays. -/
import Derived.Test.YtmmbedlegmbppaaDoorPHost
namespace Go.Proofs.YtmmbedlegmbppaaDoor.R
open Go Go.RowKit
set_option linter.unusedSimpArgs false
set_option linter.unusedVariables false
def okC (c : UInt8) : Bool := decide (33 ≤ c.toNat) && (decide (c.toNat ≤ 126) && decide (c ≠ 35))
def plB (c : UInt8) : Bool := alB c || decide (0 ≤ Lib.indexByte [45, 46, 95, 126] c)
def hexU (n : Nat) : UInt8 := if n < 10 then UInt8.ofNat (48 + n) else UInt8.ofNat (55 + n)
/-- A byte, as it is told in one way. -/
def tell (n : UInt8) : Bs := if plB n = true then [n] else [37, hexU (n.toNat / 16), hexU (n.toNat % 16)]
def pctM : Bs → Option Bs
  | [] => some []
  | c :: l => if okC c = true then (if c = 37 then (match l with
      | a :: b :: r => (match hexB a, hexB b with
        | some x, some y => (pctM r).map fun q => tell (UInt8.ofNat (16 * x + y)) ++ q
        | _, _ => none)
      | _ => none) else (pctM l).map fun q => c :: q) else none
theorem pctM_eq (c : UInt8) (l : Bs) : pctM (c :: l) = if okC c = true then (if c = 37 then (match l with
      | a :: b :: r => (match hexB a, hexB b with
        | some x, some y => (pctM r).map fun q => tell (UInt8.ofNat (16 * x + y)) ++ q
        | _, _ => none)
      | _ => none) else (pctM l).map fun q => c :: q) else none := by
  rw [pctM.eq_def]
  rfl
theorem pctM_three (a b : UInt8) (l : Bs) : pctM (37 :: a :: b :: l) = (match hexB a, hexB b with
    | some x, some y => (pctM l).map fun q => tell (UInt8.ofNat (16 * x + y)) ++ q
    | _, _ => none) := by
  rw [pctM_eq, if_pos (by decide), if_pos rfl]
def pctR (l : Bs) : ByteArray × Int := match pctM l with
  | some p => (B p, 0)
  | none => (B [], 2)
abbrev numL (l : Bs) : List Int := l.map fun c => (c.toNat : Int)
theorem hexB_lt {c : UInt8} {x : Nat} (h : hexB c = some x) : x < 16 := by
  have := byte_all (fun c => match hexB c with | some x => decide (x < 16) | none => true) (by decide +kernel) c
  rw [h] at this
  simpa using this
theorem conv8 (c : UInt8) : convI .u8 (c.toNat : Int) = (c.toNat : Int) := by
  unfold convI IntKind.wrap
  rw [show (2 : Int) ^ (IntKind.bits .u8) = 256 from rfl]
  simp only [show IntKind.signed .u8 = false from rfl, Bool.false_and]
  split
  · contradiction
  · have := c.toNat_lt; omega
def hexLit : ByteArray := ⟨#[48, 49, 50, 51, 52, 53, 54, 55, 56, 57, 65, 66, 67, 68, 69, 70]⟩
theorem hex_hi (c : UInt8) : inB (shrI .u8 (c.toNat : Int) 4) (lenS hexLit) = true ∧ btI hexLit (shrI .u8 (c.toNat : Int) 4) = ((hexU (c.toNat / 16)).toNat : Int) := by
  have := byte_all (fun c => inB (shrI .u8 (c.toNat : Int) 4) (lenS hexLit) && decide (btI hexLit (shrI .u8 (c.toNat : Int) 4) = ((hexU (c.toNat / 16)).toNat : Int))) (by decide +kernel) c
  simpa using this
theorem hex_lo (c : UInt8) : inB (bits .and .u8 (c.toNat : Int) 15) (lenS hexLit) = true ∧ btI hexLit (bits .and .u8 (c.toNat : Int) 15) = ((hexU (c.toNat % 16)).toNat : Int) := by
  have := byte_all (fun c => inB (bits .and .u8 (c.toNat : Int) 15) (lenS hexLit) && decide (btI hexLit (bits .and .u8 (c.toNat : Int) 15) = ((hexU (c.toNat % 16)).toNat : Int))) (by decide +kernel) c
  simpa using this
def pctS (v : ByteArray × List Int) : Option (ByteArray × Int) := match pctM v.1.data.toList with
  | some p => some (ofBytes (v.2 ++ numL p), 0)
  | none => some (B [], 2)
theorem pct_round (k : Nat) (r : ByteArray × List Int → Option (ByteArray × Int)) (l : Bs) (out : List Int) (ho : out.length + l.length ≤ 1000000)
    (hr : ∀ (l' : Bs) (out' : List Int), out'.length + l'.length ≤ 1000000 → l'.length < l.length → r (B l', out') = pctS (B l', out')) : target_Percent.l0b k r (B l, out) = pctS (B l, out) := by
  unfold target_Percent.l0b
  simp only []
  rw [show (⟨#[]⟩ : ByteArray) = B [] from rfl, B_eq]
  cases l with
  | nil =>
    rw [decide_eq_true rfl, ifO_no (show notB true = false from rfl)]
    show _ = some (ofBytes (out ++ []), 0)
    rw [List.append_nil]
  | cons c l =>
    rw [decide_eq_false (by simp), ifO_yes (show notB false = true from rfl)]
    have hln : (c :: l).length = l.length + 1 := rfl
    rw [B_len, ifO_yes (show inB 0 _ = true from inB_yes (i := 0) (by simp)), show btI (B (c :: l)) 0 = (c.toNat : Int) from rfl]
    have bad : target_Percent.j1 k r (B (c :: l), (out, ((c.toNat : Int), true))) = some (B [], 2) := rfl
    have h3 : ∀ x, target_Percent.j1 k r (B (c :: l), (out, ((c.toNat : Int), !okC c))) = x → ifO (leI (c.toNat : Int) 32) (target_Percent.j1 k r (B (c :: l), (out, ((c.toNat : Int), true)))) (ifO (ltI 126 (c.toNat : Int)) (target_Percent.j1 k r (B (c :: l), (out, ((c.toNat : Int), true)))) (target_Percent.j1 k r (B (c :: l), (out, ((c.toNat : Int), eqI (c.toNat : Int) 35))))) = x := by
      intro x hx
      rw [show leI (c.toNat : Int) 32 = decide (c.toNat ≤ 32) from leI_nat _ 32, show ltI 126 (c.toNat : Int) = decide (126 < c.toNat) from ltI_nat 126 _, show eqI (c.toNat : Int) 35 = decide (c = 35) from eq_byte c 35]
      have e1 : 33 ≤ c.toNat ↔ ¬ c.toNat ≤ 32 := by omega
      have e2 : c.toNat ≤ 126 ↔ ¬ 126 < c.toNat := by omega
      unfold okC at hx
      by_cases a1 : c.toNat ≤ 32
      · rw [decide_eq_true a1, ifO_true]
        rw [decide_eq_false (show ¬ 33 ≤ c.toNat by omega)] at hx
        exact hx
      rw [decide_eq_false a1, ifO_false]
      rw [decide_eq_true (show 33 ≤ c.toNat by omega)] at hx
      by_cases a2 : 126 < c.toNat
      · rw [decide_eq_true a2, ifO_true]
        rw [decide_eq_false (show ¬ c.toNat ≤ 126 by omega)] at hx
        exact hx
      rw [decide_eq_false a2, ifO_false]
      rw [decide_eq_true (show c.toNat ≤ 126 by omega)] at hx
      by_cases a3 : c = 35
      · rw [decide_eq_true a3]
        rw [decide_eq_false (show ¬ c ≠ 35 by simp [a3])] at hx
        exact hx
      · rw [decide_eq_false a3]
        rw [decide_eq_true (show c ≠ 35 from a3)] at hx
        exact hx
    refine h3 _ ?_
    cases hok : okC c with
    | false =>
      rw [show (!false) = true from rfl, bad]
      unfold pctS
      rw [B_data]
      unfold pctM
      rw [hok]
      rfl
    | true =>
      have hfit : ∀ m : List Int, m.length ≤ 3 → fitsL (lenL out) (lenL m) 1 = true := fun m hm => by
        rw [lenL_nat, lenL_nat]
        exact fitsL_yes (by omega) (by omega)
      have hb : andB (boundB (lenS (B (c :: l))) (lenS (B (c :: l)))) (boundB 1 (lenS (B (c :: l)))) = true := by
        rw [B_len, boundB_yes (Nat.le_refl _), show boundB 1 ((c :: l).length : Int) = true from boundB_yes (i := 1) (by simp)]; rfl
      have cut1 : cutS (B (c :: l)) 1 (lenS (B (c :: l))) = B l := by
        rw [B_len]
        refine (B_cut (c :: l) 1 (c :: l).length).trans ?_
        rw [List.take_length]; rfl
      unfold target_Percent.j1
      simp only []
      rw [show (!true) = false from rfl, ifO_false, show neI (c.toNat : Int) 37 = decide (¬ c = 37) from ne_byte c 37, hb, ifO_true]
      by_cases h37 : c = 37
      · subst h37
        rw [decide_eq_false (by simp), ifO_false]
        rcases l with _ | ⟨a, _ | ⟨b, l⟩⟩
        · rw [show ltI (lenS (B [37])) 3 = true from rfl, ifO_true]
          unfold pctS
          rw [B_data, pctM_eq, if_pos hok, if_pos rfl]
          rfl
        · rw [show ltI (lenS (B [37, a])) 3 = true from rfl, ifO_true]
          unfold pctS
          rw [B_data, pctM_eq, if_pos hok, if_pos rfl]
          rfl
        · skip
          rw [show ltI (lenS (B (37 :: a :: b :: l))) 3 = false from by rw [B_len, show (3 : Int) = ((3 : Nat) : Int) from rfl, ltI_nat]; simp, ifO_false]
          rw [show boundB 3 (lenS (B (37 :: a :: b :: l))) = true from by rw [B_len]; exact boundB_yes (i := 3) (by simp), show boundB 1 3 = true from rfl, show andB true true = true from rfl, ifO_true]
          have c13 : cutS (B (37 :: a :: b :: l)) 1 3 = B [a, b] := (B_cut (37 :: a :: b :: l) 1 3).trans rfl
          have hj4 : ∀ o : List Int, o.length ≤ out.length + 3 → target_Percent.j4 k r (B (37 :: a :: b :: l), o) = pctS (B l, o) := by
            intro o hol
            unfold target_Percent.j4
            simp only []
            rw [B_len, boundB_yes (Nat.le_refl _), show boundB 3 ((37 :: a :: b :: l).length : Int) = true from boundB_yes (i := 3) (by simp), show andB true true = true from rfl, ifO_true]
            rw [show cutS (B (37 :: a :: b :: l)) 3 ((37 :: a :: b :: l).length : Int) = B l from (B_cut (37 :: a :: b :: l) 3 _).trans (by rw [List.take_length]; rfl)]
            exact hr l o (by simp at ho; omega) (by simp; omega)
          have hM : ∀ x y : Nat, hexB a = some x → hexB b = some y → ∀ o, pctS (B l, o) = (match pctM l with
              | some p => some (ofBytes (o ++ numL p), 0)
              | none => some (B [], (2 : Int))) := fun _ _ _ _ o => by unfold pctS; rw [B_data]
          rw [c13]
          unfold x_ParseUint.f
          rw [if_pos ⟨by rw [B_size]; rfl, rfl, rfl⟩, bindO_some, B_data]
          have hS : pctS (B (37 :: a :: b :: l), out) = (match hexB a, hexB b with
              | some x, some y => pctS (B l, out ++ numL (tell (UInt8.ofNat (16 * x + y))))
              | _, _ => some (B [], 2)) := by
            unfold pctS
            simp only [B_data]
            rw [pctM_three]
            cases hexB a with
            | none => rfl
            | some x =>
              cases hexB b with
              | none => rfl
              | some y =>
                dsimp only
                cases pctM l with
                | none => rfl
                | some p =>
                  dsimp only [Option.map_some]
                  simp [numL]
          rw [hS]
          cases ha : hexB a with
          | none =>
            have : hexL 0 [a, b] = none := by unfold hexL; rw [ha]
            rw [this]; rfl
          | some x =>
            cases hbx : hexB b with
            | none =>
              have : hexL 0 [a, b] = none := by unfold hexL; rw [ha]; dsimp only; unfold hexL; rw [hbx]
              rw [this]; rfl
            | some y =>
              have hx := hexB_lt ha
              have hy := hexB_lt hbx
              obtain ⟨n, hn⟩ : ∃ n : UInt8, UInt8.ofNat (16 * x + y) = n := ⟨_, rfl⟩
              have hnn : n.toNat = 16 * x + y := by rw [← hn]; simp; omega
              have : hexL 0 [a, b] = some n.toNat := by
                unfold hexL; rw [ha]; dsimp only; unfold hexL; rw [hbx]; dsimp only; unfold hexL
                rw [hnn]; congr 1; omega
              rw [this]
              dsimp only
              rw [hn, show notB true = false from rfl, ifO_false, conv8, alnum_is, bindO_some]
              have hal : ∀ m : Bs, catL out (numL m) = out ++ numL m := fun _ => rfl
              have hone : ((n.toNat : Int) :: ([] : List Int)) = numL [n] := rfl
              cases hal2 : alB n with
              | true =>
                have ht : tell n = [n] := by unfold tell plB; rw [hal2]; rfl
                rw [ifO_true, hfit _ (by simp), ifO_true, hone, hal, ht]
                exact hj4 _ (by simp)
              | false =>
                rw [ifO_false]
                have hpl : plB n = decide (0 ≤ Lib.indexByte [45, 46, 95, 126] n) := by unfold plB; rw [hal2]; rfl
                have hib : x_IndexByte.f k ((⟨#[45, 46, 95, 126]⟩ : ByteArray), (n.toNat : Int)) = some (Lib.indexByte [45, 46, 95, 126] n) := by
                  unfold x_IndexByte.f
                  simp only [Int.toNat_natCast]
                  congr 2
                  exact UInt8.ofNat_toNat
                rw [hib, bindO_some, leD, ← hpl]
                cases hp : plB n with
                | true =>
                  have ht : tell n = [n] := by unfold tell; rw [hp]; rfl
                  rw [ifO_true, hfit _ (by simp), ifO_true, hone, hal, ht]
                  exact hj4 _ (by simp)
                | false =>
                  have ht : tell n = [37, hexU (n.toNat / 16), hexU (n.toNat % 16)] := by unfold tell; rw [hp]; rfl
                  obtain ⟨q1, q2⟩ := hex_hi n
                  obtain ⟨q3, q4⟩ := hex_lo n
                  unfold hexLit at q1 q2 q3 q4
                  rw [ifO_false, show leI 0 4 = true from rfl, ifO_true, q1, ifO_true, q3, ifO_true, q2, q4, hfit _ (by simp), ifO_true, ht]
                  exact hj4 _ (by simp [catL])
      · rw [decide_eq_true h37, ifO_true, hfit _ (by simp), ifO_true, cut1]
        refine (hr l (catL out ((c.toNat : Int) :: ([] : List Int))) (by simp [catL] at ho ⊢; omega) (by simp)).trans ?_
        unfold pctS
        simp only [B_data]
        rw [pctM_eq, if_pos hok, if_neg h37]
        cases pctM l with
        | none => rfl
        | some p => simp [catL, numL]
theorem pct_is (l : Bs) (hl : l.length ≤ 1000000) (k : Nat) (hk : l.length < k) : target_Percent.f k (B l) = some (pctR l) := by
  have h := iter_eq (f := target_Percent.l0b k) (fun v => ∃ l : Bs, v.1 = B l ∧ v.2.length + l.length ≤ 1000000) (fun v => v.1.size) pctS (fun r v hv hr => by
    obtain ⟨s, out⟩ := v
    obtain ⟨l, hs, ho⟩ := hv
    obtain rfl : s = B l := hs
    refine pct_round k r l out ho fun l' out' h1 h2 => hr (B l', out') ⟨l', rfl, h1⟩ ?_
    show (B l').size < (B l).size
    rw [B_size, B_size]; exact h2) k (B l, []) ⟨l, rfl, by simpa using hl⟩ (by show (B l).size < k; rw [B_size]; exact hk)
  unfold target_Percent.f target_Percent.l0
  rw [h]
  unfold pctS pctR
  simp only [B_data]
  cases pctM l with
  | none => rfl
  | some p => simp only [List.nil_append]; rw [B_ofBytes]
/-! ### what is told in one way -/
inductive PN : Bs → Prop where
  | nil : PN []
  | one (c : UInt8) (r : Bs) : okC c = true → c ≠ 37 → PN r → PN (c :: r)
  | three (n : UInt8) (r : Bs) : plB n = false → PN r → PN (37 :: hexU (n.toNat / 16) :: hexU (n.toNat % 16) :: r)
theorem plB_ok {n : UInt8} (h : plB n = true) : okC n = true ∧ n ≠ 37 := by
  have := byte_all (fun n => !plB n || (okC n && decide (n ≠ 37))) (by decide +kernel) n
  rw [h] at this
  simpa using this
theorem hex_back (n : UInt8) : hexB (hexU (n.toNat / 16)) = some (n.toNat / 16) ∧ hexB (hexU (n.toNat % 16)) = some (n.toNat % 16) ∧ UInt8.ofNat (16 * (n.toNat / 16) + n.toNat % 16) = n := by
  refine ⟨?_, ?_, ?_⟩
  · have := byte_all (fun n => decide (hexB (hexU (n.toNat / 16)) = some (n.toNat / 16))) (by decide +kernel) n
    simpa using this
  · have := byte_all (fun n => decide (hexB (hexU (n.toNat % 16)) = some (n.toNat % 16))) (by decide +kernel) n
    simpa using this
  · rw [show 16 * (n.toNat / 16) + n.toNat % 16 = n.toNat from Nat.div_add_mod _ _, UInt8.ofNat_toNat]
theorem hex_ne (n : UInt8) : (hexU (n.toNat / 16) ≠ 47 ∧ hexU (n.toNat / 16) ≠ 63) ∧ hexU (n.toNat % 16) ≠ 47 ∧ hexU (n.toNat % 16) ≠ 63 := by
  have := byte_all (fun n => (decide (hexU (n.toNat / 16) ≠ 47) && decide (hexU (n.toNat / 16) ≠ 63)) && (decide (hexU (n.toNat % 16) ≠ 47) && decide (hexU (n.toNat % 16) ≠ 63))) (by decide +kernel) n
  simpa using this
theorem PN.stays {p : Bs} (h : PN p) : pctM p = some p := by
  induction h with
  | nil => rfl
  | one c r h1 h2 _ ih => rw [pctM_eq, if_pos h1, if_neg h2, ih]; rfl
  | three n r h1 _ ih =>
    obtain ⟨a, b, c⟩ := hex_back n
    rw [pctM_three, a, b]
    dsimp only
    rw [ih, c]
    unfold tell
    rw [h1]; rfl
theorem PN.app {a b : Bs} (ha : PN a) (hb : PN b) : PN (a ++ b) := by
  induction ha with
  | nil => exact hb
  | one c r h1 h2 _ ih => exact .one c _ h1 h2 ih
  | three n r h1 _ ih => exact .three n _ h1 ih
theorem PN.tell (n : UInt8) : PN (tell n) := by
  unfold R.tell
  cases h : plB n with
  | true => exact .one n [] (plB_ok h).1 (plB_ok h).2 .nil
  | false => exact .three n [] h .nil
theorem tell_len (n : UInt8) : (tell n).length ≤ 3 := by unfold tell; split <;> simp
theorem pn_of : ∀ (m : Nat) {l p : Bs}, l.length ≤ m → pctM l = some p → PN p ∧ p.length ≤ l.length
  | m, [], p, hm, h => by
    obtain rfl := Option.some.inj (show some ([] : Bs) = some p from h)
    exact ⟨.nil, Nat.le_refl _⟩
  | 0, c :: l, p, hm, h => by simp at hm
  | m + 1, c :: l, p, hm, h => by
    simp only [List.length_cons] at hm
    rw [pctM_eq] at h
    split at h
    case isFalse => cases h
    rename_i hok
    split at h
    · match l, hm, h with
      | [], _, h => cases h
      | [a], _, h => cases h
      | a :: b :: r, hm, h =>
        dsimp only at h
        cases ha : hexB a with
        | none => rw [ha] at h; cases h
        | some x =>
          cases hb : hexB b with
          | none => rw [ha, hb] at h; cases h
          | some y =>
            rw [ha, hb] at h
            dsimp only at h
            rw [Option.map_eq_some_iff] at h
            obtain ⟨q, hq, rfl⟩ := h
            obtain ⟨g1, g2⟩ := pn_of m (l := r) (by simp at hm; omega) hq
            have := tell_len (UInt8.ofNat (16 * x + y))
            exact ⟨(PN.tell _).app g1, by rw [List.length_append]; simp only [List.length_cons]; omega⟩
    · rename_i h37
      rw [Option.map_eq_some_iff] at h
      obtain ⟨q, hq, rfl⟩ := h
      obtain ⟨g1, g2⟩ := pn_of m (l := l) (by omega) hq
      exact ⟨.one c q hok h37 g1, by simp; omega⟩
theorem PN.split {l : Bs} (h : PN l) : ∀ (a b : Bs) (c : UInt8), (c = 47 ∨ c = 63) → l = a ++ c :: b → PN a ∧ PN b := by
  induction h with
  | nil => intro a b c _ e; simp at e
  | one d r h1 h2 hr ih =>
    intro a b c hc e
    cases a with
    | nil =>
      obtain ⟨rfl, rfl⟩ := List.cons.inj e
      exact ⟨.nil, hr⟩
    | cons x a =>
      obtain ⟨rfl, rfl⟩ := List.cons.inj e
      obtain ⟨g1, g2⟩ := ih a b c hc rfl
      exact ⟨.one _ a h1 h2 g1, g2⟩
  | three n r h1 hr ih =>
    intro a b c hc e
    obtain ⟨⟨n1, n2⟩, n3, n4⟩ := hex_ne n
    match a, e with
    | [], e =>
      have := (List.cons.inj e).1
      subst this
      rcases hc with h | h <;> exact absurd h (by decide)
    | [x], e =>
      have := (List.cons.inj (List.cons.inj e).2).1
      subst this
      rcases hc with h | h
      · exact absurd h n1
      · exact absurd h n2
    | [x, y], e =>
      have := (List.cons.inj (List.cons.inj (List.cons.inj e).2).2).1
      subst this
      rcases hc with h | h
      · exact absurd h n3
      · exact absurd h n4
    | x :: y :: z :: a, e =>
      simp only [List.cons_append, List.cons.injEq] at e
      obtain ⟨ex, ey, ez, er⟩ := e
      obtain ⟨g1, g2⟩ := ih a b c hc er
      rw [← ex, ← ey, ← ez]
      exact ⟨.three n a h1 g1, g2⟩
end Go.Proofs.YtmmbedlegmbppaaDoor.R
