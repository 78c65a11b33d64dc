/- target.Host, told plainly; a host as it is told stays. -/
import Derived.Test.YtmmbedlegmbppaaDoorPLow
import Derived.Test.YtmmbedlegmbppaaDoorPDg
import Derived.Test.YtmmbedlegmbppaaDoorPTrim
namespace Go.Proofs.YtmmbedlegmbppaaDoor.R
open Go Go.RowKit
set_option linter.unusedSimpArgs false
set_option linter.unusedVariables false
def alB (c : UInt8) : Bool := (decide (97 ≤ c.toNat) && decide (c.toNat ≤ 122)) || ((decide (65 ≤ c.toNat) && decide (c.toNat ≤ 90)) || dg c)
def hoB (c : UInt8) : Bool := alB c || (decide (c = 46) || decide (c = 45))
theorem alnum_all : ∀ n : Fin 256, target_alnum.f 0 (n.val : Int) = some (alB (UInt8.ofNat n.val)) := by decide +kernel
theorem alnum_is (k : Nat) (c : UInt8) : target_alnum.f k (c.toNat : Int) = some (alB c) := by
  have h := alnum_all ⟨c.toNat, c.toNat_lt⟩
  rw [UInt8.ofNat_toNat] at h
  exact h
theorem hoB_low {c : UInt8} (h : hoB c = true) : c.toNat < 128 := by
  have := byte_all (fun c => !hoB c || decide (c.toNat < 128)) (by decide +kernel) c
  rw [h] at this
  simpa using this
theorem hoB_ne {c : UInt8} (h : hoB c = true) : c ≠ 58 ∧ c ≠ 47 ∧ c ≠ 63 := by
  have := byte_all (fun c => !hoB c || (decide (c ≠ 58) && (decide (c ≠ 47) && decide (c ≠ 63)))) (by decide +kernel) c
  rw [h] at this
  simpa using this
theorem dg_ne {c : UInt8} (h : dg c = true) : c ≠ 58 ∧ c ≠ 47 ∧ c ≠ 63 := by
  have := byte_all (fun c => !dg c || (decide (c ≠ 58) && (decide (c ≠ 47) && decide (c ≠ 63)))) (by decide +kernel) c
  rw [h] at this
  simpa using this
theorem hoB_lower (c : UInt8) : hoB (X.lowB c) = hoB c := by
  have := byte_all (fun c => hoB (X.lowB c) == hoB c) (by decide +kernel) c
  simpa using this
theorem lowB_lowB (c : UInt8) : X.lowB (X.lowB c) = X.lowB c := by
  have := byte_all (fun c => X.lowB (X.lowB c) == X.lowB c) (by decide +kernel) c
  simpa using this
theorem lowL_lowL (l : Bs) : lowL (lowL l) = lowL l := by
  unfold lowL
  rw [List.map_map]
  exact List.map_congr_left fun c _ => lowB_lowB c
theorem lowL_hoB (l : Bs) : (lowL l).all hoB = l.all hoB := by
  unfold lowL
  rw [List.all_map]
  congr 1
  exact funext hoB_lower
def parts58 (l : Bs) : Bs × Bs := (cutAt 58 l).getD (l, [])
/-- A host, as it is told. -/
def hostM (l : Bs) : Option Bs :=
  if (parts58 l).1 ≠ [] ∧ (parts58 l).1.all hoB = true ∧ l.count 58 ≤ 1 ∧ ((parts58 l).2 = [] ∨ (parts58 l).2.all dg = true) ∧ (parts58 l).2.length ≤ 5 then
    some (if (parts58 l).2 = [] ∨ (parts58 l).2 = [56, 48] then lowL (parts58 l).1 else lowL (parts58 l).1 ++ 58 :: (parts58 l).2) else none
def hostR (l : Bs) : ByteArray × Int := match hostM l with
  | some h => (B h, 0)
  | none => (B [], 2)
theorem host_j7 (k : Nat) (n d : Bs) (hn : n.length ≤ 1000000) (hd : d.length ≤ 1000000) : target_Host.j7 k (B n, (B d, false)) = some (B (if d = [] ∨ d = [56, 48] then lowL n else lowL n ++ 58 :: d), 0) := by
  unfold target_Host.j7
  simp only []
  have hl : (lowL n).length = n.length := by simp [lowL]
  rw [ifO_false, lower_is n (by omega), bindO_some, show (⟨#[]⟩ : ByteArray) = B [] from rfl, show (⟨#[56, 48]⟩ : ByteArray) = B [56, 48] from rfl, show (⟨#[58]⟩ : ByteArray) = B [58] from rfl]
  simp only [B_eq, B_cat, B_fits]
  by_cases h1 : d = []
  · rw [decide_eq_true h1, ifO_true, if_pos (.inl h1)]
  rw [decide_eq_false h1, ifO_false]
  by_cases h2 : d = [56, 48]
  · rw [decide_eq_true h2, ifO_true, if_pos (.inr h2)]
  rw [decide_eq_false h2, ifO_false, if_neg (by simp [h1, h2]), ifO_yes (by simp; omega), ifO_yes (by simp; omega)]
  simp
theorem host_j6 (k : Nat) (n d : Bs) (cnt : Nat) (hn : n.length ≤ 1000000) (hd : d.length ≤ 1000000) : target_Host.j6 k (B n, (B d, ((cnt : Int), ((digV d).2, -1)))) =
    some (if n ≠ [] ∧ cnt ≤ 1 ∧ (d = [] ∨ d.all dg = true) ∧ d.length ≤ 5 then (B (if d = [] ∨ d = [56, 48] then lowL n else lowL n ++ 58 :: d), 0) else (B [], 2)) := by
  have bad : target_Host.j7 k (B n, (B d, true)) = some (B [], 2) := rfl
  have last : target_Host.j7 k (B n, (B d, ltI 5 (lenS (B d)))) = some (if d.length ≤ 5 then (B (if d = [] ∨ d = [56, 48] then lowL n else lowL n ++ 58 :: d), 0) else (B [], 2)) := by
    rw [B_len, show ltI 5 (d.length : Int) = decide (5 < d.length) from ltI_nat 5 _]
    by_cases h : 5 < d.length
    · rw [decide_eq_true h, if_neg (by omega), bad]
    · rw [decide_eq_false h, if_pos (by omega), host_j7 k n d hn hd]
  unfold target_Host.j6
  simp only []
  rw [bad, last, show (⟨#[]⟩ : ByteArray) = B [] from rfl, B_eq, B_eq]
  by_cases h1 : n = []
  · rw [decide_eq_true h1, ifO_true, if_neg (by simp [h1])]
  rw [decide_eq_false h1, ifO_false, show leI 0 (-1) = false from rfl, ifO_false, show ltI 1 (cnt : Int) = decide (1 < cnt) from ltI_nat 1 _]
  by_cases h2 : 1 < cnt
  · rw [decide_eq_true h2, ifO_true, if_neg (by omega)]
  rw [decide_eq_false h2, ifO_false]
  have h2' : cnt ≤ 1 := by omega
  by_cases h3 : d = []
  · rw [decide_eq_true h3, ifO_no (show notB true = false from rfl)]
    simp [h1, h2', h3]
  rw [decide_eq_false h3, ifO_yes (show notB false = true from rfl)]
  have hv : (digV d).2 = d.all dg := by
    unfold digV
    rw [if_neg h3]
    split
    · rename_i h; rw [h]
    · rename_i h; rw [eq_false_of_ne_true h]
  rw [hv]
  cases h4 : d.all dg with
  | false =>
    rw [ifO_yes (show notB false = true from rfl), if_neg (by simp [h3])]
  | true =>
    rw [ifO_no (show notB true = false from rfl)]
    simp [h1, h2']
theorem host_bad (k : Nat) (n d : ByteArray) (cnt : Int) (is : Bool) (i : Nat) : target_Host.j6 k (n, (d, (cnt, (is, (i : Int))))) = some (B [], 2) := by
  have bad : target_Host.j7 k (n, (d, true)) = some (B [], 2) := rfl
  unfold target_Host.j6
  simp only []
  rw [bad, show leI 0 (i : Int) = true from by rw [show (0 : Int) = ((0 : Nat) : Int) from rfl, leI_nat]; simp, ifO_true]
  unfold ifO
  split <;> rfl
theorem host_loop (k : Nat) (n d : Bs) (cnt : Int) (is : Bool) (hl : n.length ≤ 1000000) (hk : n.length + 1 < k) : target_Host.l4 k (B n, (0, (B n, (B n, (B d, (cnt, (is, (B n, (B n, 0))))))))) =
    if n.all hoB = true then target_Host.j6 k (B n, (B d, (cnt, (is, -1)))) else some (B [], 2) := by
  unfold target_Host.l4
  refine iter_eq (f := target_Host.l4b k) (fun v => ∃ i : Nat, v = (B n, (0, (B n, (B n, (B d, (cnt, (is, (B n, (B n, (i : Int)))))))))) ∧ i ≤ n.length ∧ (n.take i).all hoB = true) (fun v => ((n.length : Int) + 1 - v.2.2.2.2.2.2.2.2.2).toNat) (fun _ => if n.all hoB = true then target_Host.j6 k (B n, (B d, (cnt, (is, -1)))) else some (B [], 2)) ?_ k _ ⟨0, rfl, Nat.zero_le _, rfl⟩ (by show ((n.length : Int) + 1 - 0).toNat < k; omega)
  rintro r _ ⟨i, rfl, hi, ha⟩ hr
  unfold target_Host.l4b
  simp only []
  rw [B_len, ltI_nat]
  by_cases h : i < n.length
  · rw [decide_eq_true h, ifO_true]
    have hg : n.getD i 0 = n[i] := by rw [List.getD_eq_getElem?_getD, List.getElem?_eq_getElem h]; rfl
    have no : hoB n[i] = false → (if n.all hoB = true then target_Host.j6 k (B n, (B d, (cnt, (is, -1)))) else some (B [], (2 : Int))) = some (B [], 2) := fun hc => by
      rw [if_neg]
      intro hall
      have := List.all_eq_true.1 hall _ (List.getElem_mem h)
      rw [hc] at this; cases this
    have found : ∀ (rest : Tup [.str, .int .i64, .str, .str, .str, .int .i64, .bool, .str, .str, .int .i64]), rest.2.2.2.1 = B n → target_Host.j5 k r ((i : Int), (true, rest)) = some (B [], 2) := fun rest _ => by
      unfold target_Host.j5
      simp only []
      rw [ifO_true]
      exact host_bad k _ _ _ _ i
    by_cases hc : n[i].toNat < 128
    · have hd : Utf8.decode (B n) i = (n[i].toNat, 1) := by rw [dec_at, hg, dn_low _ _ _ _ _ hc]
      have hrune : runeI (B n) (i : Int) = (n[i].toNat : Int) := by unfold runeI; rw [Int.toNat_natCast, hd]
      have hnext : runeN (B n) (i : Int) = ((i + 1 : Nat) : Int) := by unfold runeN; rw [Int.toNat_natCast, hd]; rfl
      rw [hrune, hnext]
      have nx : hoB n[i] = true → target_Host.j5 k r ((i : Int), (false, (B n, (0, (B n, (B n, (B d, (cnt, (is, (B n, (B n, ((i + 1 : Nat) : Int)))))))))))) = (if n.all hoB = true then target_Host.j6 k (B n, (B d, (cnt, (is, -1)))) else some (B [], (2 : Int))) := fun hb => by
        unfold target_Host.j5
        simp only []
        rw [ifO_false]
        refine hr _ ⟨i + 1, rfl, h, ?_⟩ (by show ((n.length : Int) + 1 - ((i + 1 : Nat) : Int)).toNat < ((n.length : Int) + 1 - (i : Int)).toNat; omega)
        rw [List.take_add_one, List.getElem?_eq_getElem h, List.all_append, ha]
        simp [hb]
      rw [show leI 128 (n[i].toNat : Int) = decide (128 ≤ n[i].toNat) from leI_nat 128 _, decide_eq_false (by omega), ifO_false]
      rw [show convI .u8 (n[i].toNat : Int) = (n[i].toNat : Int) from by
        unfold convI IntKind.wrap
        rw [show (2 : Int) ^ (IntKind.bits .u8) = 256 from rfl]
        simp only [show IntKind.signed .u8 = false from rfl, Bool.false_and]
        split
        · contradiction
        · have := n[i].toNat_lt; omega]
      rw [alnum_is, bindO_some]
      cases hal : alB n[i] with
      | true =>
        rw [ifO_no (show notB true = false from rfl)]
        exact nx (by unfold hoB; rw [hal]; rfl)
      | false =>
        rw [ifO_yes (show notB false = true from rfl)]
        have hcr : x_ContainsRune.f k ((⟨#[46, 45]⟩ : ByteArray), (n[i].toNat : Int)) = some (decide (n[i] = 46) || decide (n[i] = 45)) := by
          unfold x_ContainsRune.f
          rw [if_pos (show 0 ≤ (n[i].toNat : Int) ∧ (n[i].toNat : Int) < 128 from ⟨by omega, by omega⟩)]
          congr 1
          have := byte_all (fun c => decide (0 ≤ Lib.indexByte (⟨#[46, 45]⟩ : ByteArray).data.toList ((c.toNat : Int).toNat.toUInt8)) == (decide (c = 46) || decide (c = 45))) (by decide +kernel) n[i]
          exact eq_of_beq this
        rw [hcr, bindO_some]
        have hh : hoB n[i] = (decide (n[i] = 46) || decide (n[i] = 45)) := by unfold hoB; rw [hal]; rfl
        rw [← hh]
        cases hb : hoB n[i] with
        | true => exact nx hb
        | false => exact (found _ rfl).trans (no hb).symm
    · have hhi : leI 128 (runeI (B n) (i : Int)) = true := by
        unfold runeI
        rw [Int.toNat_natCast, dec_at, hg]
        have := dn_high (n.length - i) n[i].toNat (n.getD (i + 1) 0).toNat (n.getD (i + 2) 0).toNat (n.getD (i + 3) 0).toNat (by omega)
        rw [show (128 : Int) = ((128 : Nat) : Int) from rfl, leI_nat]
        exact decide_eq_true this
      rw [hhi, ifO_true]
      refine (found _ rfl).trans (no ?_).symm
      cases hb : hoB n[i] with
      | false => rfl
      | true => exact absurd (hoB_low hb) hc
  · rw [decide_eq_false h, ifO_false, if_pos (by rw [List.take_of_length_le (by omega)] at ha; exact ha)]
theorem host_is (l : Bs) (hl : l.length ≤ 1000000) (k : Nat) (hk : l.length + 1 < k) : target_Host.f k (B l) = some (hostR l) := by
  have key : ∀ n d : Bs, parts58 l = (n, d) → n.length ≤ l.length → d.length ≤ l.length → target_Host.j1 k (B l, (B n, B d)) = some (hostR l) := by
    intro n d hp hn hd
    unfold target_Host.j1
    simp only []
    have hx : x_Count.f k (B l, (⟨#[58]⟩ : ByteArray)) = some ((l.count 58 : Nat) : Int) := by
      unfold x_Count.f
      simp only [B_data]
      rfl
    rw [hx, bindO_some, digits_is d (by omega), bindO_some, host_loop k n d _ _ (by omega) (by omega)]
    unfold hostR hostM
    rw [hp]
    dsimp only
    by_cases h1 : n.all hoB = true
    · rw [if_pos h1, host_j6 k n d _ (by omega) (by omega)]
      by_cases h2 : n ≠ [] ∧ l.count 58 ≤ 1 ∧ (d = [] ∨ d.all dg = true) ∧ d.length ≤ 5
      · have hc : n ≠ [] ∧ n.all hoB = true ∧ l.count 58 ≤ 1 ∧ (d = [] ∨ d.all dg = true) ∧ d.length ≤ 5 := ⟨h2.1, h1, h2.2⟩
        rw [if_pos h2, if_pos hc]
      · rw [if_neg h2, if_neg (fun h => h2 ⟨h.1, h.2.2⟩)]
    · rw [if_neg h1, if_neg (fun h => h1 h.2.1)]
  unfold target_Host.f x_Index.f
  simp only [B_data, show (⟨#[58]⟩ : ByteArray) = B [58] from rfl]
  rw [index_is]
  cases hc : cutAt 58 l with
  | none =>
    rw [bindO_some, show leI 0 (-1) = false from rfl, ifO_false]
    exact key l [] (by unfold parts58; rw [hc]; rfl) (Nat.le_refl _) (Nat.zero_le _)
  | some p =>
    obtain ⟨a, b⟩ := p
    obtain ⟨h1, h2⟩ := cutAt_some hc
    have hlen : l.length = a.length + (b.length + 1) := by rw [h1]; simp
    dsimp only
    rw [bindO_some, leD, decide_eq_true (by omega), ifO_true, show lenS (B [58]) = 1 from rfl, B_len, next64 (by omega), boundB_yes (by omega), show boundB 0 (a.length : Int) = true from boundB_yes (i := 0) (by omega), boundB_yes (Nat.le_refl _), boundB_yes (by omega), show andB true true = true from rfl, ifO_true, ifO_true]
    rw [show cutS (B l) 0 (a.length : Int) = B ((l.take a.length).drop 0) from B_cut l 0 a.length, B_cut, List.drop_zero, List.take_of_length_le (Nat.le_refl l.length)]
    have e1 : l.take a.length = a := by rw [h1, List.take_left' rfl]
    have e2 : l.drop (a.length + 1) = b := by rw [h1, show a ++ 58 :: b = (a ++ [58]) ++ b by simp, List.drop_left' (by simp)]
    rw [e1, e2]
    exact key a b (by unfold parts58; rw [hc]; rfl) (by omega) (by omega)
theorem count_no {c : UInt8} {l : Bs} (h : ∀ d ∈ l, d ≠ c) : l.count c = 0 := List.count_eq_zero.2 fun hm => h c hm rfl
theorem lowL_nil {l : Bs} : lowL l = [] ↔ l = [] := by unfold lowL; exact List.map_eq_nil_iff
/-- A host that is told stays, and has no slash, and no question. -/
theorem host_stays {l h : Bs} (hm : hostM l = some h) : hostM h = some h ∧ (∀ d ∈ h, d ≠ 47 ∧ d ≠ 63) ∧ h ≠ [] ∧ h.length ≤ l.length := by
  unfold hostM at hm
  split at hm
  case isFalse => cases hm
  rename_i hc
  obtain ⟨h1, h2, h3, h4, h5⟩ := hc
  have hpl : (parts58 l).1.length + (parts58 l).2.length ≤ l.length ∧ ((parts58 l).2 ≠ [] → (parts58 l).1.length + 1 + (parts58 l).2.length ≤ l.length) := by
    unfold parts58
    cases hcut : cutAt 58 l with
    | none => simp
    | some p =>
      obtain ⟨a, b⟩ := p
      have := congrArg List.length (cutAt_some hcut).1
      simp at this ⊢
      omega
  generalize parts58 l = pp at *
  obtain ⟨n, d⟩ := pp
  dsimp only at h1 h2 h4 h5 hm hpl
  have hlow : (lowL n).all hoB = true := by rw [lowL_hoB]; exact h2
  have hno : ∀ c ∈ lowL n, hoB c = true := List.all_eq_true.1 hlow
  have hn58 : ∀ c ∈ lowL n, c ≠ 58 := fun c hc => (hoB_ne (hno c hc)).1
  have hll : (lowL n).length = n.length := by simp [lowL]
  have hne : lowL n ≠ [] := fun h => h1 (lowL_nil.1 h)
  by_cases hd : d = [] ∨ d = [56, 48]
  · rw [if_pos hd] at hm
    obtain rfl := Option.some.inj hm
    refine ⟨?_, fun c hc => (hoB_ne (hno c hc)).2, hne, by omega⟩
    have hp : parts58 (lowL n) = (lowL n, []) := by unfold parts58; rw [cutAt_no 58 _ hn58]; rfl
    unfold hostM
    rw [hp]
    dsimp only
    rw [if_pos ⟨hne, hlow, by rw [count_no hn58]; exact Nat.zero_le _, .inl rfl, by simp⟩, if_pos (.inl rfl), lowL_lowL]
  · rw [if_neg hd] at hm
    obtain rfl := Option.some.inj hm
    have hda : d.all dg = true := h4.resolve_left fun h => hd (.inl h)
    have hdg := List.all_eq_true.1 hda
    refine ⟨?_, fun c hc => ?_, by simp, ?_⟩
    · have hp : parts58 (lowL n ++ 58 :: d) = (lowL n, d) := by unfold parts58; rw [cutAt_of 58 d _ hn58]; rfl
      unfold hostM
      rw [hp]
      dsimp only
      rw [if_pos ⟨hne, hlow, by rw [List.count_append, count_no hn58, List.count_cons_self, count_no fun c hc => (dg_ne (hdg c hc)).1]; decide, .inr hda, h5⟩, if_neg hd, lowL_lowL]
    · rcases List.mem_append.1 hc with hc | hc
      · exact (hoB_ne (hno c hc)).2
      · rcases List.mem_cons.1 hc with rfl | hc
        · decide
        · exact (dg_ne (hdg c hc)).2
    · have := hpl.2 fun h => hd (.inl h)
      rw [List.length_append, List.length_cons]
      omega
end Go.Proofs.YtmmbedlegmbppaaDoor.R
