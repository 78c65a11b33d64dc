/- AsciiNumbers: a number that is told by digits, with noughts ahead, is told back, or the greatest; no condition. -/
import Derived.Test.YtpddbfodjeoofaaDoorPAsciix5
import Derived.Test.YtpddbfodjeoofaaDoorBy
namespace Go.Proofs.YtpddbfodjeoofaaDoor.Pure
open Go.RowKit Go.Proofs.YtpddbfodjeoofaaDoor.PAscii Go.Proofs.YtpddbfodjeoofaaDoorW.PrintWords Go.Proofs.YtpddbfodjeoofaaDoorW.PrintLast
set_option linter.unusedSimpArgs false
set_option linter.unusedVariables false
theorem w64 {x : Int} (h : -9223372036854775808 ≤ x) (h' : x ≤ 9223372036854775807) : wrap64 x = x := by unfold wrap64; omega
def val (x : Int) (l : Bs) : Int := l.foldl (fun n c => 10 * n + ((c.toNat : Int) - 48)) x
def isD (c : UInt8) : Prop := 48 ≤ c.toNat ∧ c.toNat ≤ 57
theorem isD_digit (c : UInt8) (h : isD c) : X.isDigit c = true := by unfold X.isDigit; unfold isD at h; simp [h.1, h.2]
theorem sat : ∀ (l : Bs) (x : Int), (∀ c ∈ l, isD c) → 0 ≤ x → l.foldl X.dstep (if 2147483648 < x then 2147483648 else x) = (if 2147483648 < val x l then 2147483648 else val x l) := by
  intro l
  induction l with
  | nil => intro x _ _; rfl
  | cons c l ih =>
    intro x h hx
    have hc := h c (by simp)
    unfold isD at hc
    have e : X.dstep (if 2147483648 < x then 2147483648 else x) c = (if 2147483648 < 10 * x + ((c.toNat : Int) - 48) then 2147483648 else 10 * x + ((c.toNat : Int) - 48)) := by
      unfold X.dstep
      (repeat' split) <;> omega
    simp only [List.foldl_cons, val]
    rw [e]
    exact ih _ (fun d hd => h d (by simp [hd])) (by omega)
theorem digs_val (l : Bs) (h : ∀ c ∈ l, isD c) : X.digs l = (if 2147483648 < val 0 l then 2147483648 else val 0 l) := sat l 0 h (by decide)
theorem digit_at : ∀ d : Nat, d < 10 → (⟨#[48, 49, 50, 51, 52, 53, 54, 55, 56, 57]⟩ : ByteArray).extract d (d + 1) = B [UInt8.ofNat (48 + d)] := by
  intro d h
  have : d = 0 ∨ d = 1 ∨ d = 2 ∨ d = 3 ∨ d = 4 ∨ d = 5 ∨ d = 6 ∨ d = 7 ∨ d = 8 ∨ d = 9 := by omega
  rcases this with rfl | rfl | rfl | rfl | rfl | rfl | rfl | rfl | rfl | rfl <;> rfl
def phi (m : Int) : Int := m / 2 + (if 0 < m then 1 else 0)
theorem phi_step (m : Int) (h : 0 < m) : phi (m / 10) + 1 ≤ phi m := by unfold phi; split <;> (try split) <;> omega
theorem l1_eq (n no : Int) (h0 : 0 ≤ n) (hn : n ≤ 9223372036854775807) : ∀ (e : Nat) (i : Int) (l : Bs) (k : Nat), i + e = no → 0 ≤ i → no ≤ 20 → e + 1 ≤ k → (∀ c ∈ l, isD c) → val 0 l = n → l.length + e ≤ 4611686018427387904 + 30 →
    scullerylaw01_AsciiNumbers.l1 k n no true (B l) i = some true := by
  intro e
  induction e with
  | zero =>
    intro i l k hi h0' h20 hk hl hv hlen
    obtain ⟨k, rfl⟩ : ∃ j, k = j + 1 := ⟨k - 1, by omega⟩
    simp only [scullerylaw01_AsciiNumbers.l1]
    rw [if_neg (by omega)]
    have hs : (B l).size ≤ 9223372036854775807 := by rw [B_size]; omega
    unfold X.ascii_Digits.f
    rw [if_pos hs]
    simp only [Option.bind_some, B_toList]
    by_cases hn0 : l = []
    · rw [if_pos hn0, if_pos hn0]; rfl
    · have ha : X.allB X.isDigit (B l) = true := by
        unfold X.allB
        rw [B_data, List.all_eq_true]
        exact fun c hc => isD_digit c (hl c hc)
      rw [if_neg hn0, if_neg hn0, if_pos ha]
      simp only [if_true]
      rw [B_data, digs_val l hl, hv]
      unfold mn
      congr 1
      rw [beq_iff_eq]
  | succ e ih =>
    intro i l k hi h0' h20 hk hl hv hlen
    obtain ⟨k, rfl⟩ : ∃ j, k = j + 1 := ⟨k - 1, by omega⟩
    simp only [scullerylaw01_AsciiNumbers.l1]
    rw [if_pos (by omega), B_size, if_pos (by omega), w64 (by omega) (by omega), show (⟨#[48]⟩ : ByteArray) = B [48] from rfl, B_append]
    refine ih (i + 1) _ k (by omega) (by omega) h20 (by omega) ?_ ?_ ?_
    · intro c hc
      rcases List.mem_append.1 hc with h | h
      · simp at h; subst h; unfold isD; decide
      · exact hl c h
    · exact hv
    · simp; omega
theorem l0_eq (n no : Int) (h0 : 0 ≤ n) (hn : n ≤ 9223372036854775807) (hno : 0 ≤ no) (h20 : no ≤ 20) : ∀ (M : Nat) (m : Int) (l : Bs) (k : Nat), 0 ≤ m → m ≤ M → m ≤ n → M + 40 ≤ k → (∀ c ∈ l, isD c) → val m l = n → l.length + phi m ≤ phi n →
    scullerylaw01_AsciiNumbers.l0 k n no true (B l) m = some true := by
  intro M
  induction M with
  | zero =>
    intro m l k h1 h2 h3 hk hl hv hlen
    obtain ⟨k, rfl⟩ : ∃ j, k = j + 1 := ⟨k - 1, by omega⟩
    simp only [scullerylaw01_AsciiNumbers.l0]
    obtain rfl : m = 0 := by omega
    rw [if_neg (by omega)]
    have hp : phi n ≤ 4611686018427387904 + 1 := by unfold phi; split <;> omega
    have hp0 : phi 0 = 0 := rfl
    exact l1_eq n no h0 hn no.toNat 0 l k (by omega) (by omega) h20 (by omega) hl hv (by omega)
  | succ M ih =>
    intro m l k h1 h2 h3 hk hl hv hlen
    obtain ⟨k, rfl⟩ : ∃ j, k = j + 1 := ⟨k - 1, by omega⟩
    have hp : phi n ≤ 4611686018427387904 + 1 := by unfold phi; split <;> omega
    simp only [scullerylaw01_AsciiNumbers.l0]
    by_cases hm : m > 0
    · have hps := phi_step m hm
      have hpp : 0 ≤ phi (m / 10) := by unfold phi; split <;> omega
      rw [if_pos hm, Int.tmod_eq_emod_of_nonneg h1, w64 (x := m % 10 + 1) (by omega) (by omega), if_pos (by omega), if_pos (by omega), if_pos (by omega)]
      obtain ⟨d, hd⟩ : ∃ d : Nat, m % 10 = d := ⟨(m % 10).toNat, by omega⟩
      rw [hd, Int.toNat_natCast, show ((d : Int) + 1).toNat = d + 1 by omega, digit_at d (by omega), B_size, B_size, if_pos (by simp only [List.length_cons, List.length_nil]; omega), B_append, Int.tdiv_eq_ediv_of_nonneg h1, w64 (x := m / 10) (by omega) (by omega)]
      have hc : (UInt8.ofNat (48 + d)).toNat = 48 + d := by simp; omega
      refine ih (m / 10) _ k (by omega) (by omega) (by omega) (by omega) ?_ ?_ ?_
      · intro c hcm
        rcases List.mem_append.1 hcm with h | h
        · simp only [List.mem_cons, List.not_mem_nil, or_false] at h; subst h; unfold isD; omega
        · exact hl c h
      · rw [← hv]
        simp only [List.cons_append, List.nil_append, val, List.foldl_cons]
        rw [hc]
        congr 1; omega
      · simp only [List.cons_append, List.nil_append, List.length_cons]; omega
    · rw [if_neg hm]
      obtain rfl : m = 0 := by omega
      have hp0 : phi 0 = 0 := rfl
      exact l1_eq n no h0 hn no.toNat 0 l k (by omega) (by omega) h20 (by omega) hl hv (by omega)
theorem AsciiNumbers : scullerylaw01_AsciiNumbers.Pure := by
  intro n no wn wno
  have hb : -9223372036854775808 ≤ n ∧ n ≤ 9223372036854775807 := by simp [Lit.wf, IntKind.min, IntKind.max, IntKind.signed, IntKind.bits] at wn; omega
  obtain ⟨k, hk⟩ : ∃ k : Nat, n.toNat + 50 ≤ k := ⟨_, Nat.le_refl _⟩
  refine ⟨k + 1, ?_⟩
  unfold scullerylaw01_AsciiNumbers.f
  rw [scullerylaw01_awake.up]
  simp only [Option.bind_some]
  have J : scullerylaw01_AsciiNumbers.j0 (k + 1) n no true true = some true := by simp only [scullerylaw01_AsciiNumbers.j0]; rw [if_pos trivial]
  by_cases h1 : n < 0
  · rw [if_pos h1, J]
  by_cases h2 : no < 0
  · rw [if_neg h1, if_pos h2, J]
  rw [if_neg h1, if_neg h2]
  by_cases h3 : no > 20
  · rw [decide_eq_true h3, J]
  rw [decide_eq_false h3]
  simp only [scullerylaw01_AsciiNumbers.j0]
  rw [if_neg (by decide), show (⟨#[]⟩ : ByteArray) = B [] from rfl]
  exact l0_eq n no (by omega) hb.2 (by omega) (by omega) n.toNat n [] k (by omega) (by omega) (by omega) (by omega) (fun c hc => by cases hc) rfl (by simp)
end Go.Proofs.YtpddbfodjeoofaaDoor.Pure
