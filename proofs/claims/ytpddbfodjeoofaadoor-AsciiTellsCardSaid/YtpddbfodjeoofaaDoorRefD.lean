/- The document's Split is the program's; texts are the same as themselves. -/
import Derived.Test.YtpddbfodjeoofaaDoorRefC
namespace Go.Proofs.YtpddbfodjeoofaaDoor.Pure
open Go.RowKit Go.Proofs.YtpddbfodjeoofaaDoor.PAscii Go.Proofs.YtpddbfodjeoofaaDoorW.PrintWords Go.Proofs.YtpddbfodjeoofaaDoorW.PrintLast
set_option linter.unusedSimpArgs false
set_option linter.unusedVariables false
theorem w64 (i : Nat) (h : i ≤ 100000) : wrap64 ((i : Int) + 1) = ((i + 1 : Nat) : Int) := by rw [u64 (by omega) (by omega)]; omega
theorem takeP_B (acc : List ByteArray) (q : Bs) : X.takeP acc (B q) = if strip q = [] then acc else acc ++ [B (strip q)] := by unfold X.takeP; rw [trim_eq, B_toList]
theorem cuts_end (s : ByteArray) (m fr i : Nat) (acc : List ByteArray) (h : s.size ≤ i) : X.cuts s m fr i acc = X.takeP acc (s.extract fr s.size) := by
  cases m with
  | zero => rfl
  | succ m => unfold X.cuts; rw [if_neg (by omega)]
/-- A part, and on. -/
theorem part (l : Bs) (hl : l.length ≤ 500) (k : Nat) (acc : List ByteArray) (q sl : Bool) (fr i : Nat) (hf : fr ≤ i) (hi : i ≤ l.length) (ha : acc.length ≤ 1000) (hk : 1010 ≤ k) :
    sculleryref01_Split.j2 (k + 1) (B l) acc q sl fr i false = sculleryref01_Split.l0 k (B l) (X.takeP acc ((B l).extract fr i)) q sl ((i + 1 : Nat) : Int) ((i + 1 : Nat) : Int) := by
  unfold sculleryref01_Split.j2
  rw [if_neg (by decide), if_pos (by omega), if_pos (by omega), if_pos (by rw [B_size]; omega), Int.toNat_natCast, Int.toNat_natCast, B_extract, takeP_B]
  have hq : ((l.take i).drop fr).length ≤ l.length := by rw [List.length_drop, List.length_take]; omega
  generalize (l.take i).drop fr = p at hq
  rw [rtrim p.length p k (Nat.le_refl _) (by omega) (by omega), w64 i (by omega)]
  simp only [Option.bind_some, B_toList]
  by_cases h : strip p = []
  · rw [if_pos h, if_pos h]
  · rw [if_neg h, if_neg h, if_pos (by omega)]
theorem past (l : Bs) (hl : l.length ≤ 500) (k : Nat) (acc : List ByteArray) (q sl : Bool) (fr : Int) : sculleryref01_Split.l0 (k + 1) (B l) acc q sl fr ((l.length + 1 : Nat) : Int) = some acc := by
  unfold sculleryref01_Split.l0
  rw [if_neg (by rw [B_size]; omega)]
theorem final (l : Bs) (hl : l.length ≤ 500) (k : Nat) (acc : List ByteArray) (q sl : Bool) (fr : Nat) (hf : fr ≤ l.length) (ha : acc.length ≤ 1000) (hk : 1015 ≤ k) :
    sculleryref01_Split.l0 k (B l) acc q sl fr (l.length : Nat) = some (X.takeP acc ((B l).extract fr (B l).size)) := by
  obtain ⟨k, rfl⟩ : ∃ j, k = j + 1 + 1 + 1 + 1 := ⟨k - 4, by omega⟩
  unfold sculleryref01_Split.l0
  rw [if_pos (by rw [B_size]; omega), if_neg (by rw [B_size]; omega)]
  unfold sculleryref01_Split.j1
  rw [if_neg (by decide), if_neg (by rw [B_size]; omega), part l hl _ acc q sl fr l.length hf (Nat.le_refl _) ha (by omega), past l hl, B_size]
theorem rsplit (l : Bs) (hl : l.length ≤ 500) : ∀ (e i k : Nat) (acc : List ByteArray) (fr : Nat), i + e = l.length → fr ≤ i → acc.length ≤ i → 3 * e + 1015 ≤ k → ∀ m, e ≤ m →
    sculleryref01_Split.l0 k (B l) acc false false fr i = some (X.cuts (B l) m fr i acc) ∧
    sculleryref01_Split.l0 k (B l) acc true false fr i = some (X.cuts (B l) m fr (X.endAt l i + 1) acc) ∧
    sculleryref01_Split.l0 k (B l) acc true true fr i = some (X.cuts (B l) m fr (X.endAt l (i + 1) + 1) acc) := by
  intro e
  induction e with
  | zero =>
    intro i k acc fr hi hf ha hk m _
    obtain rfl : i = l.length := by omega
    have e1 : X.endAt l l.length = l.length := by unfold X.endAt; rw [if_neg (by omega)]
    have e2 : X.endAt l (l.length + 1) = l.length := by unfold X.endAt; rw [if_neg (by omega)]
    refine ⟨?_, ?_, ?_⟩
    · rw [final l hl k acc _ _ fr hf (by omega) (by omega), cuts_end _ _ _ _ _ (by rw [B_size]; omega)]
    · rw [final l hl k acc _ _ fr hf (by omega) (by omega), cuts_end _ _ _ _ _ (by rw [B_size]; omega)]
    · rw [final l hl k acc _ _ fr hf (by omega) (by omega), cuts_end _ _ _ _ _ (by rw [B_size]; omega)]
  | succ e ih =>
    intro i k acc fr hi hf ha hk m hm
    have hlt : i < l.length := by omega
    obtain ⟨k, rfl⟩ : ∃ j, k = j + 1 + 1 + 1 := ⟨k - 3, by omega⟩
    have g := l[i]'hlt
    have hb : bt (B l) (i : Int) = ((l[i]'hlt).toNat : Int) := B_get l i hlt
    have hg : l.getD i 0 = l[i]'hlt := by rw [List.getD_eq_getElem?_getD, List.getElem?_eq_getElem hlt]; rfl
    have hgB : (B l).data.toList.getD i 0 = l[i]'hlt := by rw [B_data, hg]
    generalize hc : l[i]'hlt = c at hb hg hgB
    have ih1 := fun k' (hk' : 3 * e + 1015 ≤ k') acc' (ha' : acc'.length ≤ i + 1) (fr' : Nat) (hf' : fr' ≤ i + 1) m' (hm' : e ≤ m') => ih (i + 1) k' acc' fr' (by omega) hf' ha' hk' m' hm'
    have c1 : (i : Int) ≤ ((B l).size : Int) := by rw [B_size]; omega
    have c2 : (i : Int) < ((B l).size : Int) := by rw [B_size]; omega
    have c3 : (0 : Int) ≤ (i : Int) := by omega
    have cn : i < (B l).size := by rw [B_size]; omega
    obtain ⟨m1, rfl⟩ : ∃ j, m = j + 1 := ⟨m - 1, by omega⟩
    refine ⟨?_, ?_, ?_⟩
    · unfold sculleryref01_Split.l0
      rw [if_pos c1, if_pos c2]
      unfold sculleryref01_Split.j1
      rw [if_neg (by decide), if_pos c2, if_pos c3, hb]
      unfold X.cuts
      rw [if_pos cn, hgB]
      by_cases h44 : c.toNat = 44
      · rw [if_neg (by omega), if_pos h44]
        have : (((c.toNat : Int)) != 44) = false := by rw [h44]; rfl
        rw [this, part l hl k acc false false fr i hf (by omega) (by omega) (by omega)]
        exact (ih1 k (by omega) _ (by have := X.takeP_len acc ((B l).extract fr i); omega) (i + 1) (Nat.le_refl _) m1 (by omega)).1
      · have : (((c.toNat : Int)) != 44) = true := by simp; omega
        rw [this]
        unfold sculleryref01_Split.j2
        rw [if_pos rfl, if_pos c3, if_pos c2, hb, w64 i (by omega), if_neg h44]
        by_cases h34 : c.toNat = 34
        · have : (((c.toNat : Int)) == 34) = true := by rw [h34]; rfl
          rw [this, if_pos h34]
          exact (ih1 k (by omega) acc (by omega) fr (by omega) m1 (by omega)).2.1
        · have : (((c.toNat : Int)) == 34) = false := by simp; omega
          rw [this, if_neg h34]
          exact (ih1 k (by omega) acc (by omega) fr (by omega) m1 (by omega)).1
    · unfold sculleryref01_Split.l0
      rw [if_pos c1, if_pos c2]
      unfold sculleryref01_Split.j1
      rw [if_pos rfl, if_neg (by decide), if_pos c3, if_pos c2, hb, w64 i (by omega)]
      have ee : X.endAt l i = i + X.qe (l.drop i) := by unfold X.endAt; rw [if_pos hlt]
      by_cases h92 : c.toNat = 92
      · rw [if_pos (by omega)]
        have hn : X.endAt l i = X.endAt l (i + 1 + 1) := by
          rw [ee, X.qe_esc hlt (by rw [hg]; exact h92)]
          unfold X.endAt
          by_cases h1 : i + 1 < l.length
          · rw [if_pos h1]
            by_cases h2 : i + 1 + 1 < l.length
            · rw [if_pos h2, show i + 1 + 1 = i + 2 from rfl]; omega
            · rw [if_neg h2, X.qe_end (by omega)]; omega
          · rw [if_neg h1, if_neg (by omega)]; omega
        rw [hn]
        exact (ih1 _ (by omega) acc (by omega) fr (by omega) (m1 + 1) (by omega)).2.2
      · rw [if_neg (by omega)]
        by_cases h34 : c.toNat = 34
        · rw [if_pos (by omega), ee, X.qe_quote hlt (by rw [hg]; exact h34)]
          exact (ih1 _ (by omega) acc (by omega) fr (by omega) (m1 + 1) (by omega)).1
        · rw [if_neg (by omega)]
          have hn : X.endAt l i = X.endAt l (i + 1) := by
            rw [ee, X.qe_more hlt (by rw [hg]; exact h92) (by rw [hg]; exact h34)]
            unfold X.endAt
            by_cases h1 : i + 1 < l.length
            · rw [if_pos h1]; omega
            · rw [if_neg h1, X.qe_end (by omega)]; omega
          rw [hn]
          exact (ih1 _ (by omega) acc (by omega) fr (by omega) (m1 + 1) (by omega)).2.1
    · unfold sculleryref01_Split.l0
      rw [if_pos c1, if_pos c2]
      unfold sculleryref01_Split.j1
      rw [if_pos rfl, if_pos rfl, w64 i (by omega)]
      exact (ih1 _ (by omega) acc (by omega) fr (by omega) (m1 + 1) (by omega)).2.1
theorem split_same (l : Bs) (hl : l.length ≤ 500) (k : Nat) (hk : 2520 ≤ k) : sculleryref01_Split.f k (B l) = X.ascii_Split.f (B l) := by
  unfold sculleryref01_Split.f X.ascii_Split.f
  rw [B_size, if_pos (by omega)]
  exact (rsplit l hl l.length 0 k [] 0 (by omega) (Nat.le_refl _) (Nat.le_refl _) (by omega) _ (by omega)).1
theorem cuts_len (s : ByteArray) : ∀ (m fr i : Nat) (acc : List ByteArray), (X.cuts s m fr i acc).length ≤ acc.length + m + 1 := by
  intro m
  induction m with
  | zero => intro fr i acc; have := X.takeP_len acc (s.extract fr s.size); unfold X.cuts; omega
  | succ m ih =>
    intro fr i acc
    unfold X.cuts
    split
    · split
      · have := ih fr (X.endAt s.data.toList (i + 1) + 1) acc; omega
      · split
        · have := ih (i + 1) (i + 1) (X.takeP acc (s.extract fr i)); have := X.takeP_len acc (s.extract fr i); omega
        · have := ih fr (i + 1) acc; omega
    · have := X.takeP_len acc (s.extract fr s.size); omega
theorem same_l0 (xs : List ByteArray) (hx : xs.length ≤ 100000) : ∀ (e i k : Nat), i + e = xs.length → e + 1 ≤ k → sculleryref01_Same.l0 k xs xs i = some true := by
  intro e
  induction e with
  | zero =>
    intro i k hi hk
    obtain ⟨k, rfl⟩ : ∃ j, k = j + 1 := ⟨k - 1, by omega⟩
    unfold sculleryref01_Same.l0
    rw [if_neg (by omega)]
  | succ e ih =>
    intro i k hi hk
    obtain ⟨k, rfl⟩ : ∃ j, k = j + 1 := ⟨k - 1, by omega⟩
    unfold sculleryref01_Same.l0
    rw [if_pos (by omega), if_pos (by omega), if_pos (by omega), if_pos rfl, w64 i (by omega)]
    exact ih (i + 1) k (by omega) (by omega)
theorem same_self (xs : List ByteArray) (hx : xs.length ≤ 1000) (k : Nat) (hk : 1002 ≤ k) : sculleryref01_Same.f k xs xs = some true := by
  unfold sculleryref01_Same.f
  rw [if_pos rfl]
  exact same_l0 xs (by omega) xs.length 0 k (by omega) (by omega)
end Go.Proofs.YtpddbfodjeoofaaDoor.Pure
