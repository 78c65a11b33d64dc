/- Texts without blanks and commas, joined by commas with blanks about them, are split to these. -/
import Derived.Test.YtkjjegjafpefcaaDoorPSplit
namespace Go.Proofs.YtkjjegjafpefcaaDoor.R
open Go Go.RowKit
set_option linter.unusedSimpArgs false
set_option linter.unusedVariables false
theorem dw_app (a b : Bs) (h : ∀ c ∈ a, blankB c = true) : (a ++ b).dropWhile blankB = b.dropWhile blankB := by
  induction a with
  | nil => rfl
  | cons c a ih => rw [List.cons_append, List.dropWhile_cons, if_pos (h c (by simp))]; exact ih fun d hd => h d (by simp [hd])
theorem dw_not (a : Bs) (h : ∀ c ∈ a, blankB c = false) (b : Bs) (h0 : a ≠ []) : (a ++ b).dropWhile blankB = a ++ b := by
  cases a with
  | nil => exact absurd rfl h0
  | cons c a => rw [List.cons_append, List.dropWhile_cons, h c (by simp)]; rfl
theorem strip_mid (lead t tabs : Bs) (h0 : t ≠ []) (hl : ∀ c ∈ lead, blankB c = true) (ht : ∀ c ∈ t, blankB c = false) (hb : ∀ c ∈ tabs, blankB c = true) : strip (lead ++ (t ++ tabs)) = t := by
  unfold strip
  rw [dw_app lead _ hl, dw_not t ht tabs h0]
  unfold nbEnd
  rw [List.reverse_append, dw_app _ _ (fun c hc => hb c (List.mem_reverse.1 hc))]
  have := dw_not t.reverse (fun c hc => ht c (List.mem_reverse.1 hc)) [] (by simpa using h0)
  rw [List.append_nil] at this
  rw [this, List.length_reverse, List.take_left']
  rfl
theorem drop_head {l : Bs} {i : Nat} {c : UInt8} {m : Bs} (h : l.drop i = c :: m) : ∃ hi : i < l.length, l[i] = c ∧ l.drop (i + 1) = m := by
  have hi : i < l.length := by
    rcases Nat.lt_or_ge i l.length with h1 | h1
    · exact h1
    · rw [List.drop_eq_nil_of_le h1] at h; cases h
  rw [List.drop_eq_getElem_cons hi] at h
  exact ⟨hi, (List.cons.inj h).1, (List.cons.inj h).2⟩
theorem C_skip (l : Bs) (fr : Nat) (acc : List ByteArray) : ∀ (m : Bs) (i : Nat) (y : Bs), l.drop i = m ++ y → (∀ c ∈ m, c.toNat ≠ 34 ∧ c.toNat ≠ 44) → C l fr i acc = C l fr (i + m.length) acc ∧ l.drop (i + m.length) = y
  | [], i, y, h, _ => ⟨rfl, h⟩
  | c :: m, i, y, h, hm => by
    obtain ⟨hi, hc, hd⟩ := drop_head h
    have h2 := hm c (by simp)
    have := C_skip l fr acc m (i + 1) y hd (fun d hd => hm d (by simp [hd]))
    rw [C_step l fr i acc hi, hc, if_neg h2.1, if_neg h2.2, List.length_cons, show i + (m.length + 1) = i + 1 + m.length by omega]
    exact this
def joinTail (sp tabs : Bs) (r : List Bs) : Bs := r.flatMap fun u => 44 :: (sp ++ (u ++ tabs))
def JL (sp tabs : Bs) : List Bs → Bs
  | [] => []
  | t :: r => t ++ (tabs ++ joinTail sp tabs r)
/-- A text without blanks, quotes and commas. -/
def GoodQ (u : Bs) : Prop := u ≠ [] ∧ ∀ c ∈ u, blankB c = false ∧ c.toNat ≠ 34 ∧ c.toNat ≠ 44
theorem blank_is (c : UInt8) (h : blankB c = true) : c.toNat ≠ 34 ∧ c.toNat ≠ 44 := by
  refine ⟨fun e => ?_, fun e => ?_⟩
  · have : c = 34 := UInt8.toNat_inj.1 e
    rw [this] at h; revert h; decide
  · have : c = 44 := UInt8.toNat_inj.1 e
    rw [this] at h; revert h; decide
theorem C_parts (l sp tabs : Bs) (hs : ∀ c ∈ sp, blankB c = true) (hb : ∀ c ∈ tabs, blankB c = true) : ∀ (r : List Bs) (t lead : Bs) (i : Nat) (acc : List ByteArray), (∀ c ∈ lead, blankB c = true) → GoodQ t → (∀ u ∈ r, GoodQ u) → l.drop i = lead ++ (t ++ tabs) ++ joinTail sp tabs r →
    C l i i acc = acc ++ (t :: r).map B := by
  intro r
  induction r with
  | nil =>
    intro t lead i acc hl ht _ hd
    have hT := ht.2
    have hm : ∀ c ∈ lead ++ (t ++ tabs), c.toNat ≠ 34 ∧ c.toNat ≠ 44 := by
      intro c hc
      simp only [List.mem_append] at hc
      rcases hc with hc | hc | hc
      · exact blank_is c (hl c hc)
      · exact (hT c hc).2
      · exact blank_is c (hb c hc)
    obtain ⟨h1, h2⟩ := C_skip l i acc _ i _ hd hm
    have hle : l.length ≤ i + (lead ++ (t ++ tabs)).length := by
      have := congrArg List.length h2
      rw [List.length_drop] at this
      simp [joinTail] at this ⊢
      omega
    rw [h1, C_end _ _ _ _ hle, B_extract, List.take_length, hd, show joinTail sp tabs [] = [] from rfl, List.append_nil, takeP_B, strip_mid lead t tabs ht.1 hl (fun c hc => (hT c hc).1) hb, if_neg ht.1]
    rfl
  | cons u r ih =>
    intro t lead i acc hl ht hr hd
    have hT := ht.2
    have hm : ∀ c ∈ lead ++ (t ++ tabs), c.toNat ≠ 34 ∧ c.toNat ≠ 44 := by
      intro c hc
      simp only [List.mem_append] at hc
      rcases hc with hc | hc | hc
      · exact blank_is c (hl c hc)
      · exact (hT c hc).2
      · exact blank_is c (hb c hc)
    obtain ⟨h1, h2⟩ := C_skip l i acc _ i _ hd hm
    have hj : joinTail sp tabs (u :: r) = 44 :: (sp ++ (u ++ tabs) ++ joinTail sp tabs r) := by simp [joinTail]
    rw [hj] at h2
    obtain ⟨hi, hc, hd2⟩ := drop_head h2
    have hex : (B l).extract i (i + (lead ++ (t ++ tabs)).length) = B (lead ++ (t ++ tabs)) := by
      rw [B_extract, List.drop_take, hd, show i + (lead ++ (t ++ tabs)).length - i = (lead ++ (t ++ tabs)).length by omega, List.take_left']
      rfl
    rw [h1, C_step _ _ _ _ hi, hc, if_neg (by decide), if_pos (by decide), hex, takeP_B, strip_mid lead t tabs ht.1 hl (fun c hc => (hT c hc).1) hb, if_neg ht.1,
      ih u sp _ _ hs (hr u (by simp)) (fun v hv => hr v (by simp [hv])) hd2]
    simp
theorem C_joined (sp tabs : Bs) (hs : ∀ c ∈ sp, blankB c = true) (hb : ∀ c ∈ tabs, blankB c = true) (ts : List Bs) (h : ∀ u ∈ ts, GoodQ u) : C (JL sp tabs ts) 0 0 [] = ts.map B := by
  cases ts with
  | nil =>
    show C [] 0 0 [] = []
    rw [C_end [] 0 0 [] (Nat.le_refl 0), B_extract, takeP_B]
    rfl
  | cons t r =>
    rw [C_parts (JL sp tabs (t :: r)) sp tabs hs hb r t [] 0 [] (fun c hc => by cases hc) (h t (by simp)) (fun u hu => h u (by simp [hu])) (by simp [JL])]
    rfl
theorem JL_snoc (sp tabs : Bs) (ts : List Bs) (u : Bs) : JL sp tabs (ts ++ [u]) = (if ts = [] then [] else JL sp tabs ts ++ 44 :: sp) ++ u ++ tabs := by
  cases ts with
  | nil => simp [JL, joinTail]
  | cons t r => simp [JL, joinTail]
end Go.Proofs.YtkjjegjafpefcaaDoor.R
