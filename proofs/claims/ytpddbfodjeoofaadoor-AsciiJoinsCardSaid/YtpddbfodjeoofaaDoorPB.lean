/- Tokens that are joined by commas, with blanks about them, are split to these. -/
import Derived.Test.YtpddbfodjeoofaaDoorPA
namespace Go.Proofs.YtpddbfodjeoofaaDoor.R
open Go Go.RowKit
open Go.Proofs.YtpddbfodjeoofaaDoor.Pure (blankB strip nbEnd)
set_option linter.unusedSimpArgs false
set_option linter.unusedVariables false
theorem dw_app (a b : Bs) (h : ∀ c ∈ a, blankB c = true) : (a ++ b).dropWhile blankB = b.dropWhile blankB := by
  induction a with
  | nil => rfl
  | cons c a ih => rw [List.cons_append, List.dropWhile_cons, if_pos (h c (by simp))]; exact ih fun d hd => h d (by simp [hd])
theorem dw_not (a : Bs) (h : ∀ c ∈ a, blankB c = false) (b : Bs) (h0 : a ≠ []) : (a ++ b).dropWhile blankB = a ++ b := by
  cases a with
  | nil => exact absurd rfl h0
  | cons c a => rw [List.cons_append, List.dropWhile_cons, h c (by simp)]; rfl
theorem strip_mid (lead t tabs : Bs) (h0 : t ≠ []) (hl : ∀ c ∈ lead, blankB c = true) (ht : ∀ c ∈ t, blankB c = false) (hb : ∀ c ∈ tabs, blankB c = true) : strip (lead ++ (t ++ tabs)) = t := by
  unfold strip
  rw [dw_app lead _ hl, dw_not t ht tabs h0]
  unfold nbEnd
  rw [List.reverse_append, dw_app _ _ (fun c hc => hb c (List.mem_reverse.1 hc))]
  have := dw_not t.reverse (fun c hc => ht c (List.mem_reverse.1 hc)) [] (by simpa using h0)
  rw [List.append_nil] at this
  rw [this, List.length_reverse, List.take_left']
  rfl
theorem drop_head {l : Bs} {i : Nat} {c : UInt8} {m : Bs} (h : l.drop i = c :: m) : ∃ hi : i < l.length, l[i] = c ∧ l.drop (i + 1) = m := by
  have hi : i < l.length := by
    rcases Nat.lt_or_ge i l.length with h1 | h1
    · exact h1
    · rw [List.drop_eq_nil_of_le h1] at h; cases h
  rw [List.drop_eq_getElem_cons hi] at h
  exact ⟨hi, (List.cons.inj h).1, (List.cons.inj h).2⟩
theorem C_skip (l : Bs) (fr : Nat) (acc : List ByteArray) : ∀ (m : Bs) (i : Nat) (y : Bs), l.drop i = m ++ y → (∀ c ∈ m, c.toNat ≠ 34 ∧ c.toNat ≠ 44) → C l fr i acc = C l fr (i + m.length) acc ∧ l.drop (i + m.length) = y
  | [], i, y, h, _ => ⟨rfl, h⟩
  | c :: m, i, y, h, hm => by
    obtain ⟨hi, hc, hd⟩ := drop_head h
    have h2 := hm c (by simp)
    have := C_skip l fr acc m (i + 1) y hd (fun d hd => hm d (by simp [hd]))
    rw [C_step l fr i acc hi, hc, if_neg h2.1, if_neg h2.2, List.length_cons, show i + (m.length + 1) = i + 1 + m.length by omega]
    exact this
def joinTail (sp tabs : Bs) (r : List Bs) : Bs := r.flatMap fun u => 44 :: (sp ++ (u ++ tabs))
def JL (sp tabs : Bs) : List Bs → Bs
  | [] => []
  | t :: r => t ++ (tabs ++ joinTail sp tabs r)
def Good (u : Bs) : Prop := u ≠ [] ∧ u.length ≤ 40 ∧ u.all X.isTchar = true
set_option maxRecDepth 100000 in
theorem tchar_all : ∀ n : Fin 256, X.isTchar (UInt8.ofNat n.val) = true → blankB (UInt8.ofNat n.val) = false ∧ n.val ≠ 34 ∧ n.val ≠ 44 := by decide +kernel
theorem tchar_is (c : UInt8) (h : X.isTchar c = true) : blankB c = false ∧ c.toNat ≠ 34 ∧ c.toNat ≠ 44 := by
  have := tchar_all ⟨c.toNat, c.toNat_lt⟩
  simp only [UInt8.ofNat_toNat] at this
  exact this h
theorem blank_is (c : UInt8) (h : blankB c = true) : c.toNat ≠ 34 ∧ c.toNat ≠ 44 := by
  refine ⟨fun e => ?_, fun e => ?_⟩
  · have : c = 34 := UInt8.toNat_inj.1 e
    rw [this] at h; revert h; decide
  · have : c = 44 := UInt8.toNat_inj.1 e
    rw [this] at h; revert h; decide
theorem C_parts (l sp tabs : Bs) (hs : ∀ c ∈ sp, blankB c = true) (hb : ∀ c ∈ tabs, blankB c = true) : ∀ (r : List Bs) (t lead : Bs) (i : Nat) (acc : List ByteArray), (∀ c ∈ lead, blankB c = true) → Good t → (∀ u ∈ r, Good u) → l.drop i = lead ++ (t ++ tabs) ++ joinTail sp tabs r →
    C l i i acc = acc ++ (t :: r).map B := by
  intro r
  induction r with
  | nil =>
    intro t lead i acc hl ht _ hd
    have hT := fun c hc => tchar_is c (List.all_eq_true.1 ht.2.2 c hc)
    have hm : ∀ c ∈ lead ++ (t ++ tabs), c.toNat ≠ 34 ∧ c.toNat ≠ 44 := by
      intro c hc
      simp only [List.mem_append] at hc
      rcases hc with hc | hc | hc
      · exact blank_is c (hl c hc)
      · exact (hT c hc).2
      · exact blank_is c (hb c hc)
    obtain ⟨h1, h2⟩ := C_skip l i acc _ i _ hd hm
    have hle : l.length ≤ i + (lead ++ (t ++ tabs)).length := by
      have := congrArg List.length h2
      rw [List.length_drop] at this
      simp [joinTail] at this ⊢
      omega
    rw [h1, C_end _ _ _ _ hle, B_extract, List.take_length, hd, show joinTail sp tabs [] = [] from rfl, List.append_nil, takeP_B, strip_mid lead t tabs ht.1 hl (fun c hc => (hT c hc).1) hb, if_neg ht.1]
    rfl
  | cons u r ih =>
    intro t lead i acc hl ht hr hd
    have hT := fun c hc => tchar_is c (List.all_eq_true.1 ht.2.2 c hc)
    have hm : ∀ c ∈ lead ++ (t ++ tabs), c.toNat ≠ 34 ∧ c.toNat ≠ 44 := by
      intro c hc
      simp only [List.mem_append] at hc
      rcases hc with hc | hc | hc
      · exact blank_is c (hl c hc)
      · exact (hT c hc).2
      · exact blank_is c (hb c hc)
    obtain ⟨h1, h2⟩ := C_skip l i acc _ i _ hd hm
    have hj : joinTail sp tabs (u :: r) = 44 :: (sp ++ (u ++ tabs) ++ joinTail sp tabs r) := by simp [joinTail]
    rw [hj] at h2
    obtain ⟨hi, hc, hd2⟩ := drop_head h2
    have hex : (B l).extract i (i + (lead ++ (t ++ tabs)).length) = B (lead ++ (t ++ tabs)) := by
      rw [B_extract, List.drop_take, hd, show i + (lead ++ (t ++ tabs)).length - i = (lead ++ (t ++ tabs)).length by omega, List.take_left']
      rfl
    rw [h1, C_step _ _ _ _ hi, hc, if_neg (by decide), if_pos (by decide), hex, takeP_B, strip_mid lead t tabs ht.1 hl (fun c hc => (hT c hc).1) hb, if_neg ht.1,
      ih u sp _ _ hs (hr u (by simp)) (fun v hv => hr v (by simp [hv])) hd2]
    simp
theorem C_joined (sp tabs : Bs) (hs : ∀ c ∈ sp, blankB c = true) (hb : ∀ c ∈ tabs, blankB c = true) (ts : List Bs) (h : ∀ u ∈ ts, Good u) : C (JL sp tabs ts) 0 0 [] = ts.map B := by
  cases ts with
  | nil =>
    show C [] 0 0 [] = []
    rw [C_end [] 0 0 [] (Nat.le_refl 0), B_extract, takeP_B]
    rfl
  | cons t r =>
    rw [C_parts (JL sp tabs (t :: r)) sp tabs hs hb r t [] 0 [] (fun c hc => by cases hc) (h t (by simp)) (fun u hu => h u (by simp [hu])) (by simp [JL])]
    rfl
theorem JL_snoc (sp tabs : Bs) (ts : List Bs) (u : Bs) : JL sp tabs (ts ++ [u]) = (if ts = [] then [] else JL sp tabs ts ++ 44 :: sp) ++ u ++ tabs := by
  cases ts with
  | nil => simp [JL, joinTail]
  | cons t r => simp [JL, joinTail]
theorem JL_len (sp tabs : Bs) (hs : sp.length ≤ 3) (hb : tabs.length ≤ 3) (ts : List Bs) (h : ∀ u ∈ ts, Good u) : (JL sp tabs ts).length ≤ 47 * ts.length := by
  have tail : ∀ r : List Bs, (∀ u ∈ r, Good u) → (joinTail sp tabs r).length ≤ 47 * r.length := by
    intro r
    induction r with
    | nil => intro _; simp [joinTail]
    | cons u r ih =>
      intro hr
      have h1 := ih fun v hv => hr v (by simp [hv])
      have h2 := (hr u (by simp)).2.1
      have e : joinTail sp tabs (u :: r) = 44 :: (sp ++ (u ++ tabs) ++ joinTail sp tabs r) := by simp [joinTail]
      rw [e]
      simp only [List.length_cons, List.length_append]
      omega
  cases ts with
  | nil => exact Nat.zero_le _
  | cons t r =>
    have h1 := tail r fun v hv => h v (by simp [hv])
    have h2 := (h t (by simp)).2.1
    simp only [JL, List.length_append, List.length_cons]
    omega
theorem token_is (l : Bs) (k : Nat) (h : l.length ≤ 9223372036854775807) : ascii_Token.f k (B l) = some (if l = [] then false else l.all X.isTchar) := by
  unfold ascii_Token.f X.ascii_Token.f
  rw [B_size, if_pos h, B_toList]
  unfold X.allB
  rw [B_data]
theorem same_is (xs : List ByteArray) (hx : xs.length ≤ 1000) (k : Nat) (hk : 1010 ≤ k) : ref01_Same.f k (xs, xs) = some true := by
  unfold ref01_Same.f ref01_Same.l0
  rw [neI_dec, ifO_dec, if_neg (fun h => h rfl)]
  refine iter_eq (f := ref01_Same.l0b k) (fun v => v.1 = xs ∧ v.2.1 = xs ∧ ∃ i : Nat, v.2.2 = (i : Int) ∧ i ≤ xs.length) (fun v => (xs.length + 1 - v.2.2).toNat) (fun v => some true) ?_ k (xs, xs, (0 : Int)) ⟨rfl, rfl, 0, rfl, Nat.zero_le _⟩ (by show ((xs.length : Int) + 1 - 0).toNat < k; omega)
  rintro r ⟨a, b, x⟩ ⟨h1, h2, i, h3, hi⟩ hr
  simp only at h1 h2 h3
  subst h1; subst h2; subst h3
  unfold ref01_Same.l0b
  simp only [lenL_nat, ltI_nat, inB_nat, ifO_dec]
  by_cases h : i < b.length
  · rw [if_pos h, if_pos h, if_pos h]
    have : notB (eqS (elT .str b (i : Int)) (elT .str b (i : Int))) = false := by unfold notB eqS; rw [beq_self_eq_true]; rfl
    rw [this, ifO_false, next64 (by omega)]
    exact hr _ ⟨rfl, rfl, i + 1, rfl, h⟩ (by show ((b.length : Int) + 1 - ((i + 1 : Nat) : Int)).toNat < ((b.length : Int) + 1 - (i : Int)).toNat; omega)
  · rw [if_neg h]
end Go.Proofs.YtpddbfodjeoofaaDoor.R
