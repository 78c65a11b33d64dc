/- Rows of texts that rise; a map's keys, sorted, are such a row. -/
import Derived.Test.YtmmbedlegmbppaaDoorPCut
import Derived.Sort.KeysCollected
namespace Go.Proofs.YtmmbedlegmbppaaDoor.R
open Go Go.RowKit Go.Sort
set_option linter.unusedSimpArgs false
set_option linter.unusedVariables false
theorem bless_lt : ∀ x y : List UInt8, bless x y = decide (x < y)
  | [], [] => by unfold bless; simp
  | _ :: _, [] => by unfold bless; simp
  | [], _ :: _ => by unfold bless; simp
  | a :: x, b :: y => by
    unfold bless
    rw [bless_lt x y, Bool.eq_iff_iff, decide_eq_true_eq, List.cons_lt_cons_iff]
    simp
abbrev tx (s : ByteArray) : List UInt8 := s.data.toList
theorem ltS_tx (x y : ByteArray) : ltS x y = decide (tx x < tx y) := by unfold ltS; rw [toList_data, toList_data, bless_lt]
theorem eqS_tx (x y : ByteArray) : eqS x y = decide (tx x = tx y) := by unfold eqS; rw [toList_data, toList_data, Bool.eq_iff_iff]; simp
theorem eqS_iff (x y : ByteArray) : eqS x y = true ↔ x = y := by
  rw [eqS_tx, decide_eq_true_eq]
  exact ⟨fun h => B_ext h, fun h => by rw [h]⟩
/-- A text into a row that rises, once. -/
def insA (s : ByteArray) : List ByteArray → List ByteArray
  | [] => [s]
  | t :: r => if ltS t s = true then t :: insA s r else if eqS t s = true then t :: r else s :: t :: r
theorem insA_mem (s x : ByteArray) : ∀ l : List ByteArray, x ∈ insA s l ↔ x = s ∨ x ∈ l
  | [] => by simp [insA]
  | t :: r => by
    unfold insA
    split
    · rw [List.mem_cons, insA_mem s x r, List.mem_cons]
      constructor
      · rintro (h | h | h)
        · exact .inr (.inl h)
        · exact .inl h
        · exact .inr (.inr h)
      · rintro (h | h | h)
        · exact .inr (.inl h)
        · exact .inl h
        · exact .inr (.inr h)
    · split
      · rename_i h
        have e := (eqS_iff t s).1 h
        subst e
        rw [List.mem_cons]
        constructor
        · exact fun h => .inr h
        · rintro (h | h)
          · exact .inl h
          · exact h
      · rw [List.mem_cons]
def Rise (l : List ByteArray) : Prop := l.Pairwise fun a b => tx a < tx b
theorem insA_rise (s : ByteArray) : ∀ l : List ByteArray, Rise l → Rise (insA s l)
  | [], _ => by unfold insA Rise; simp
  | t :: r, h => by
    have h1 := (List.pairwise_cons.1 h).1
    have h2 := (List.pairwise_cons.1 h).2
    unfold insA
    split
    · rename_i hlt
      rw [ltS_tx, decide_eq_true_eq] at hlt
      refine List.pairwise_cons.2 ⟨fun x hx => ?_, insA_rise s r h2⟩
      rcases (insA_mem s x r).1 hx with rfl | hx
      · exact hlt
      · exact h1 x hx
    · split
      · exact h
      · rename_i hlt hne
        rw [ltS_tx, decide_eq_true_eq] at hlt
        rw [eqS_tx, decide_eq_true_eq] at hne
        have hst : tx s < tx t := by
          rcases List.le_iff_lt_or_eq.1 (List.not_lt.1 hlt) with h | h
          · exact h
          · exact absurd h.symm hne
        refine List.pairwise_cons.2 ⟨fun x hx => ?_, h⟩
        rcases List.mem_cons.1 hx with rfl | hx
        · exact hst
        · exact List.lt_trans hst (h1 x hx)
theorem insA_len (s : ByteArray) : ∀ l : List ByteArray, (insA s l).length ≤ l.length + 1
  | [] => Nat.le_refl _
  | t :: r => by
    have := insA_len s r
    unfold insA
    split
    · simp only [List.length_cons]; omega
    · split <;> simp only [List.length_cons] <;> omega
/-- Where it goes. -/
def below (s : ByteArray) : List ByteArray → Nat
  | [] => 0
  | t :: r => if ltS t s = true then below s r + 1 else 0
theorem below_le (s : ByteArray) : ∀ l : List ByteArray, below s l ≤ l.length
  | [] => Nat.le_refl _
  | t :: r => by
    have := below_le s r
    unfold below
    split <;> simp only [List.length_cons] <;> omega
theorem insA_at (s : ByteArray) : ∀ l : List ByteArray, insA s l = if h : below s l < l.length then (if eqS (l[below s l]'h) s = true then l else l.take (below s l) ++ s :: l.drop (below s l)) else l ++ [s]
  | [] => rfl
  | t :: r => by
    have ih := insA_at s r
    unfold insA
    by_cases h : ltS t s = true
    · have e : below s (t :: r) = below s r + 1 := by show (if ltS t s = true then _ else _) = _; rw [if_pos h]
      rw [if_pos h, ih]
      by_cases h2 : below s r < r.length
      · rw [dif_pos h2, dif_pos (by rw [e]; simp; exact h2)]
        simp only [e, List.getElem_cons_succ, List.take_succ_cons, List.drop_succ_cons, List.cons_append]
        split <;> rfl
      · rw [dif_neg h2, dif_neg (by rw [e]; simp; omega)]
        rfl
    · have e : below s (t :: r) = 0 := by show (if ltS t s = true then _ else _) = _; rw [if_neg h]
      rw [if_neg h, dif_pos (by rw [e]; simp)]
      simp only [e, List.getElem_cons_zero, List.take_zero, List.drop_zero, List.nil_append]
theorem below_step (s : ByteArray) : ∀ (l : List ByteArray) (i : Nat) (h : i < l.length), (∀ (j : Nat) (hj : j < l.length), j < i → ltS l[j] s = true) → ltS l[i] s = false → below s l = i
  | [], i, h, _, _ => by simp at h
  | t :: r, 0, h, _, hf => by
    show (if ltS t s = true then _ else _) = _
    have : ltS t s = false := hf
    rw [this]; rfl
  | t :: r, i + 1, h, ha, hf => by
    have ht : ltS t s = true := ha 0 (by simp) (by omega)
    show (if ltS t s = true then _ else _) = _
    rw [if_pos ht, below_step s r i (by simpa using h) (fun j hj hji => ha (j + 1) (by simpa using hj) (by omega)) hf]
theorem below_all (s : ByteArray) : ∀ (l : List ByteArray), (∀ (j : Nat) (hj : j < l.length), ltS l[j] s = true) → below s l = l.length
  | [], _ => rfl
  | t :: r, ha => by
    have ht : ltS t s = true := ha 0 (by simp)
    show (if ltS t s = true then _ else _) = _
    rw [if_pos ht, below_all s r (fun j hj => ha (j + 1) (by simpa using hj))]
    rfl
/-- What a row of texts comes to. -/
def riseL (ps : List ByteArray) : List ByteArray := ps.foldl (fun l s => insA s l) []
theorem foldl_ins_mem (x : ByteArray) : ∀ (ps l : List ByteArray), x ∈ ps.foldl (fun l s => insA s l) l ↔ x ∈ ps ∨ x ∈ l
  | [], l => by simp
  | p :: ps, l => by
    rw [List.foldl_cons, foldl_ins_mem x ps, insA_mem, List.mem_cons]
    constructor
    · rintro (h | h | h)
      · exact .inl (.inr h)
      · exact .inl (.inl h)
      · exact .inr h
    · rintro ((h | h) | h)
      · exact .inr (.inl h)
      · exact .inl h
      · exact .inr (.inr h)
theorem foldl_ins_rise : ∀ (ps l : List ByteArray), Rise l → Rise (ps.foldl (fun l s => insA s l) l)
  | [], l, h => h
  | p :: ps, l, h => foldl_ins_rise ps _ (insA_rise p l h)
theorem riseL_mem (x : ByteArray) (ps : List ByteArray) : x ∈ riseL ps ↔ x ∈ ps := by unfold riseL; rw [foldl_ins_mem]; simp
theorem riseL_rise (ps : List ByteArray) : Rise (riseL ps) := foldl_ins_rise ps [] List.Pairwise.nil
theorem riseL_snoc (ps : List ByteArray) (s : ByteArray) : riseL (ps ++ [s]) = insA s (riseL ps) := by unfold riseL; rw [List.foldl_append]; rfl
theorem riseL_len (ps : List ByteArray) : (riseL ps).length ≤ ps.length := by
  have : ∀ (ps l : List ByteArray), (ps.foldl (fun l s => insA s l) l).length ≤ ps.length + l.length := by
    intro ps
    induction ps with
    | nil => intro l; simp
    | cons p ps ih => intro l; have := ih (insA p l); have := insA_len p l; simp only [List.foldl_cons, List.length_cons]; omega
  have := this ps []
  simpa [riseL] using this
theorem rise_nodup {l : List ByteArray} (h : Rise l) : (l.map tx).Nodup := by
  rw [List.nodup_iff_pairwise_ne]
  exact List.pairwise_map.2 (h.imp fun {a b} hab e => by rw [e] at hab; exact List.lt_irrefl _ hab)
/-- A map's keys: each once. -/
noncomputable def putK (l : List ByteArray) (s : ByteArray) : List ByteArray := open Classical in if s ∈ l then l else l ++ [s]
theorem putM_keys (k : ByteArray) : ∀ l : List (ByteArray × Bool), (putM .str .bool l k true).map (·.1) = putK (l.map (·.1)) k
  | [] => by unfold putK; rw [if_neg (by simp)]; rfl
  | p :: r => by
    unfold putM
    rw [show eqD .str k p.1 = eqS k p.1 from rfl]
    by_cases h : eqS k p.1 = true
    · have e := (eqS_iff _ _).1 h
      rw [if_pos h, List.map_cons, List.map_cons]
      unfold putK
      rw [if_pos (by rw [e]; exact List.mem_cons_self), e]
    · have hne : ¬ k = p.1 := fun e => h ((eqS_iff _ _).2 e)
      rw [if_neg h, List.map_cons, List.map_cons, putM_keys k r]
      unfold putK
      by_cases hm : k ∈ r.map (·.1)
      · rw [if_pos hm, if_pos (List.mem_cons_of_mem _ hm)]
      · rw [if_neg hm, if_neg (by rw [List.mem_cons]; rintro (h | h); exact hne h; exact hm h), List.cons_append]
noncomputable def onceL (ps : List ByteArray) : List ByteArray := ps.foldl putK []
theorem putK_nodup {l : List ByteArray} {s : ByteArray} (h : l.Nodup) : (putK l s).Nodup := by
  unfold putK
  split
  · exact h
  · rename_i hm
    rw [List.nodup_append]
    refine ⟨h, by simp, fun a ha b hb e => hm ?_⟩
    rw [List.mem_singleton] at hb
    rw [← hb, ← e]; exact ha
theorem putK_mem (l : List ByteArray) (s x : ByteArray) : x ∈ putK l s ↔ x = s ∨ x ∈ l := by
  unfold putK
  split
  · rename_i h
    exact ⟨.inr, fun h' => h'.elim (fun e => by rw [e]; exact h) id⟩
  · rw [List.mem_append, List.mem_singleton]; exact Or.comm
theorem onceL_snoc (ps : List ByteArray) (s : ByteArray) : onceL (ps ++ [s]) = putK (onceL ps) s := by unfold onceL; rw [List.foldl_append]; rfl
theorem onceL_is (ps : List ByteArray) : (onceL ps).Nodup ∧ ∀ x, x ∈ onceL ps ↔ x ∈ ps := by
  have : ∀ (ps l : List ByteArray), l.Nodup → (ps.foldl putK l).Nodup ∧ ∀ x, x ∈ ps.foldl putK l ↔ x ∈ ps ∨ x ∈ l := by
    intro ps
    induction ps with
    | nil => intro l h; exact ⟨h, by simp⟩
    | cons p ps ih =>
      intro l h
      obtain ⟨h1, h2⟩ := ih (putK l p) (putK_nodup h)
      refine ⟨h1, fun x => ?_⟩
      rw [List.foldl_cons, h2, putK_mem, List.mem_cons]
      constructor
      · rintro (h | h | h)
        · exact .inl (.inr h)
        · exact .inl (.inl h)
        · exact .inr h
      · rintro ((h | h) | h)
        · exact .inr (.inl h)
        · exact .inl h
        · exact .inr (.inr h)
  obtain ⟨h1, h2⟩ := this ps [] List.nodup_nil
  exact ⟨h1, fun x => by unfold onceL; rw [h2]; simp⟩
theorem onceL_len (ps : List ByteArray) : (onceL ps).length ≤ ps.length := by
  have : ∀ (ps l : List ByteArray), (ps.foldl putK l).length ≤ ps.length + l.length := by
    intro ps
    induction ps with
    | nil => intro l; simp
    | cons p ps ih =>
      intro l
      have := ih (putK l p)
      have h2 : (putK l p).length ≤ l.length + 1 := by unfold putK; split <;> simp
      simp only [List.foldl_cons, List.length_cons]; omega
  have := this ps []
  simpa [onceL] using this
theorem tx_inj {a b : ByteArray} (h : tx a = tx b) : a = b := B_ext h
/-- The keys, sorted. -/
theorem sort_once (ps : List ByteArray) : (((onceL ps).map tx).mergeSort fun x y => decide (x ≤ y)).map (fun l => (⟨l.toArray⟩ : ByteArray)) = riseL ps := by
  obtain ⟨h1, h2⟩ := onceL_is ps
  have hp : ((onceL ps).map tx).Perm ((riseL ps).map tx) := by
    refine (List.perm_ext_iff_of_nodup ?_ (rise_nodup (riseL_rise ps))).2 fun a => ?_
    · rw [List.nodup_iff_pairwise_ne] at h1 ⊢
      exact List.pairwise_map.2 (h1.imp fun {a b} hab e => hab (tx_inj e))
    · simp only [List.mem_map, h2, riseL_mem]
  have e : ((onceL ps).map tx).mergeSort (fun x y => decide (x ≤ y)) = (riseL ps).map tx := by
    refine (mergeSort_of_perm hp).trans (List.mergeSort_of_pairwise ?_)
    exact List.pairwise_map.2 ((riseL_rise ps).imp fun {a b} hab => by simp only [decide_eq_true_eq]; exact List.le_of_lt hab)
  rw [e, List.map_map]
  refine (List.map_congr_left fun a _ => ?_).trans (List.map_id _)
  show (⟨a.data.toList.toArray⟩ : ByteArray) = a
  cases a
  simp
end Go.Proofs.YtmmbedlegmbppaaDoor.R
