/- Paths: parts between slashes; without those that are dots. Plain lists of bytes alone. -/
import Derived.Test.YtmmbedlegmbppaaDoorR25
namespace Go.Proofs.YtmmbedlegmbppaaDoor.R
open Go Go.RowKit
set_option linter.unusedSimpArgs false
set_option linter.unusedVariables false
/-- The parts between bytes c. -/
def splitC (c : UInt8) : Bs → List Bs
  | [] => [[]]
  | d :: r => if d = c then [] :: splitC c r else match splitC c r with
    | p :: ps => (d :: p) :: ps
    | [] => [[d]]
def joinB (c : UInt8) : List Bs → Bs
  | [] => []
  | [p] => p
  | p :: q :: ps => p ++ c :: joinB c (q :: ps)
theorem splitC_ne (c : UInt8) (l : Bs) : splitC c l ≠ [] := by
  cases l with
  | nil => simp [splitC]
  | cons d r =>
    simp only [splitC]
    split
    · simp
    · split <;> simp
theorem splitC_app (c : UInt8) (r : Bs) : ∀ p : Bs, (∀ d ∈ p, d ≠ c) → splitC c (p ++ c :: r) = p :: splitC c r
  | [], _ => by simp [splitC]
  | d :: p, h => by
    have hd := h d (by simp)
    have ih := splitC_app c r p (fun e he => h e (by simp [he]))
    rw [List.cons_append]
    simp only [splitC]
    rw [if_neg hd, ih]
theorem splitC_one (c : UInt8) : ∀ p : Bs, (∀ d ∈ p, d ≠ c) → splitC c p = [p]
  | [], _ => rfl
  | d :: p, h => by
    simp only [splitC]
    rw [if_neg (h d (by simp)), splitC_one c p (fun e he => h e (by simp [he]))]
theorem splitC_free (c : UInt8) : ∀ (l : Bs) (p : Bs), p ∈ splitC c l → ∀ d ∈ p, d ≠ c
  | [], p, hp, d, hd => by
    simp [splitC] at hp
    subst hp
    cases hd
  | e :: l, p, hp, d, hd => by
    simp only [splitC] at hp
    have ih := splitC_free c l
    split at hp
    · rcases List.mem_cons.1 hp with rfl | hp
      · cases hd
      · exact ih p hp d hd
    · rename_i he
      split at hp
      · rename_i q qs hq
        rw [hq] at ih
        rcases List.mem_cons.1 hp with rfl | hp
        · rcases List.mem_cons.1 hd with rfl | hd
          · exact he
          · exact ih q (by simp) d hd
        · exact ih p (by simp [hp]) d hd
      · simp at hp
        subst hp
        simp at hd
        subst hd
        exact he
theorem split_join (c : UInt8) : ∀ ps : List Bs, ps ≠ [] → (∀ p ∈ ps, ∀ d ∈ p, d ≠ c) → splitC c (joinB c ps) = ps
  | [], h, _ => absurd rfl h
  | [p], _, h => splitC_one c p (h p (by simp))
  | p :: q :: ps, _, h => by
    show splitC c (p ++ c :: joinB c (q :: ps)) = _
    rw [splitC_app c _ p (h p (by simp)), split_join c (q :: ps) (by simp) (fun r hr => h r (by simp [hr]))]
theorem join_split (c : UInt8) : ∀ l : Bs, joinB c (splitC c l) = l
  | [] => rfl
  | d :: l => by
    have ih := join_split c l
    simp only [splitC]
    by_cases h : d = c
    · rw [if_pos h]
      cases hs : splitC c l with
      | nil => exact absurd hs (splitC_ne c l)
      | cons q qs =>
        rw [hs] at ih
        show [] ++ c :: joinB c (q :: qs) = _
        rw [ih, h]; rfl
    · rw [if_neg h]
      cases hs : splitC c l with
      | nil => exact absurd hs (splitC_ne c l)
      | cons q qs =>
        rw [hs] at ih
        dsimp only
        rw [← ih]
        cases qs <;> rfl
def dotB (p : Bs) : Bool := decide (p = [46]) || decide (p = [46, 46])
def stepD (kept : List Bs) (p : Bs) : List Bs := if p = [46, 46] then kept.dropLast else if p = [46] then kept else kept ++ [p]
def keptM (ps : List Bs) : List Bs := ps.foldl stepD [] ++ (if dotB (ps.getLastD []) = true then [[]] else [])
/-- A path without parts that are dots. -/
def dotsM (l : Bs) : Bs := match l with
  | [] => []
  | c :: b => if c = 47 then 47 :: joinB 47 (keptM (splitC 47 b)) else c :: b
theorem stepD_mem (kept : List Bs) (p q : Bs) (h : q ∈ stepD kept p) : q ∈ kept ∨ (q = p ∧ dotB p = false) := by
  unfold stepD at h
  split at h
  · exact .inl (List.dropLast_subset _ h)
  · rename_i h1
    split at h
    · exact .inl h
    · rename_i h2
      rcases List.mem_append.1 h with h | h
      · exact .inl h
      · exact .inr ⟨List.mem_singleton.1 h, by unfold dotB; simp [h1, h2]⟩
theorem foldD_mem : ∀ (ps kept : List Bs) (q : Bs), q ∈ ps.foldl stepD kept → q ∈ kept ∨ (q ∈ ps ∧ dotB q = false)
  | [], kept, q, h => .inl h
  | p :: ps, kept, q, h => by
    rw [List.foldl_cons] at h
    rcases foldD_mem ps _ q h with h | ⟨h1, h2⟩
    · rcases stepD_mem kept p q h with h | ⟨rfl, h2⟩
      · exact .inl h
      · exact .inr ⟨by simp, h2⟩
    · exact .inr ⟨by simp [h1], h2⟩
theorem dot_nil : dotB [] = false := by decide
theorem keptM_mem (ps : List Bs) (hps : ∀ p ∈ ps, ∀ d ∈ p, d ≠ (47 : UInt8)) (q : Bs) (h : q ∈ keptM ps) : dotB q = false ∧ ∀ d ∈ q, d ≠ (47 : UInt8) := by
  unfold keptM at h
  rcases List.mem_append.1 h with h | h
  · rcases foldD_mem ps [] q h with h | ⟨h1, h2⟩
    · cases h
    · exact ⟨h2, hps q h1⟩
  · split at h
    · rw [List.mem_singleton] at h
      subst h
      exact ⟨dot_nil, fun d hd => nomatch hd⟩
    · cases h
theorem foldD_plain : ∀ (ps kept : List Bs), (∀ p ∈ ps, dotB p = false) → ps.foldl stepD kept = kept ++ ps
  | [], kept, _ => by simp
  | p :: ps, kept, h => by
    have hp := h p (by simp)
    unfold dotB at hp
    rw [Bool.or_eq_false_iff, decide_eq_false_iff_not, decide_eq_false_iff_not] at hp
    rw [List.foldl_cons, show stepD kept p = kept ++ [p] by unfold stepD; rw [if_neg hp.2, if_neg hp.1], foldD_plain ps _ (fun q hq => h q (by simp [hq]))]
    simp
theorem getLastD_mem : ∀ (ps : List Bs), ps ≠ [] → ps.getLastD [] ∈ ps
  | [], h => absurd rfl h
  | p :: ps, _ => by rw [List.getLastD_cons]; cases ps with
    | nil => simp
    | cons q ps => rw [List.getLastD_eq_getLast?, List.getLast?_eq_some_getLast (by simp)]; simp only [Option.getD_some]; exact List.mem_cons_of_mem _ (List.getLast_mem _)
theorem keptM_plain (ps : List Bs) (h : ∀ p ∈ ps, dotB p = false) : keptM ps = ps := by
  unfold keptM
  rw [foldD_plain ps [] h, List.nil_append]
  by_cases hn : ps = []
  · subst hn; rfl
  · rw [if_neg (by rw [h _ (getLastD_mem ps hn)]; decide), List.append_nil]
theorem dotsM_slash (b : Bs) : dotsM (47 :: b) = 47 :: joinB 47 (keptM (splitC 47 b)) := by
  simp only [dotsM, if_true]
/-- What has no dots has none, and stays. -/
theorem dotsM_idem (l : Bs) : dotsM (dotsM l) = dotsM l := by
  cases l with
  | nil => rfl
  | cons c b =>
    by_cases h : c = 47
    · subst h
      rw [dotsM_slash, dotsM_slash]
      congr 1
      have hm := keptM_mem (splitC 47 b) (splitC_free 47 b)
      generalize keptM (splitC 47 b) = ks at hm
      by_cases hn : ks = []
      · subst hn; rfl
      · rw [split_join 47 ks hn (fun p hp => (hm p hp).2), keptM_plain ks (fun p hp => (hm p hp).1)]
    · have e : dotsM (c :: b) = c :: b := by simp only [dotsM]; rw [if_neg h]
      rw [e, e]
theorem getLastD_cons2 (p : Bs) (ps : List Bs) (h : ps ≠ []) : (p :: ps).getLastD [] = ps.getLastD [] := by
  cases ps with
  | nil => exact absurd rfl h
  | cons q ps => rw [List.getLastD_cons, List.getLastD_cons, List.getLastD_cons]
theorem keptM_dot (ps : List Bs) (h : ps ≠ []) : keptM ([46] :: ps) = keptM ps := by
  unfold keptM
  rw [getLastD_cons2 _ _ h, List.foldl_cons]
  rfl
theorem keptM_back (p : Bs) (hp : dotB p = false) (ps : List Bs) (h : ps ≠ []) : keptM (p :: [46, 46] :: ps) = keptM ps := by
  unfold keptM
  rw [getLastD_cons2 _ _ (by simp), getLastD_cons2 _ _ h, List.foldl_cons, List.foldl_cons]
  have e := foldD_plain [p] [] (by simpa using hp)
  rw [show stepD [] p = [p] from e]
  rfl
/-- A dot ahead, or a part and two dots, change nothing. -/
theorem dotsM_dot (b : Bs) : dotsM (47 :: 46 :: 47 :: b) = dotsM (47 :: b) := by
  rw [dotsM_slash, dotsM_slash, show (46 :: 47 :: b : Bs) = [46] ++ 47 :: b from rfl, splitC_app 47 b [46] (by decide), keptM_dot _ (splitC_ne 47 b)]
theorem dotsM_back (p b : Bs) (hp : dotB p = false) (hf : ∀ d ∈ p, d ≠ (47 : UInt8)) : dotsM (47 :: (p ++ 47 :: 46 :: 46 :: 47 :: b)) = dotsM (47 :: b) := by
  rw [dotsM_slash, dotsM_slash, splitC_app 47 _ p hf, show (46 :: 46 :: 47 :: b : Bs) = [46, 46] ++ 47 :: b from rfl, splitC_app 47 b [46, 46] (by decide), keptM_back p hp _ (splitC_ne 47 b)]
/-- Parts, each with a slash behind. -/
def catC (ps : List Bs) : Bs := ps.flatMap fun p => p ++ [47]
theorem join_cat : ∀ ps : List Bs, ps ≠ [] → joinB 47 ps ++ [47] = catC ps
  | [], h => absurd rfl h
  | [p], _ => by simp [joinB, catC]
  | p :: q :: ps, _ => by
    have ih := join_cat (q :: ps) (by simp)
    show p ++ 47 :: joinB 47 (q :: ps) ++ [47] = _
    rw [show catC (p :: q :: ps) = (p ++ [47]) ++ catC (q :: ps) from rfl, ← ih]
    simp
/-- Behind each slash but the last, a part begins. -/
theorem cat_part : ∀ (ps : List Bs), (∀ p ∈ ps, ∀ d ∈ p, d ≠ (47 : UInt8)) → ∀ i, i < (47 :: catC ps).length → (47 :: catC ps)[i]? = some 47 → ∃ j, (47 :: catC ps).drop (i + 1) = catC (ps.drop j)
  | ps, h, 0, _, _ => ⟨0, rfl⟩
  | [], h, i + 1, hi, _ => by simp [catC] at hi
  | p :: ps, h, i + 1, hi, hc => by
    have e : catC (p :: ps) = p ++ 47 :: catC ps := by
      show (p ++ [47]) ++ catC ps = _
      simp
    rw [e] at hi hc ⊢
    rw [List.getElem?_cons_succ] at hc
    rw [List.drop_succ_cons]
    by_cases hlt : i < p.length
    · rw [List.getElem?_append_left hlt] at hc
      exact absurd rfl (h p (by simp) 47 (List.mem_of_getElem? hc))
    · have hk : i = p.length + (i - p.length) := by omega
      rw [List.getElem?_append_right (by omega)] at hc
      have hl2 : i - p.length < (47 :: catC ps).length := (List.getElem?_eq_some_iff.1 hc).1
      obtain ⟨j, hj⟩ := cat_part ps (fun q hq => h q (by simp [hq])) (i - p.length) hl2 hc
      refine ⟨j + 1, ?_⟩
      rw [show i + 1 = p.length + (i - p.length + 1) by omega, List.drop_append, List.drop_succ_cons]
      rw [List.drop_eq_nil_of_le (by omega), List.nil_append, show p.length + (i - p.length + 1) - p.length = i - p.length + 1 by omega]
      exact hj
/-- No part of a path without dots is one: no slash, a dot, a slash; nor two dots. -/
theorem dots_none (ps : List Bs) (h : ∀ p ∈ ps, dotB p = false ∧ ∀ d ∈ p, d ≠ (47 : UInt8)) (i : Nat) (h0 : (47 :: catC ps)[i]? = some 47) (h1 : (47 :: catC ps)[i + 1]? = some 46) :
    (47 :: catC ps)[i + 2]? ≠ some 47 ∧ ((47 :: catC ps)[i + 2]? = some 46 → (47 :: catC ps)[i + 3]? ≠ some 47) := by
  have hi := (List.getElem?_eq_some_iff.1 h0).1
  obtain ⟨j, hj⟩ := cat_part ps (fun p hp => (h p hp).2) i hi h0
  have g : ∀ m, (47 :: catC ps)[i + 1 + m]? = (catC (ps.drop j))[m]? := fun m => by rw [← List.getElem?_drop, hj]
  rw [show i + 1 = i + 1 + 0 from rfl, g] at h1
  rw [show i + 2 = i + 1 + 1 from rfl, show i + 3 = i + 1 + 2 from rfl, g, g]
  have hm : ∀ p ∈ ps.drop j, dotB p = false ∧ ∀ d ∈ p, d ≠ (47 : UInt8) := fun p hp => h p (List.mem_of_mem_drop hp)
  generalize ps.drop j = qs at *
  cases qs with
  | nil => simp [catC] at h1
  | cons p qs =>
    obtain ⟨hp, hf⟩ := hm p (by simp)
    rw [show catC (p :: qs) = p ++ 47 :: catC qs by show (p ++ [47]) ++ catC qs = _; simp] at h1 ⊢
    match p, hp, hf with
    | [], _, _ => simp at h1
    | [a], hp, hf =>
      simp at h1
      subst h1
      exact absurd hp (by decide)
    | [a, b], hp, hf =>
      simp at h1
      subst h1
      refine ⟨?_, ?_⟩
      · simp
        exact hf b (by simp)
      · simp
        intro hb
        subst hb
        exact absurd hp (by decide)
    | a :: b :: c :: r, hp, hf =>
      refine ⟨?_, fun _ => ?_⟩
      · simp
        exact hf b (by simp)
      · simp
        exact hf c (by simp)
end Go.Proofs.YtmmbedlegmbppaaDoor.R
