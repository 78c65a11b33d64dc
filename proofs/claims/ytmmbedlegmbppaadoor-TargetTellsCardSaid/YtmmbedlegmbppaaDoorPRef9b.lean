/- The document's normal targets are the program's. -/
import Derived.Test.YtmmbedlegmbppaaDoorPRef9
import Derived.Test.YtmmbedlegmbppaaDoorPRef9d
namespace Go.Proofs.YtmmbedlegmbppaaDoor.R
open Go Go.RowKit
set_option linter.unusedSimpArgs false
set_option linter.unusedVariables false
theorem tw_of (a b : Bs) (h : a.all fr = true) (hb : b = [] ∨ ∃ c r, b = c :: r ∧ fr c = false) : (a ++ b).takeWhile fr = a ∧ (a ++ b).dropWhile fr = b := by
  induction a with
  | nil =>
    rcases hb with rfl | ⟨c, r, rfl, hc⟩
    · exact ⟨rfl, rfl⟩
    · exact ⟨by rw [List.nil_append, List.takeWhile_cons, hc]; rfl, by rw [List.nil_append, List.dropWhile_cons, hc]; rfl⟩
  | cons c a ih =>
    rw [List.all_cons, Bool.and_eq_true] at h
    obtain ⟨g1, g2⟩ := ih h.2
    rw [List.cons_append, List.takeWhile_cons, List.dropWhile_cons, h.1]
    exact ⟨by rw [if_pos rfl, g1], by rw [if_pos rfl, g2]⟩
theorem r9whole (t : Bs) (ht : t.length ≤ 100000) (h7 : 7 ≤ t.length) (k : Nat) (hk : t.length + 1 < k) : ref09_Normal.l1 k (B t, 7) = ref09_Normal.j3 k (B ((t.drop 7).takeWhile fr), B ((t.drop 7).dropWhile fr)) := by
  unfold ref09_Normal.l1
  refine iter_eq (f := ref09_Normal.l1b k) (fun v => ∃ i : Nat, v = (B t, (i : Int)) ∧ 7 ≤ i ∧ i ≤ t.length ∧ ((t.take i).drop 7).all fr = true) (fun v => ((t.length : Int) + 1 - v.2).toNat) (fun _ => ref09_Normal.j3 k (B ((t.drop 7).takeWhile fr), B ((t.drop 7).dropWhile fr))) ?_ k _ ⟨7, rfl, Nat.le_refl _, h7, by rw [List.drop_of_length_le (by rw [List.length_take]; omega)]; rfl⟩ (by show ((t.length : Int) + 1 - 7).toNat < k; omega)
  rintro r _ ⟨i, rfl, h7i, hi, ha⟩ hr
  have stop : (t.drop i = [] ∨ ∃ c q, t.drop i = c :: q ∧ fr c = false) → ref09_Normal.j2 k r (B t, ((i : Int), false)) = ref09_Normal.j3 k (B ((t.drop 7).takeWhile fr), B ((t.drop 7).dropWhile fr)) := fun hs => by
    have he : t.drop 7 = (t.take i).drop 7 ++ t.drop i := by
      conv => lhs; rw [← List.take_append_drop i t]
      rw [List.drop_append, show 7 - (t.take i).length = 0 by rw [List.length_take]; omega, List.drop_zero]
    obtain ⟨e1, e2⟩ := tw_of _ _ ha hs
    rw [← he] at e1 e2
    rw [e1, e2]
    unfold ref09_Normal.j2
    simp only []
    rw [ifO_false, B_len, boundB_yes hi, show boundB 7 (i : Int) = true from boundB_yes (i := 7) h7i, boundB_yes (Nat.le_refl _), show andB true true = true from rfl, ifO_true, ifO_true, show cutS (B t) 7 (i : Int) = B ((t.take i).drop 7) from B_cut t 7 i, B_cut, List.take_length]
  have hfr : ∀ h : i < t.length, fr t[i] = true → ref09_Normal.j2 k r (B t, ((i : Int), true)) = ref09_Normal.j3 k (B ((t.drop 7).takeWhile fr), B ((t.drop 7).dropWhile fr)) := fun h hc => by
    unfold ref09_Normal.j2
    simp only []
    rw [ifO_true, next64 (by omega)]
    refine hr _ ⟨i + 1, rfl, by omega, h, ?_⟩ (by show ((t.length : Int) + 1 - ((i + 1 : Nat) : Int)).toNat < ((t.length : Int) + 1 - (i : Int)).toNat; omega)
    rw [List.take_add_one, List.getElem?_eq_getElem h, List.drop_append, List.all_append, ha, show 7 - (t.take i).length = 0 by rw [List.length_take]; omega]
    simp [hc]
  unfold ref09_Normal.l1b
  simp only []
  rw [B_len, ltI_nat]
  by_cases h : i < t.length
  · have hd : t.drop i = t[i] :: t.drop (i + 1) := List.drop_eq_getElem_cons h
    rw [decide_eq_true h, ifO_true, inB_yes h, ifO_true, ifO_true, B_at h, show neI (t[i].toNat : Int) 47 = decide (¬ t[i] = 47) from ne_byte _ 47, show neI (t[i].toNat : Int) 63 = decide (¬ t[i] = 63) from ne_byte _ 63]
    have hf : fr t[i] = (decide (t[i] ≠ 47) && decide (t[i] ≠ 63)) := rfl
    by_cases h1 : t[i] = 47
    · rw [decide_eq_false (by simp [h1]), ifO_false]
      exact stop (.inr ⟨_, _, hd, by rw [h1]; rfl⟩)
    · rw [decide_eq_true h1, ifO_true]
      by_cases h2 : t[i] = 63
      · rw [decide_eq_false (by simp [h2])]
        exact stop (.inr ⟨_, _, hd, by rw [h2]; rfl⟩)
      · rw [decide_eq_true h2]
        exact hfr h (by unfold fr; simp [h1, h2])
  · rw [decide_eq_false h, ifO_false]
    exact stop (.inl (List.drop_of_length_le (by omega)))
theorem tw_app (p : UInt8 → Bool) (a b : Bs) (h : ∀ c ∈ a, p c = true) : (a ++ b).takeWhile p = a ++ b.takeWhile p := by
  induction a with
  | nil => rfl
  | cons c a ih =>
    rw [List.cons_append, List.takeWhile_cons, h c (by simp), if_pos rfl, ih fun d hd => h d (by simp [hd])]
    rfl
def q63 (l : Bs) : Nat := (l.takeWhile fun c => decide (c ≠ 63)).length
theorem q63_parts (l : Bs) : parts63 l = (l.take (q63 l), l.drop (q63 l)) ∧ q63 l ≤ l.length := by
  unfold parts63 q63
  cases hc : cutAt 63 l with
  | none =>
    have h := cutAt_none hc
    have e : l.takeWhile (fun c => decide (c ≠ 63)) = l := by
      have := tw_app (fun c => decide (c ≠ 63)) l [] fun c hm => by simpa using h c hm
      simpa using this
    rw [e]
    simp
  | some p =>
    obtain ⟨a, b⟩ := p
    obtain ⟨c1, c2⟩ := cutAt_some hc
    have e : l.takeWhile (fun c => decide (c ≠ 63)) = a := by
      rw [c1, tw_app _ _ _ (fun c hm => by simpa using c2 c hm)]
      simp
    rw [e, c1]
    simp
theorem r9query (hb : Bs) (p : Bs) (hh : hb.length ≤ 100000) (hp : p.length ≤ 100000) (k : Nat) (hk : p.length + 10 < k) : ref09_Normal.l7 k (B hb, (B p, ((p.length : Int), subI .i64 (p.length : Int) 1))) = some (B (httpL ++ hb ++ (pathM (parts63 p).1 ++ (parts63 p).2)), 0) := by
  unfold ref09_Normal.l7
  refine iter_eq (f := ref09_Normal.l7b k) (fun v => ∃ m : Nat, v = (B hb, (B p, (((m + q63 (p.drop m) : Nat) : Int), (m : Int) - 1))) ∧ m ≤ p.length) (fun v => (v.2.2.2 + 1).toNat) (fun _ => some (B (httpL ++ hb ++ (pathM (parts63 p).1 ++ (parts63 p).2)), 0)) ?_ k _ ⟨p.length, by rw [List.drop_of_length_le (Nat.le_refl _), sub64 (by omega) (by omega)]; rfl, Nat.le_refl _⟩ (by show (subI .i64 (p.length : Int) 1 + 1).toNat < k; rw [sub64 (by omega) (by omega)]; omega)
  rintro r _ ⟨m, rfl, hm⟩ hr
  have nx : ∀ m', m = m' + 1 → ∀ at' : Int, at' = ((m' + q63 (p.drop m') : Nat) : Int) → ref09_Normal.j8 k r (B hb, (B p, (at', (m' : Int)))) = some (B (httpL ++ hb ++ (pathM (parts63 p).1 ++ (parts63 p).2)), 0) := fun m' hm' at' ha => by
    unfold ref09_Normal.j8
    simp only []
    rw [sub64 (by omega) (by omega), ha]
    exact hr _ ⟨m', rfl, by omega⟩ (by show ((m' : Int) - 1 + 1).toNat < ((m : Int) - 1 + 1).toNat; omega)
  unfold ref09_Normal.l7b
  simp only []
  cases m with
  | succ m =>
    have e : ((m + 1 : Nat) : Int) - 1 = (m : Int) := by omega
    rw [e, show leI 0 (m : Int) = true from by rw [show (0 : Int) = ((0 : Nat) : Int) from rfl, leI_nat]; simp, ifO_true, B_len, inB_yes (by omega), ifO_true, B_at (show m < p.length by omega), show eqI ((p[m]'(by omega)).toNat : Int) 63 = decide (p[m]'(by omega) = 63) from eq_byte _ 63]
    have hd : p.drop m = p[m]'(by omega) :: p.drop (m + 1) := List.drop_eq_getElem_cons (by omega)
    by_cases h : p[m]'(by omega) = 63
    · rw [decide_eq_true h, ifO_true]
      refine nx m rfl _ ?_
      unfold q63
      rw [hd, List.takeWhile_cons, decide_eq_false (by simp [h])]
      simp
    · rw [decide_eq_false h, ifO_false]
      refine nx m rfl _ ?_
      unfold q63
      rw [hd, List.takeWhile_cons, decide_eq_true h]
      simp only [if_true, List.length_cons]
      omega
  | zero =>
    obtain ⟨e1, e2⟩ := q63_parts p
    have hq := parts_len p
    have hdl := dotsM_len (parts63 p).1
    rw [List.drop_zero, Nat.zero_add, show leI 0 (((0 : Nat) : Int) - 1) = false from rfl, ifO_false, B_len, boundB_yes e2, show boundB 0 ((q63 p : Nat) : Int) = true from boundB_yes (i := 0) (Nat.zero_le _), show andB true true = true from rfl, ifO_true]
    rw [show cutS (B p) 0 ((q63 p : Nat) : Int) = B ((p.take (q63 p)).drop 0) from B_cut p 0 _, List.drop_zero]
    have f1 : p.take (q63 p) = (parts63 p).1 := by rw [e1]
    have f2 : p.drop (q63 p) = (parts63 p).2 := by rw [e1]
    rw [f1, r9dots _ (by omega) k (by omega), bindO_some, show (⟨#[]⟩ : ByteArray) = B [] from rfl, B_eq]
    have j10 : ∀ x : Bs, x.length ≤ 300000 → ref09_Normal.j10 k (B hb, (B p, (((q63 p : Nat) : Int), B x))) = some (B (httpL ++ hb ++ (x ++ (parts63 p).2)), 0) := fun x hx => by
      unfold ref09_Normal.j10
      simp only []
      rw [show (⟨#[104, 116, 116, 112, 58, 47, 47]⟩ : ByteArray) = B httpL from rfl]
      have hl : httpL.length = 7 := rfl
      simp only [B_len, B_cut, List.take_length, f2, B_fits, B_cat]
      rw [ifO_yes (by simp; omega), ifO_yes (by simp; omega), boundB_yes (Nat.le_refl _), boundB_yes e2, show andB true true = true from rfl, ifO_true, ifO_yes (by simp; omega)]
      simp
    unfold pathM
    by_cases h0 : dotsM (parts63 p).1 = []
    · rw [decide_eq_true h0, ifO_true, if_pos h0]
      exact j10 [47] (by simp)
    · rw [decide_eq_false h0, ifO_false, if_neg h0]
      exact j10 _ (by omega)
theorem r9normal (h t : Bs) (hh : h.length ≤ 10000) (ht : t.length ≤ 10000) (k : Nat) (hk : h.length + t.length + 30 < k) : ref09_Normal.f k (B h, B t) = some (normR h t) := by
  have key : ∀ a b : Bs, a.length ≤ h.length + t.length → b.length ≤ t.length → ref09_Normal.j3 k (B a, B b) = some (match hostM a, pctM b with
      | some h', some p => if pathOK b = true then (B (httpL ++ h' ++ (pathM (parts63 p).1 ++ (parts63 p).2)), 0) else (B [], 2)
      | _, _ => (B [], 2)) := by
    intro a b ha hb
    unfold ref09_Normal.j3
    simp only []
    rw [r9host a (by omega) k (by omega), bindO_some, r9pct b (by omega) k (by omega), bindO_some]
    have bad : ∀ x y : ByteArray, ref09_Normal.j6 k (x, (y, true)) = some (B [], 2) := fun _ _ => rfl
    unfold hostR pctR
    cases hm : hostM a with
    | none =>
      dsimp only
      rw [show neI 2 0 = true from rfl, ifO_true, bad]
    | some h' =>
      obtain ⟨s1, s2, s3, s4⟩ := host_stays hm
      dsimp only
      rw [show neI 0 0 = false from rfl, ifO_false]
      cases hp : pctM b with
      | none =>
        dsimp only
        rw [show neI 2 0 = true from rfl, ifO_true, bad]
      | some p =>
        obtain ⟨p1, p2⟩ := pn_of b.length (Nat.le_refl _) hp
        dsimp only
        rw [show neI 0 0 = false from rfl, ifO_false]
        have good : ref09_Normal.j6 k (B h', (B p, false)) = some (B (httpL ++ h' ++ (pathM (parts63 p).1 ++ (parts63 p).2)), 0) := by
          unfold ref09_Normal.j6
          simp only []
          rw [ifO_false, B_len]
          exact r9query h' p (by omega) (by omega) k (by omega)
        rw [show (⟨#[]⟩ : ByteArray) = B [] from rfl, B_eq]
        cases b with
        | nil =>
          rw [decide_eq_true rfl, ifO_no (show notB true = false from rfl), good, if_pos (show pathOK [] = true from rfl)]
        | cons c b =>
          rw [decide_eq_false (by simp), ifO_yes (show notB false = true from rfl), B_len, ifO_yes (show inB 0 _ = true from inB_yes (i := 0) (by simp)), show btI (B (c :: b)) 0 = (c.toNat : Int) from rfl]
          rw [show neI (c.toNat : Int) 47 = decide (¬ c = 47) from ne_byte c 47, show neI (c.toNat : Int) 63 = decide (¬ c = 63) from ne_byte c 63, ifO_yes (show inB 0 _ = true from inB_yes (i := 0) (by simp))]
          by_cases h47 : c = 47
          · rw [decide_eq_false (by simp [h47]), ifO_false, good, if_pos (by simp [pathOK, h47])]
          · rw [decide_eq_true h47, ifO_true]
            by_cases h63 : c = 63
            · rw [decide_eq_false (by simp [h63]), good, if_pos (by simp [pathOK, h63])]
            · rw [decide_eq_true h63, bad, if_neg (by simp [pathOK, h47, h63])]
  have fin : ∀ a b : Bs, wholeM h t = (a, b) → (some (match hostM a, pctM b with
      | some h', some p => if pathOK b = true then (B (httpL ++ h' ++ (pathM (parts63 p).1 ++ (parts63 p).2)), (0 : Int)) else (B [], 2)
      | _, _ => (B [], 2)) : Option (ByteArray × Int)) = some (normR h t) := by
    intro a b hw
    unfold normR normM
    rw [hw]
    dsimp only
    cases hostM a with
    | none => rfl
    | some h' =>
      cases pctM b with
      | none => rfl
      | some p =>
        dsimp only
        by_cases hok : pathOK b = true
        · rw [if_pos hok, if_pos hok]
        · rw [if_neg hok, if_neg hok]
  obtain ⟨w1, w2⟩ := whole_len h t
  unfold ref09_Normal.f
  simp only []
  rw [B_len, show (7 : Int) = ((7 : Nat) : Int) from rfl, leI_nat]
  by_cases h7 : 7 ≤ t.length
  · rw [decide_eq_true h7, ifO_true, boundB_yes h7, show boundB 0 ((7 : Nat) : Int) = true from rfl, show andB true true = true from rfl, ifO_true]
    rw [show cutS (B t) 0 ((7 : Nat) : Int) = B (t.take 7) from B_cut t 0 7, r1lower _ (by rw [List.length_take]; omega) k (by rw [List.length_take]; omega), bindO_some, show (⟨#[104, 116, 116, 112, 58, 47, 47]⟩ : ByteArray) = B httpL from rfl, B_eq]
    by_cases he : lowL (t.take 7) = httpL
    · have hw : wholeM h t = ((t.drop 7).takeWhile fr, (t.drop 7).dropWhile fr) := by unfold wholeM; rw [if_pos he]
      rw [hw] at w1 w2
      rw [decide_eq_true he, ifO_true]
      refine (r9whole t (by omega) h7 k (by omega)).trans ?_
      rw [key _ _ w1 w2]
      exact fin _ _ hw
    · have hw : wholeM h t = (h, t) := by unfold wholeM; rw [if_neg he]
      rw [decide_eq_false he, ifO_false, key h t (by omega) (by omega)]
      exact fin _ _ hw
  · have hw : wholeM h t = (h, t) := by
      unfold wholeM
      rw [if_neg]
      intro h
      have := congrArg List.length h
      unfold lowL at this
      rw [List.length_map, List.length_take] at this
      simp [httpL] at this
      omega
    rw [decide_eq_false h7, ifO_false, key h t (by omega) (by omega)]
    exact fin _ _ hw
end Go.Proofs.YtmmbedlegmbppaaDoor.R
