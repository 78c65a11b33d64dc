/- target.Normal, told plainly; what is normal stays. -/
import Derived.Test.YtmmbedlegmbppaaDoorPPct
import Derived.Test.YtmmbedlegmbppaaDoorPDots2
namespace Go.Proofs.YtmmbedlegmbppaaDoor.R
open Go Go.RowKit
set_option linter.unusedSimpArgs false
set_option linter.unusedVariables false
def httpL : Bs := [104, 116, 116, 112, 58, 47, 47]
def fr (c : UInt8) : Bool := decide (c ≠ 47) && decide (c ≠ 63)
theorem any_cut : ∀ l : Bs, (l.all fr = true ∧ Lib.indexAny l [47, 63] = -1) ∨ (∃ c r, l.dropWhile fr = c :: r ∧ (c = 47 ∨ c = 63) ∧ Lib.indexAny l [47, 63] = ((l.takeWhile fr).length : Int))
  | [] => .inl ⟨rfl, rfl⟩
  | c :: l => by
    have hcon : ([47, 63] : Bs).contains c = !fr c := by
      have := byte_all (fun c => ([47, 63] : Bs).contains c == !fr c) (by decide +kernel) c
      exact eq_of_beq this
    cases hc : fr c with
    | false =>
      refine .inr ⟨c, l, by rw [List.dropWhile_cons, hc]; rfl, ?_, ?_⟩
      · unfold fr at hc
        by_cases h : c = 47
        · exact .inl h
        · exact .inr (by simpa [h] using hc)
      · rw [List.takeWhile_cons, hc, Lib.indexAny, hcon, hc]; rfl
    | true =>
      rcases any_cut l with ⟨h1, h2⟩ | ⟨d, r, h1, h2, h3⟩
      · exact .inl ⟨by rw [List.all_cons, hc, h1]; rfl, by rw [Lib.indexAny, hcon, hc, h2]; rfl⟩
      · refine .inr ⟨d, r, by rw [List.dropWhile_cons, hc]; exact h1, h2, ?_⟩
        rw [List.takeWhile_cons, hc, Lib.indexAny, hcon, hc, h3]
        have hne : ¬ (((l.takeWhile fr).length : Int) = -1) := by omega
        simp [hne]
def wholeM (h t : Bs) : Bs × Bs := if lowL (t.take 7) = httpL then ((t.drop 7).takeWhile fr, (t.drop 7).dropWhile fr) else (h, t)
theorem take_all_fr {l : Bs} (h : l.all fr = true) : l.takeWhile fr = l ∧ l.dropWhile fr = [] := by
  induction l with
  | nil => exact ⟨rfl, rfl⟩
  | cons c l ih =>
    rw [List.all_cons, Bool.and_eq_true] at h
    obtain ⟨g1, g2⟩ := ih h.2
    rw [List.takeWhile_cons, List.dropWhile_cons, h.1]
    exact ⟨by rw [if_pos rfl, g1], by rw [if_pos rfl, g2]⟩
theorem tw_dw (l : Bs) : l.takeWhile fr ++ l.dropWhile fr = l := List.takeWhile_append_dropWhile
theorem whole_is (h t : Bs) (ht : t.length ≤ 1000000) (k : Nat) : target_whole.f k (B h, B t) = some (B (wholeM h t).1, B (wholeM h t).2) := by
  unfold target_whole.f wholeM
  simp only []
  rw [B_len, show (7 : Int) = ((7 : Nat) : Int) from rfl, ltI_nat]
  by_cases h7 : t.length < 7
  · rw [decide_eq_true h7, ifO_true, if_neg]
    intro h
    have := congrArg List.length h
    unfold lowL at this
    rw [List.length_map, List.length_take] at this
    simp [httpL] at this
    omega
  rw [decide_eq_false h7, ifO_false, boundB_yes (by omega), show boundB 0 ((7 : Nat) : Int) = true from rfl, show andB true true = true from rfl, ifO_true]
  rw [show cutS (B t) 0 ((7 : Nat) : Int) = B (t.take 7) from B_cut t 0 7, lower_is _ (by rw [List.length_take]; omega), bindO_some, show (⟨#[104, 116, 116, 112, 58, 47, 47]⟩ : ByteArray) = B httpL from rfl, B_eq]
  by_cases hh : lowL (t.take 7) = httpL
  · rw [decide_eq_true hh, ifO_no (show notB true = false from rfl), if_pos hh, boundB_yes (Nat.le_refl _), show andB true true = true from rfl, ifO_true, B_cut, List.take_length]
    generalize hr : t.drop 7 = r
    have hrl : r.length ≤ 1000000 := by rw [← hr, List.length_drop]; omega
    have hx : x_IndexAny.f k (B r, (⟨#[47, 63]⟩ : ByteArray)) = some (Lib.indexAny r [47, 63]) := by
      unfold x_IndexAny.f
      rw [if_pos ⟨rfl, rfl, by rw [B_size]; omega⟩, B_data]
    rw [hx, bindO_some]
    rcases any_cut r with ⟨h1, h2⟩ | ⟨c, q, h1, h2, h3⟩
    · obtain ⟨e1, e2⟩ := take_all_fr h1
      rw [h2, show leI 0 (-1) = false from rfl, ifO_false, e1, e2]
      rfl
    · have hl : (r.takeWhile fr).length + (r.dropWhile fr).length = r.length := by rw [← List.length_append, tw_dw]
      have e1 : r.take (r.takeWhile fr).length = r.takeWhile fr := by
        conv => lhs; rw [← tw_dw r]
        rw [List.takeWhile_append_dropWhile]
        exact List.prefix_iff_eq_take.1 (List.takeWhile_prefix _) |>.symm
      have e2 : r.drop (r.takeWhile fr).length = r.dropWhile fr := by
        have := tw_dw r
        generalize r.takeWhile fr = a at *
        generalize r.dropWhile fr = b at *
        subst this
        rw [List.drop_left' rfl]
      rw [h3, show leI 0 ((r.takeWhile fr).length : Int) = true from by rw [show (0 : Int) = ((0 : Nat) : Int) from rfl, leI_nat]; simp, ifO_true]
      rw [B_len, boundB_yes (by omega), show boundB 0 ((r.takeWhile fr).length : Int) = true from boundB_yes (i := 0) (Nat.zero_le _), boundB_yes (Nat.le_refl _), show andB true true = true from rfl, ifO_true, ifO_true]
      rw [show cutS (B r) 0 ((r.takeWhile fr).length : Int) = B ((r.take (r.takeWhile fr).length).drop 0) from B_cut r 0 _, B_cut, List.take_length, List.drop_zero, e1, e2]
  · rw [decide_eq_false hh, ifO_yes (show notB false = true from rfl), if_neg hh]
def parts63 (l : Bs) : Bs × Bs := match cutAt 63 l with
  | some (a, b) => (a, 63 :: b)
  | none => (l, [])
def pathM (p : Bs) : Bs := if dotsM p = [] then [47] else dotsM p
def pathOK (t : Bs) : Bool := match t with
  | [] => true
  | c :: _ => decide (c = 47) || decide (c = 63)
/-- A target, as it is told in one way. -/
def normM (h t : Bs) : Option Bs := match hostM (wholeM h t).1, pctM (wholeM h t).2 with
  | some h', some p => if pathOK (wholeM h t).2 = true then some (httpL ++ h' ++ (pathM (parts63 p).1 ++ (parts63 p).2)) else none
  | _, _ => none
def normR (h t : Bs) : ByteArray × Int := match normM h t with
  | some n => (B n, 0)
  | none => (B [], 2)
theorem parts_len (l : Bs) : (parts63 l).1.length + (parts63 l).2.length = l.length := by
  unfold parts63
  cases h : cutAt 63 l with
  | none => simp
  | some p =>
    obtain ⟨a, b⟩ := p
    have := congrArg List.length (cutAt_some h).1
    simp at this ⊢
    omega
theorem dotsM_len (b : Bs) : (dotsM b).length ≤ b.length + 2 := by
  cases b with
  | nil => simp [dotsM]
  | cons c b =>
    by_cases h : c = 47
    · subst h
      rw [dotsM_slash]
      have htot := tot_kept (splitC 47 b)
      rw [tot_split] at htot
      have hj := joinB_tot (keptM (splitC 47 b))
      rw [List.length_cons, List.length_cons]
      omega
    · simp only [dotsM]; rw [if_neg h]; omega
theorem whole_len (h t : Bs) : (wholeM h t).1.length ≤ h.length + t.length ∧ (wholeM h t).2.length ≤ t.length := by
  unfold wholeM
  split
  · have h1 : ((t.drop 7).takeWhile fr).length + ((t.drop 7).dropWhile fr).length = (t.drop 7).length := by rw [← List.length_append, tw_dw]
    rw [List.length_drop] at h1
    dsimp only
    omega
  · dsimp only; omega
theorem normal_is (h t : Bs) (hh : h.length ≤ 100000) (ht : t.length ≤ 100000) (k : Nat) (hk : h.length + t.length + 10 < k) : target_Normal.f k (B h, B t) = some (normR h t) := by
  obtain ⟨w1, w2⟩ := whole_len h t
  unfold target_Normal.f
  simp only []
  rw [whole_is h t (by omega), bindO_some]
  dsimp only
  rw [host_is _ (by omega) k (by omega), bindO_some]
  unfold normR normM
  generalize hw1 : (wholeM h t).1 = a at *
  generalize hw2 : (wholeM h t).2 = b at *
  unfold hostR
  cases hm : hostM a with
  | none => rfl
  | some h' =>
    obtain ⟨s1, s2, s3, s4⟩ := host_stays hm
    dsimp only
    rw [show neI 0 0 = false from rfl, ifO_false, pct_is b (by omega) k (by omega), bindO_some]
    unfold pctR
    cases hp : pctM b with
    | none => rfl
    | some p =>
      obtain ⟨p1, p2⟩ := pn_of b.length (Nat.le_refl _) hp
      dsimp only
      rw [show neI 0 0 = false from rfl, ifO_false]
      have bad : target_Normal.j3 k (B h', (B p, true)) = some (B [], 2) := rfl
      have hq := parts_len p
      have hdl := dotsM_len (parts63 p).1
      have j8 : ∀ x : Bs, x.length ≤ 500000 → target_Normal.j8 k (B h', B x) = some (B (httpL ++ h' ++ x), 0) := by
        intro x hx
        unfold target_Normal.j8
        simp only []
        rw [show (⟨#[104, 116, 116, 112, 58, 47, 47]⟩ : ByteArray) = B httpL from rfl]
        have hl : httpL.length = 7 := rfl
        simp only [B_fits, B_cat]
        rw [ifO_yes (by simp; omega), ifO_yes (by simp; omega)]
      have good : target_Normal.j3 k (B h', (B p, false)) = some (B (httpL ++ h' ++ (pathM (parts63 p).1 ++ (parts63 p).2)), 0) := by
        have dts : ∀ (q : Bs) (qs : ByteArray) (is : Bool), q.length ≤ p.length → target_Normal.j5 k (B h', (B q, (qs, is))) = target_Normal.j7 k (B h', (B (pathM q), (qs, is))) := by
          intro q qs is hql
          unfold target_Normal.j5
          simp only []
          rw [dots_is k q (by omega) (by omega), bindO_some, show (⟨#[]⟩ : ByteArray) = B [] from rfl, show (⟨#[47]⟩ : ByteArray) = B [47] from rfl, B_eq]
          unfold pathM
          by_cases h0 : dotsM q = []
          · rw [decide_eq_true h0, ifO_true, if_pos h0]
          · rw [decide_eq_false h0, ifO_false, if_neg h0]
        have hpm : ∀ q : Bs, q.length ≤ p.length → (pathM q).length ≤ p.length + 3 := fun q hql => by
          have := dotsM_len q
          unfold pathM
          split
          · simp
          · omega
        unfold target_Normal.j3 x_Index.f
        simp only [B_data, show (⟨#[63]⟩ : ByteArray) = B [63] from rfl]
        rw [ifO_false, index_is]
        unfold parts63
        cases hc : cutAt 63 p with
        | none =>
          rw [bindO_some, show leI 0 (-1) = false from rfl, ifO_false, dts p _ _ (Nat.le_refl _)]
          unfold target_Normal.j7
          simp only []
          rw [ifO_false, j8 _ (by have := hpm p (Nat.le_refl _); omega), List.append_nil]
        | some ab =>
          obtain ⟨x, y⟩ := ab
          obtain ⟨c1, c2⟩ := cutAt_some hc
          have hlen : p.length = x.length + (y.length + 1) := by rw [c1]; simp
          dsimp only
          rw [bindO_some, leD, decide_eq_true (by omega), ifO_true, show lenS (B [63]) = 1 from rfl, B_len, next64 (by omega), boundB_yes (by omega), show boundB 0 (x.length : Int) = true from boundB_yes (i := 0) (by omega), boundB_yes (Nat.le_refl _), boundB_yes (by omega), show andB true true = true from rfl, ifO_true, ifO_true]
          rw [show cutS (B p) 0 (x.length : Int) = B ((p.take x.length).drop 0) from B_cut p 0 x.length, B_cut, List.drop_zero, List.take_of_length_le (Nat.le_refl p.length)]
          have e1 : p.take x.length = x := by rw [c1, List.take_left' rfl]
          have e2 : p.drop (x.length + 1) = y := by rw [c1, show x ++ 63 :: y = (x ++ [63]) ++ y by simp, List.drop_left' (by simp)]
          rw [e1, e2, dts x _ _ (by omega)]
          have hx3 := hpm x (by omega)
          unfold target_Normal.j7
          simp only []
          rw [ifO_true, show (⟨#[63]⟩ : ByteArray) = B [63] from rfl]
          simp only [B_fits, B_cat]
          rw [ifO_yes (by simp; omega), ifO_yes (by simp; omega), j8 _ (by simp; omega)]
          rfl
      rw [show (⟨#[]⟩ : ByteArray) = B [] from rfl, B_eq]
      cases b with
      | nil =>
        rw [decide_eq_true rfl, ifO_no (show notB true = false from rfl), good, if_pos (show pathOK [] = true from rfl)]
      | cons c b =>
        rw [decide_eq_false (by simp), ifO_yes (show notB false = true from rfl), B_len, ifO_yes (show inB 0 _ = true from inB_yes (i := 0) (by simp)), show btI (B (c :: b)) 0 = (c.toNat : Int) from rfl]
        rw [show neI (c.toNat : Int) 47 = decide (¬ c = 47) from ne_byte c 47, show neI (c.toNat : Int) 63 = decide (¬ c = 63) from ne_byte c 63, ifO_yes (show inB 0 _ = true from inB_yes (i := 0) (by simp))]
        by_cases h47 : c = 47
        · rw [decide_eq_false (by simp [h47]), ifO_false, good, if_pos (by simp [pathOK, h47])]
        · rw [decide_eq_true h47, ifO_true]
          by_cases h63 : c = 63
          · rw [decide_eq_false (by simp [h63]), good, if_pos (by simp [pathOK, h63])]
          · rw [decide_eq_true h63, bad, if_neg (by simp [pathOK, h47, h63])]
/-! ### what is normal stays -/
theorem pn_parts : ∀ (m : Nat) (l : Bs), l.length ≤ m → PN l → ∀ p ∈ splitC 47 l, PN p
  | m, l, hm, hl, p, hp => by
    rcases index_split l with ⟨h1, _⟩ | ⟨a, r, h1, h2, _⟩
    · rw [h1, List.mem_singleton] at hp
      subst hp; exact hl
    · obtain ⟨g1, g2⟩ := hl.split a r 47 (.inl rfl) h1
      rw [h1, splitC_app 47 r a h2] at hp
      rcases List.mem_cons.1 hp with rfl | hp
      · exact g1
      · have hlen := congrArg List.length h1
        simp at hlen
        match m, hm with
        | 0, hm => omega
        | m + 1, hm => exact pn_parts m r (by omega) g2 p hp
theorem pn_join : ∀ ks : List Bs, (∀ p ∈ ks, PN p) → PN (joinB 47 ks)
  | [], _ => .nil
  | [p], h => h p (by simp)
  | p :: q :: r, h => (h p (by simp)).app (.one 47 _ (by decide) (by decide) (pn_join (q :: r) fun x hx => h x (by simp [hx])))
theorem no63_join : ∀ ks : List Bs, (∀ p ∈ ks, ∀ c ∈ p, c ≠ (63 : UInt8)) → ∀ c ∈ joinB 47 ks, c ≠ 63
  | [], _, c, hc => by cases hc
  | [p], h, c, hc => h p (by simp) c hc
  | p :: q :: r, h, c, hc => by
    rcases List.mem_append.1 hc with hc | hc
    · exact h p (by simp) c hc
    · rcases List.mem_cons.1 hc with rfl | hc
      · decide
      · exact no63_join (q :: r) (fun x hx => h x (by simp [hx])) c hc
theorem split_sub (l : Bs) : ∀ p ∈ splitC 47 l, ∀ c ∈ p, c ∈ l := by
  induction l with
  | nil => intro p hp c hc; simp [splitC] at hp; subst hp; cases hc
  | cons d l ih =>
    intro p hp c hc
    simp only [splitC] at hp
    split at hp
    · rcases List.mem_cons.1 hp with rfl | hp
      · cases hc
      · exact List.mem_cons_of_mem _ (ih p hp c hc)
    · split at hp
      · rename_i q qs hq
        rw [hq] at ih
        rcases List.mem_cons.1 hp with rfl | hp
        · rcases List.mem_cons.1 hc with rfl | hc
          · exact List.mem_cons_self
          · exact List.mem_cons_of_mem _ (ih q (by simp) c hc)
        · exact List.mem_cons_of_mem _ (ih p (by simp [hp]) c hc)
      · rw [List.mem_singleton] at hp
        subst hp
        rw [List.mem_singleton] at hc
        subst hc
        exact List.mem_cons_self
theorem kept_sub (ps : List Bs) (q : Bs) (h : q ∈ keptM ps) : q ∈ ps ∨ q = [] := by
  unfold keptM at h
  rcases List.mem_append.1 h with h | h
  · rcases foldD_mem ps [] q h with h | ⟨h1, _⟩
    · cases h
    · exact .inl h1
  · split at h
    · exact .inr (List.mem_singleton.1 h)
    · cases h
theorem path_ok (q : Bs) (h1 : PN q) (h2 : ∀ c ∈ q, c ≠ (63 : UInt8)) (h3 : q = [] ∨ ∃ b, q = 47 :: b) : ∃ P, pathM q = 47 :: P ∧ PN (47 :: P) ∧ (∀ c ∈ 47 :: P, c ≠ (63 : UInt8)) ∧ pathM (47 :: P) = 47 :: P := by
  rcases h3 with rfl | ⟨b, rfl⟩
  · exact ⟨[], rfl, .one 47 [] (by decide) (by decide) .nil, by decide, by decide⟩
  · have e : pathM (47 :: b) = dotsM (47 :: b) := by unfold pathM; rw [if_neg (by rw [dotsM_slash]; simp)]
    have hb : PN b := (h1.split [] b 47 (.inl rfl) rfl).2
    refine ⟨joinB 47 (keptM (splitC 47 b)), by rw [e, dotsM_slash], ?_, ?_, ?_⟩
    · refine .one 47 _ (by decide) (by decide) (pn_join _ fun p hp => ?_)
      rcases kept_sub _ p hp with hp | rfl
      · exact pn_parts b.length b (Nat.le_refl _) hb p hp
      · exact .nil
    · intro c hc
      rcases List.mem_cons.1 hc with rfl | hc
      · decide
      · refine no63_join _ (fun p hp d hd => ?_) c hc
        rcases kept_sub _ p hp with hp | rfl
        · exact h2 d (List.mem_cons_of_mem _ (split_sub b p hp d hd))
        · cases hd
    · rw [← dotsM_slash]
      unfold pathM
      rw [dotsM_idem, if_neg (by rw [dotsM_slash]; simp)]
theorem tw_stop (a : Bs) (b : Bs) (h : ∀ d ∈ a, d ≠ 47 ∧ d ≠ 63) : (a ++ 47 :: b).takeWhile fr = a ∧ (a ++ 47 :: b).dropWhile fr = 47 :: b := by
  induction a with
  | nil => exact ⟨rfl, rfl⟩
  | cons c a ih =>
    obtain ⟨g1, g2⟩ := ih fun d hd => h d (by simp [hd])
    have hc : fr c = true := by unfold fr; have := h c (by simp); simp [this.1, this.2]
    rw [List.cons_append, List.takeWhile_cons, List.dropWhile_cons, hc]
    exact ⟨by rw [if_pos rfl, g1], by rw [if_pos rfl, g2]⟩
theorem norm_stays {h t n : Bs} (hn : normM h t = some n) (other : Bs) : normM other n = some n ∧ n.length ≤ h.length + 2 * t.length + 10 := by
  obtain ⟨w1, w2⟩ := whole_len h t
  unfold normM at hn
  generalize (wholeM h t).1 = a at *
  generalize (wholeM h t).2 = b at *
  split at hn
  rotate_left
  · cases hn
  rename_i h' p hm hp
  split at hn
  case isFalse => cases hn
  rename_i hok
  obtain rfl := Option.some.inj hn
  obtain ⟨s1, s2, s3, s4⟩ := host_stays hm
  obtain ⟨p1, p2⟩ := pn_of b.length (Nat.le_refl _) hp
  have hlen := parts_len p
  have hfirst : ∃ q1 q2, parts63 p = (q1, q2) ∧ PN q1 ∧ PN q2 ∧ (∀ c ∈ q1, c ≠ (63 : UInt8)) ∧ (q1 = [] ∨ ∃ b, q1 = 47 :: b) ∧ (q2 = [] ∨ ∃ y, q2 = 63 :: y) := by
    have hp0 : p = [] ∨ (∃ c r, p = c :: r ∧ (c = 47 ∨ c = 63)) := by
      cases b with
      | nil => exact .inl (Option.some.inj hp).symm
      | cons c b =>
        have hc : c = 47 ∨ c = 63 := by simpa [pathOK] using hok
        have hok : okC c = true ∧ c ≠ 37 := by rcases hc with rfl | rfl <;> decide
        rw [pctM_eq, if_pos hok.1, if_neg hok.2, Option.map_eq_some_iff] at hp
        obtain ⟨q, _, rfl⟩ := hp
        exact .inr ⟨c, q, rfl, hc⟩
    cases hc : cutAt 63 p with
    | none =>
      have hno := cutAt_none hc
      refine ⟨p, [], by unfold parts63; rw [hc], p1, .nil, hno, ?_, .inl rfl⟩
      rcases hp0 with h | ⟨c, r, rfl, rfl | rfl⟩
      · exact .inl h
      · exact .inr ⟨r, rfl⟩
      · exact absurd rfl (hno 63 (by simp))
    | some ab =>
      obtain ⟨x, y⟩ := ab
      obtain ⟨c1, c2⟩ := cutAt_some hc
      obtain ⟨g1, g2⟩ := p1.split x y 63 (.inr rfl) c1
      refine ⟨x, 63 :: y, by unfold parts63; rw [hc], g1, .one 63 y (by decide) (by decide) g2, c2, ?_, .inr ⟨y, rfl⟩⟩
      cases x with
      | nil => exact .inl rfl
      | cons d x =>
        rcases hp0 with h | ⟨c, r, h, hcc⟩
        · rw [h] at c1; cases c1
        · rw [h] at c1
          obtain ⟨rfl, _⟩ := List.cons.inj c1
          rcases hcc with rfl | rfl
          · exact .inr ⟨x, rfl⟩
          · exact absurd rfl (c2 63 (by simp))
  obtain ⟨q1, q2, hq, g1, g2, g3, g4, g5⟩ := hfirst
  rw [hq] at hlen ⊢
  dsimp only at hlen ⊢
  obtain ⟨P, e1, e2, e3, e4⟩ := path_ok q1 g1 g3 g4
  rw [e1]
  have hPl : (47 :: P).length ≤ q1.length + 3 := by
    rw [← e1]
    have := dotsM_len q1
    unfold pathM
    split
    · simp
    · omega
  refine ⟨?_, by simp only [List.length_append, List.length_cons, show httpL.length = 7 from rfl] at hPl ⊢; omega⟩
  have hw : wholeM other (httpL ++ h' ++ (47 :: P ++ q2)) = (h', 47 :: P ++ q2) := by
    unfold wholeM
    rw [List.append_assoc, List.take_left' (show httpL.length = 7 from rfl), if_pos (by decide), List.drop_left' (show httpL.length = 7 from rfl)]
    obtain ⟨t1, t2⟩ := tw_stop h' (P ++ q2) s2
    rw [show 47 :: P ++ q2 = 47 :: (P ++ q2) from rfl, t1, t2]
  unfold normM
  rw [hw]
  dsimp only
  rw [s1, (e2.app g2).stays]
  dsimp only
  rw [if_pos (by rfl)]
  have hparts : parts63 (47 :: P ++ q2) = (47 :: P, q2) := by
    unfold parts63
    rcases g5 with rfl | ⟨y, rfl⟩
    · rw [List.append_nil, cutAt_no 63 _ e3]
    · rw [cutAt_of 63 y _ e3]
  rw [hparts]
  dsimp only
  rw [e4]
end Go.Proofs.YtmmbedlegmbppaaDoor.R
