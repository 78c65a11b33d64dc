/- HeadBack: what was printed is parsed, and what is parsed is printed and parsed as the same; no condition. -/
import Derived.Test.YtkjjegjafpefcaaDoorPureHeadTells
namespace Go.Proofs.YtkjjegjafpefcaaDoor.R
open Go Go.RowKit
set_option linter.unusedSimpArgs false
set_option linter.unusedVariables false
theorem tchar_all : ∀ n : Fin 256, X.isTchar (UInt8.ofNat n.val) = true → n.val ≠ 10 ∧ n.val ≠ 58 := by decide +kernel
theorem tchar_is (c : UInt8) (h : X.isTchar c = true) : c ≠ 10 ∧ c ≠ 58 := by
  have := tchar_all ⟨c.toNat, c.toNat_lt⟩
  simp only [UInt8.ofNat_toNat] at this
  obtain ⟨a, b⟩ := this h
  exact ⟨fun e => a (by rw [e]; rfl), fun e => b (by rw [e]; rfl)⟩
theorem text_no10 (c : UInt8) (h : X.isText c = true) : c ≠ 10 := by
  rintro rfl
  exact absurd h (by decide)
theorem fieldM_of (f : Fld) (h : okF f = true) : fieldM (nmB f ++ 58 :: 32 :: vlB f) = some (nmB f, vlB f) := by
  unfold okF at h
  simp only [Bool.and_eq_true, decide_eq_true_eq] at h
  obtain ⟨h1, h2, h3, _⟩ := h
  have ht : ∀ d ∈ nmB f, d ≠ 58 := by
    unfold tokB at h1
    split at h1
    · cases h1
    · exact fun d hd => (tchar_is d (List.all_eq_true.1 h1 d hd)).2
  unfold fieldM
  rw [cutAt_of 58 _ _ ht]
  have hs : strip (32 :: vlB f) = vlB f := by
    rw [strip_cons 32 _ (by decide)]
    unfold txtB at h3
    split at h3
    · simpa using h3
    · cases h3
  simp only
  rw [hs, if_pos ⟨h1, h3⟩, h2]
theorem lineM_lineF (f : Fld) (h : okF f = true) (r : Bs) : lineM (lineF f ++ r) = (nmB f ++ 58 :: 32 :: vlB f, r, 0) := by
  unfold okF at h
  simp only [Bool.and_eq_true, decide_eq_true_eq] at h
  obtain ⟨h1, h2, h3, h4⟩ := h
  have e : lineF f ++ r = (nmB f ++ 58 :: 32 :: vlB f) ++ 13 :: 10 :: r := by unfold lineF; simp
  have en : (nmB f).length = f.1.size := by unfold nmB; rw [Array.length_toList]; rfl
  have ev : (vlB f).length = f.2.size := by unfold vlB; rw [Array.length_toList]; rfl
  rw [e]
  refine lineM_of _ _ ?_ ?_
  · simp only [List.length_append, List.length_cons]; omega
  · intro d hd
    rcases List.mem_append.1 hd with hd | hd
    · unfold tokB at h1
      split at h1
      · cases h1
      · exact (tchar_is d (List.all_eq_true.1 h1 d hd)).1
    · rcases List.mem_cons.1 hd with rfl | hd
      · decide
      · rcases List.mem_cons.1 hd with rfl | hd
        · decide
        · unfold txtB at h3
          split at h3
          · rename_i hx; exact text_no10 d (List.all_eq_true.1 hx d hd)
          · cases h3
theorem fld_B (f : Fld) : (B (nmB f), B (vlB f)) = f := by obtain ⟨a, b⟩ := f; unfold nmB vlB; rw [← B_of, ← B_of]
theorem lineM_end (r : Bs) : lineM (13 :: 10 :: r) = ([], r, 0) := lineM_of [] r (by simp) (by simp)
theorem parse_print (more : Bs) : ∀ (l : List Fld) (n : Nat) (out : List Fld), l.all okF = true → l.length < n → out.length + l.length ≤ 64 → parseM n (printL l ++ 13 :: 10 :: more) out = (out ++ l, more, 0)
  | [], n, out, _, hn, _ => by
    obtain ⟨n, rfl⟩ : ∃ j, n = j + 1 := ⟨n - 1, by simp at hn; omega⟩
    unfold parseM
    rw [show printL [] ++ 13 :: 10 :: more = 13 :: 10 :: more from rfl, lineM_end]
    simp
  | f :: r, n, out, ha, hn, ho => by
    obtain ⟨n, rfl⟩ : ∃ j, n = j + 1 := ⟨n - 1, by simp at hn; omega⟩
    simp only [List.all_cons, Bool.and_eq_true] at ha
    simp only [List.length_cons] at hn ho
    unfold parseM
    rw [show printL (f :: r) ++ 13 :: 10 :: more = lineF f ++ (printL r ++ 13 :: 10 :: more) by unfold printL; rw [List.flatMap_cons, List.append_assoc], lineM_lineF f ha.1]
    simp only
    rw [if_neg (by decide), if_neg (by simp), if_neg (by omega), fieldM_of f ha.1]
    simp only
    rw [fld_B, parse_print more r n (out ++ [f]) ha.2 (by omega) (by rw [List.length_append]; show _ + 1 + _ ≤ _; omega)]
    simp
theorem back_is (l : List Fld) (h : rightV l = true) (more : Bs) : parseV (printL l ++ [13, 10] ++ more) = (l, (((printL l).length + 2 : Nat) : Int), 0) := by
  unfold rightV at h
  simp only [Bool.and_eq_true, decide_eq_true_eq] at h
  have e : printL l ++ [13, 10] ++ more = printL l ++ 13 :: 10 :: more := by simp
  have hp := printL_len l
  have hl := sumF_len l
  unfold parseV
  rw [e, parse_print more l _ [] h.2 (by simp only [List.length_append, List.length_cons]; omega) (by simpa using h.1)]
  unfold parseR
  simp only [List.nil_append, if_pos, List.length_append, List.length_cons]
  congr 3
  omega
theorem parseM_some : ∀ (n : Nat) (l : Bs) (out : List Fld), ((parseM n l out).2.2 ≠ 0 → (parseM n l out).1 = []) ∧ (parseM n l out).2.1.length ≤ l.length ∧ sumF (parseM n l out).1 ≤ sumF out + 2 * l.length
  | 0, l, out => ⟨fun _ => rfl, Nat.zero_le _, Nat.zero_le _⟩
  | n + 1, l, out => by
    unfold parseM
    by_cases he : (lineM l).2.2 = 0
    · obtain ⟨h1, h2, h3⟩ := lineM_ok he
      have hlen : l.length = (lineM l).1.length + ((lineM l).2.1.length + 2) := by
        have := congrArg List.length h1
        simp only [List.length_append, List.length_cons] at this
        omega
      rw [if_neg (by omega)]
      by_cases h0 : (lineM l).1 = []
      · rw [if_pos h0]; exact ⟨fun h => absurd rfl h, by show (lineM l).2.1.length ≤ _; omega, by show sumF out ≤ _; omega⟩
      · rw [if_neg h0]
        by_cases h64 : out.length = 64
        · rw [if_pos h64]; exact ⟨fun _ => rfl, Nat.zero_le _, Nat.zero_le _⟩
        · rw [if_neg h64]
          cases hf : fieldM (lineM l).1 with
          | none => exact ⟨fun _ => rfl, Nat.zero_le _, Nat.zero_le _⟩
          | some f =>
            obtain ⟨i1, i2, i3⟩ := parseM_some n (lineM l).2.1 (out ++ [(B f.1, B f.2)])
            have hsz : f.1.length + f.2.length + 1 ≤ (lineM l).1.length := by
              unfold fieldM at hf
              cases hc : cutAt 58 (lineM l).1 with
              | none => rw [hc] at hf; cases hf
              | some p =>
                obtain ⟨a, b⟩ := p
                rw [hc] at hf
                simp only at hf
                split at hf
                · obtain rfl := Option.some.inj hf
                  have := congrArg List.length (cutAt_some hc).1
                  simp only [List.length_append, List.length_cons] at this
                  have := strip_le b
                  unfold lowL
                  simp only [List.length_map]
                  omega
                · cases hf
            rw [sumF_snoc] at i3
            simp only [B_size] at i3
            exact ⟨i1, by show (parseM n _ _).2.1.length ≤ _; omega, by show sumF (parseM n _ _).1 ≤ _; omega⟩
    · rw [if_pos he]; exact ⟨fun _ => rfl, Nat.zero_le _, Nat.zero_le _⟩
theorem back8 (s : ByteArray) (hs : s.size ≤ 10000) (k : Nat) (hk : 100010 ≤ k) : law06_HeadBack.j8 k (s, true) = some true := by
  have hsB : s = B s.data.toList := B_of s
  have es : s.data.toList.length = s.size := by rw [Array.length_toList]; rfl
  have e1 : head_Parse.f k s = some (parseV s.data.toList) := (congrArg (fun q => head_Parse.f k q) hsB).trans (parse_is s.data.toList (by omega) k hk)
  obtain ⟨i1, i2, i3⟩ := parseM_some (s.data.toList.length + 1) s.data.toList []
  have hv : (parseV s.data.toList) = parseR s.data.toList.length (parseM (s.data.toList.length + 1) s.data.toList []) := rfl
  generalize parseM (s.data.toList.length + 1) s.data.toList [] = p at i1 i2 i3 hv
  obtain ⟨m, rest, e⟩ := p
  simp only [sumF] at i1 i2 i3
  unfold law06_HeadBack.j8
  rw [e1, hv, bindO_some]
  unfold parseR
  simp only
  rw [neI_dec, ifO_dec]
  by_cases he : e = 0
  · subst he
    have hm := sumF_len m
    rw [if_neg (by omega), if_pos rfl, right_is m (by omega) k (by omega), bindO_some]
    have hle : leI ((s.data.toList.length - rest.length : Nat) : Int) (lenS s) = true := by
      unfold lenS
      rw [leI_nat]
      exact decide_eq_true (by omega)
    cases hr : rightV m with
    | false =>
      rw [show notB false = true from rfl, ifO_true, ifO_true, hle]
    | true =>
      have hp := printL_len m
      have hb := back_is m hr []
      rw [List.append_nil] at hb
      rw [show notB true = false from rfl, ifO_false, print_is m (by omega) k hk, bindO_some, if_pos hr]
      simp only
      rw [parse_is _ (by rw [List.length_append]; show _ + 2 ≤ _; omega) k hk, hb, bindO_some]
      simp only
      rw [r6same m (by omega) k (by omega), bindO_some, hle, ifO_true, ifO_true, B_len, List.length_append]
      show ifO (eqI 0 0) (ifO (eqI 0 0) (ifO (eqI (((printL m).length + 2 : Nat) : Int) (((printL m).length + 2 : Nat) : Int)) (some true) (some false)) (some false)) (some false) = _
      rw [eqI_dec, eqI_dec, decide_eq_true rfl, decide_eq_true rfl]; rfl
  · rw [if_pos he, if_neg he, i1 he]; rfl
theorem back6 (l : List Fld) (s more : ByteArray) (hl : sumF l ≤ 10000) (hs : s.size ≤ 10000) (hn : more.size ≤ 100) (k : Nat) (hk : 100010 ≤ k) : law06_HeadBack.j2 k (l, (s, (more, (true, false)))) = some true := by
  have hlen := sumF_len l
  unfold law06_HeadBack.j2
  simp only
  rw [ifO_false, print_is l (by omega) k hk, bindO_some, right_is l (by omega) k (by omega), bindO_some]
  cases hr : rightV l with
  | false =>
    rw [if_neg (by decide)]
    exact back8 s hs k hk
  | true =>
    have hp := printL_len l
    have hb := back_is l hr more.data.toList
    have em : more.data.toList.length = more.size := by rw [Array.length_toList]; rfl
    rw [if_pos rfl]
    show ifO (fitsS (B (printL l ++ [13, 10])) more) (bindO (head_Parse.f k (catS (B (printL l ++ [13, 10])) more)) _) none = _
    rw [fits_yes _ _ (by rw [B_size, List.length_append]; show _ + 2 + _ ≤ _; omega), ifO_true, catB, B_data, parse_is _ (by simp only [List.length_append, List.length_cons, List.length_nil]; omega) k hk, hb, bindO_some]
    simp only
    rw [r6same l (by omega) k (by omega), bindO_some, B_len, List.length_append]
    show ifO (neI (((printL l).length + 2 : Nat) : Int) (((printL l).length + 2 : Nat) : Int)) _ (ifO (neI 0 0) _ (law06_HeadBack.j7 k (s, (true, false)))) = _
    rw [neI_dec, neI_dec, decide_eq_false (fun h => h rfl), decide_eq_false (fun h => h rfl), ifO_false, ifO_false]
    exact back8 s hs k hk
theorem HeadBack (l : List Fld) (s more : ByteArray) (w0 : l.length ≤ 140737488351232 ∧ ∀ x ∈ l, Ty.Wf (.agg (.pair .str .str)) x) (w1 : Ty.Wf .str s) (w2 : Ty.Wf .str more) : ∃ k, law06_HeadBack.f k (l, (s, more)) = some true := by
  refine ⟨l.length + 100020, ?_⟩
  have no : law06_HeadBack.j2 (l.length + 100020) (l, (s, (more, (true, true)))) = some true := rfl
  unfold law06_HeadBack.f
  rw [awake6 _ (by omega), bindO_some, size_is l w0.1 (fits_of w0.2) _ (by omega), bindO_some]
  rw [show ltI 10000 ((szs 0 l : Nat) : Int) = decide (10000 < szs 0 l) from ltI_nat 10000 _, ifO_dec]
  by_cases hs : 10000 < szs 0 l
  · rw [if_pos hs]; exact no
  rw [if_neg hs]
  have hsum : sumF l ≤ 10000 := by have := szs_small 10000 (by decide) l 0 (by omega); omega
  show ifO (ltI 10000 (lenS s)) _ (law06_HeadBack.j2 _ (l, (s, (more, (true, ltI 100 (lenS more)))))) = _
  rw [show ltI 10000 (lenS s) = decide (10000 < s.size) from ltI_nat 10000 _, ifO_dec, show ltI 100 (lenS more) = decide (100 < more.size) from ltI_nat 100 _]
  by_cases h1 : 10000 < s.size
  · rw [if_pos h1]; exact no
  rw [if_neg h1]
  by_cases h2 : 100 < more.size
  · rw [decide_eq_true h2]; exact no
  · rw [decide_eq_false h2]
    exact back6 l s more hsum (by omega) (by omega) _ (by omega)
end Go.Proofs.YtkjjegjafpefcaaDoor.R
