/- VaryBlanks, told in plain words. -/
import Derived.Test.YtmmbedlegmbppaaDoorPVary2
import Derived.Test.YtmmbedlegmbppaaDoorPureVaryTells
namespace Go.Proofs.YtmmbedlegmbppaaDoor.R
open Go Go.RowKit
set_option linter.unusedSimpArgs false
set_option linter.unusedVariables false
def sepB (n : Nat) : Bs := List.replicate n 32 ++ 44 :: [9]
theorem sep_cut : ∀ n : Fin 4, catS (cutS (⟨#[32, 32, 32]⟩ : ByteArray) 0 (n.val : Int)) (⟨#[44, 9]⟩ : ByteArray) = B (sepB n.val) := by decide +kernel
theorem cut_is3 (n : Nat) (h : n ≤ 3) : cutS (⟨#[32, 32, 32]⟩ : ByteArray) 0 (n : Int) = B (List.replicate n 32) := by
  have : ∀ n : Fin 4, cutS (⟨#[32, 32, 32]⟩ : ByteArray) 0 (n.val : Int) = B (List.replicate n.val 32) := by decide +kernel
  exact this ⟨n, by omega⟩
/-- The lines, each of one text. -/
def linesV (nm : ByteArray) (l : List ByteArray) : List Fld := l.map fun s => (nm, s)
theorem vals_lines (nm : ByteArray) : ∀ l : List ByteArray, XG.vals nm (linesV nm l) = l
  | [] => rfl
  | s :: r => by
    have ih := vals_lines nm r
    unfold XG.vals linesV at ih ⊢
    rw [List.map_cons, List.filter_cons, if_pos (by simp), List.map_cons, ih]
theorem vals_alone (nm s : ByteArray) : XG.vals nm [(nm, s)] = [s] := vals_lines nm [s]
theorem sumF_lines (nm : ByteArray) : ∀ l : List ByteArray, sumF (linesV nm l) = sum1 l + (nm.size + 3) * l.length
  | [] => rfl
  | s :: r => by
    have ih := sumF_lines nm r
    show nm.size + s.size + 4 + sumF (linesV nm r) = _
    rw [ih, List.length_cons, Nat.mul_succ]
    simp only [sum1]; omega
theorem VaryBlanks (nm : ByteArray) (l : List ByteArray) (n : Int) (w0 : Ty.Wf .str nm) (w1 : l.length ≤ 140737488351232 ∧ ∀ x ∈ l, Ty.Wf .str x) (w2 : Ty.Wf (.int .i64) n) : ∃ k, law15_VaryBlanks.f k (nm, (l, n)) = some true := by
  refine ⟨1000010, ?_⟩
  unfold law15_VaryBlanks.f
  have up : law15_VaryBlanks.j1 1000010 (nm, (l, (n, (true, true)))) = some true := rfl
  rw [awake15, bindO_some]
  simp only
  rw [show ltI 50 (lenS nm) = decide (50 < nm.size) from ltI_nat 50 _, ifO_dec, lenL_nat, show ltI 10 (l.length : Int) = decide (10 < l.length) from ltI_nat 10 _, ifO_dec, eqI_dec, ifO_dec, ltD, ifO_dec, ltD]
  by_cases h1 : 50 < nm.size
  · rw [if_pos h1]; exact up
  rw [if_neg h1]
  by_cases h2 : 10 < l.length
  · rw [if_pos h2]; exact up
  rw [if_neg h2]
  by_cases h3 : (l.length : Int) = 0
  · rw [if_pos h3]; exact up
  rw [if_neg h3]
  by_cases h4 : (@LT.lt Int _ n 0)
  · rw [if_pos h4]; exact up
  rw [if_neg h4]
  by_cases h5 : (@LT.lt Int _ 3 n)
  · rw [decide_eq_true h5]; exact up
  rw [decide_eq_false h5]
  obtain ⟨m, hm⟩ : ∃ m : Nat, n = (m : Int) := ⟨n.toNat, by omega⟩
  subst hm
  have hm3 : m ≤ 3 := by omega
  have h32 : ∀ c ∈ (List.replicate m 32 : Bs), blankB c = true := fun c hc => by rw [List.eq_of_mem_replicate hc]; decide
  have h9 : ∀ c ∈ ([9] : Bs), blankB c = true := fun c hc => by rw [List.mem_singleton.1 hc]; decide
  have h33 : ∀ c ∈ ([32] : Bs), blankB c = true := fun c hc => by rw [List.mem_singleton.1 hc]; decide
  have hsepl : (sepB m).length = m + 2 := by unfold sepB; simp
  unfold law15_VaryBlanks.j1 law15_VaryBlanks.l2
  simp only
  rw [ifO_false]
  refine iter_eq (f := law15_VaryBlanks.l2b 1000010) (fun v => v.1 = nm ∧ v.2.1 = l ∧ v.2.2.1 = (m : Int) ∧ v.2.2.2.1 = true ∧ ∃ i : Nat, v.2.2.2.2.2.2 = (i : Int) ∧ i ≤ l.length ∧ v.2.2.2.2.1 = B (joinS (sepB m) (l.take i)) ∧ v.2.2.2.2.2.1 = linesV nm (l.take i) ∧ sum1 (l.take i) ≤ 51 * i ∧ ∀ u ∈ l.take i, GoodT u.data.toList) (fun v => (l.length + 1 - v.2.2.2.2.2.2).toNat) (fun _ => some true) ?_ _ _ ⟨rfl, rfl, rfl, rfl, 0, rfl, Nat.zero_le _, rfl, rfl, Nat.le_refl _, fun u hu => by cases hu⟩ (by show ((l.length : Int) + 1 - 0).toNat < 1000010; omega)
  rintro r ⟨nm', s, m', u, x, ls, i'⟩ ⟨e1, e2, e3, e4, i, e5, hi, e6, e7, hs, hg⟩ hr
  simp only at e1 e2 e3 e4 e5 e6 e7
  subst e1; subst e2; subst e3; subst e4; subst e5; subst e6; subst e7
  unfold law15_VaryBlanks.l2b
  simp only [lenL_nat, inB_nat, ltI_nat, ifO_dec]
  have b0 := joinS_len (sepB m) (s.take i)
  have b1 := sumS_sum1 (s.take i)
  have b2 : (sepB m).length * (s.take i).length ≤ 5 * 10 := Nat.mul_le_mul (by omega) (by rw [List.length_take]; omega)
  by_cases h : i < s.length
  · have hx := len_data s[i]
    have htk : s.take (i + 1) = s.take i ++ [s[i]] := by rw [List.take_add_one, List.getElem?_eq_getElem h]; rfl
    rw [if_pos h, if_pos h, elT_get (t := .str) (xs := s) h, show ltI 50 (lenS s[i]) = decide (50 < s[i].size) from ltI_nat 50 _, ifO_dec]
    by_cases h6 : 50 < s[i].size
    · rw [if_pos h6]
    rw [if_neg h6, if_pos h, show ref01_Token.f 1000010 s[i] = some (tokB s[i].data.toList) from (congrArg (ref01_Token.f 1000010) (B_of s[i])).trans (r1token _ (by omega) _ (by omega) (by omega)), bindO_some]
    cases ht : tokB s[i].data.toList with
    | false => rw [show notB false = true from rfl, ifO_true]
    | true =>
      rw [show notB true = false from rfl, ifO_false, show ltI 0 (i : Int) = decide (0 < i) from ltI_nat 0 i, ifO_dec]
      have hlt : ((s.length : Int) + 1 - ((i + 1 : Nat) : Int)).toNat < ((s.length : Int) + 1 - (i : Int)).toNat := by omega
      have j4 : ∀ x : Bs, x.length ≤ 1000000 → x ++ s[i].data.toList = joinS (sepB m) (s.take (i + 1)) → law15_VaryBlanks.j4 1000010 r (nm', (s, ((m : Int), (true, (B x, (linesV nm' (s.take i), (i : Int))))))) = some true := by
        intro x hxl he
        unfold law15_VaryBlanks.j4
        simp only
        have hll : (linesV nm' (s.take i)).length ≤ 10 := by unfold linesV; rw [List.length_map, List.length_take]; omega
        rw [lenL_nat, inB_yes h, ifO_true, elT_get (t := .str) (xs := s) h, ifO_yes (by unfold fitsS; rw [B_size]; exact decide_eq_true (by omega)), ifO_true, with_is _ _ _ (by omega), bindO_some, next64 (by omega)]
        refine hr _ ⟨rfl, rfl, rfl, rfl, i + 1, rfl, h, ?_, ?_, ?_, ?_⟩ hlt
        · show catS (B x) s[i] = _
          rw [← he]
          exact (congrArg (catS (B x)) (B_of s[i])).trans (B_cat _ _)
        · show linesV nm' (s.take i) ++ [(nm', s[i])] = _
          rw [htk]; unfold linesV; rw [List.map_append]; rfl
        · rw [htk, sum1_snoc]; omega
        · intro u hu
          rw [htk] at hu
          rcases List.mem_append.1 hu with hu | hu
          · exact hg u hu
          · rw [List.mem_singleton.1 hu]; exact tok_good ht
      by_cases h0 : 0 < i
      · rw [if_pos h0, show lenS (⟨#[32, 32, 32]⟩ : ByteArray) = ((3 : Nat) : Int) from rfl, boundB_yes hm3, show boundB 0 (m : Int) = true from boundB_yes (i := 0) (by omega), show andB true true = true from rfl, ifO_true, cut_is3 m hm3]
        rw [ifO_yes (by rw [B_fits]; exact decide_eq_true (by rw [List.length_replicate]; omega)), B_cat, show (⟨#[44, 9]⟩ : ByteArray) = B [44, 9] from rfl, ifO_yes (by rw [B_fits]; exact decide_eq_true (by rw [List.length_append, List.length_replicate]; simp only [List.length_cons, List.length_nil]; omega)), B_cat]
        refine j4 _ (by rw [List.length_append, List.length_append, List.length_replicate]; simp only [List.length_cons, List.length_nil]; omega) ?_
        rw [htk, joinS_snoc, if_neg]
        · unfold sepB; simp
        · intro hn
          have := congrArg List.length hn
          rw [List.length_take, List.length_nil] at this
          omega
      · rw [if_neg h0]
        refine j4 _ (by omega) ?_
        obtain rfl : i = 0 := by omega
        rw [htk, joinS_snoc, if_pos (by rfl)]
        rfl
  · rw [if_neg h]
    rw [List.take_of_length_le (by omega)] at b0 b1 b2 hs hg ⊢
    have hl1 : 0 < s.length := by omega
    have q0 := sumF_lines nm' s
    have q1 : (nm'.size + 3) * s.length ≤ 53 * 10 := Nat.mul_le_mul (by omega) (by omega)
    have q2 : sumF [(nm', B (joinS (sepB m) s))] ≤ 100000 := by show nm'.size + (B (joinS (sepB m) s)).size + 4 + 0 ≤ _; rw [B_size]; omega
    have hgood : ∀ u ∈ s.map (·.data.toList), GoodT u := fun u hu => by
      obtain ⟨x, hx, rfl⟩ := List.mem_map.1 hu
      exact hg x hx
    have hmap : (s.map (·.data.toList)).map B = s := by
      rw [List.map_map]
      refine (List.map_congr_left fun a _ => ?_).trans (List.map_id _)
      exact (B_of a).symm
    have p1 : partsV nm' [(nm', B (joinS (sepB m) s))] = s := by
      unfold partsV getV
      rw [vals_alone]
      show C (Lib.join [(B (joinS (sepB m) s)).data.toList] [44, 32]) 0 0 [] = s
      rw [Lib.join_one, B_data]
      unfold joinS sepB
      exact (C_join [9] (List.replicate m 32) h9 h32 _ hgood).trans hmap
    have p2 : partsV nm' (linesV nm' s) = s := by
      unfold partsV getV
      rw [vals_lines]
      exact (C_join [32] [] h33 (fun c hc => by cases hc) _ hgood).trans hmap
    rw [value_is _ _ q2 _ (by omega), bindO_some, value_is _ _ (by omega) _ (by omega), bindO_some]
    simp only
    rw [ifO_true]
    have i1 : isV nm' [(nm', B (joinS (sepB m) s))] = true := by unfold isV; rw [vals_alone]; rfl
    have i2 : isV nm' (linesV nm' s) = true := by unfold isV; rw [vals_lines]; exact decide_eq_true hl1
    have ev : valV nm' [(nm', B (joinS (sepB m) s))] = valV nm' (linesV nm' s) := by unfold valV; rw [p1, p2]
    rw [i1, i2, ifO_true, ifO_true, ev, eqS_self]
end Go.Proofs.YtmmbedlegmbppaaDoor.R
