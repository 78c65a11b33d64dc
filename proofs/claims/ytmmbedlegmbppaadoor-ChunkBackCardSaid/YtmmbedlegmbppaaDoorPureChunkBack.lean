/- The law ChunkBack, in plain Lean. -/
import Derived.Test.YtmmbedlegmbppaaDoorPChk6
import Derived.Test.YtmmbedlegmbppaaDoorRW
namespace Go.Proofs.YtmmbedlegmbppaaDoor.R
open Go Go.RowKit
set_option linter.unusedSimpArgs false
set_option linter.unusedVariables false
set_option maxRecDepth 100000 in
theorem awake07 : law07_awake.f 100020 () = some true := by
  unfold law07_awake.f
  rw [B_lit #[97, 98, 99], B_lit #[65, 32, 59, 120, 61, 49, 13, 10, 48, 49, 50, 51, 52, 53, 54, 55, 56, 57, 13, 10, 48, 13, 10, 122, 58, 32, 121, 13, 10, 13, 10, 109, 111, 114, 101], B_lit #[49, 13, 10, 97, 98], B_lit #[]]
  rw [enc_is _ _ _ (by omega), bindO_some, dec_is _ (by decide) _ (by omega), bindO_some, dec_is _ (by decide) _ (by omega), bindO_some, enc_is _ _ _ (by omega), bindO_some]
  decide +kernel
/-- What is written, of a size that may be. -/
def encT (l : Bs) (s : Int) : Bs := encB (l.length + 1) s.toNat l
theorem encR_is (l : Bs) (s : Int) (hs : 1 ≤ s) (hl : l.length ≤ 100000) : encR l s = (B (encT l s ++ [48, 13, 10, 13, 10]), 0) := by
  unfold encR
  rw [if_neg (by omega), if_neg (by omega), encM_is s.toNat (by omega) _ _ _ (by omega), List.nil_append]
  rfl
theorem encT_len (l : Bs) (s : Int) (hs : 1 ≤ s) : (encT l s).length ≤ 14 * l.length := encB_len s.toNat (by omega) _ l
theorem dec_all (l more : Bs) (s : Int) (hs : 1 ≤ s) (hl : l.length ≤ 1000) (hm : more.length ≤ 50000) (k : Nat) (hk : 100010 ≤ k) :
    chunk_Decode.f k (B (encT l s ++ [48, 13, 10, 13, 10] ++ more)) = some (B l, ((encT l s ++ [48, 13, 10, 13, 10]).length : Int), 0) := by
  have hx := encT_len l s hs
  have hL : (encT l s ++ [48, 13, 10, 13, 10] ++ more).length = (encT l s).length + (more.length + 5) := by simp only [List.length_append, List.length_cons, List.length_nil]; omega
  rw [dec_is _ (by omega) k hk]
  obtain ⟨f', h1, h2⟩ := dec_enc s.toNat (by omega) (encT l s ++ [48, 13, 10, 13, 10] ++ more).length (48 :: 13 :: 10 :: 13 :: 10 :: more) (l.length + 1) l [] ((encT l s ++ [48, 13, 10, 13, 10] ++ more).length + 1) (by omega) (by rw [show encB (l.length + 1) s.toNat l = encT l s from rfl]; simp) (by simp; omega)
  have e : encT l s ++ [48, 13, 10, 13, 10] ++ more = encB (l.length + 1) s.toNat l ++ (48 :: 13 :: 10 :: 13 :: 10 :: more) := by simp [encT]
  conv => lhs; arg 1; arg 3; rw [e]
  rw [h2]
  obtain ⟨f', rfl⟩ : ∃ j, f' = j + 1 := ⟨f' - 1, by omega⟩
  rw [dec_end f' _ more _ (by simp; omega), List.nil_append, hL]
  congr 3
  rw [List.length_append]
  simp only [List.length_cons, List.length_nil]
  omega
theorem ChunkBack (body more : ByteArray) (n : Int × Int) (w0 : Ty.Wf .str body) (w1 : Ty.Wf .str more) (w2 : Ty.Wf (.agg (.pair (.int .i64) (.int .i64))) n) : ∃ k, law07_ChunkBack.f k (body, (more, n)) = some true := by
  refine ⟨100020, ?_⟩
  obtain ⟨n, m⟩ := n
  rw [B_of body, B_of more]
  generalize body.data.toList = l
  generalize more.data.toList = q
  unfold law07_ChunkBack.f
  rw [awake07, bindO_some, B_len, B_len]
  simp only []
  rw [show ltI 1000 (l.length : Int) = decide (1000 < l.length) from ltI_nat 1000 _, ifO_dec]
  by_cases h1 : 1000 < l.length
  · rw [if_pos h1]
  rw [if_neg h1, show ltI 100 (q.length : Int) = decide (100 < q.length) from ltI_nat 100 _, ifO_dec]
  by_cases h2 : 100 < q.length
  · rw [if_pos h2]
  rw [if_neg h2, enc_is _ _ _ (by omega), bindO_some]
  by_cases hs : n < 1
  · unfold encR
    rw [if_pos hs]
    show some (ltI n 1) = _
    rw [ltD, decide_eq_true hs]
  have hx := encT_len l n (by omega)
  rw [encR_is l n (by omega) (by omega)]
  simp only []
  rw [show neI 0 0 = false from rfl, ifO_false, B_fits, decide_eq_true (by rw [List.length_append]; simp only [List.length_cons, List.length_nil]; omega), ifO_true, B_cat, dec_all l q n (by omega) (by omega) (by omega) _ (by omega), bindO_some]
  simp only []
  rw [eqS_self, show notB true = false from rfl, ifO_false, B_len, neI_dec, decide_eq_false (by simp), ifO_false, show neI 0 0 = false from rfl]
  unfold law07_ChunkBack.j3
  simp only []
  rw [ifO_false, ltD, ifO_dec, B_len]
  by_cases h3 : m < 0
  · rw [if_pos h3]
  rw [if_neg h3, leD, ifO_dec]
  by_cases h4 : ((encT l n ++ [48, 13, 10, 13, 10]).length : Int) ≤ m
  · rw [if_pos h4]
  rw [if_neg h4]
  obtain ⟨c, rfl⟩ : ∃ c : Nat, m = (c : Int) := ⟨m.toNat, by omega⟩
  have hc : c < (encT l n ++ [48, 13, 10, 13, 10]).length := by omega
  have hL : (encT l n ++ [48, 13, 10, 13, 10]).length = (encT l n).length + 5 := by rw [List.length_append]; rfl
  rw [boundB_yes (by omega), show boundB 0 (c : Int) = true from boundB_yes (i := 0) (Nat.zero_le _), show andB true true = true from rfl, ifO_true, show cutS (B (encT l n ++ [48, 13, 10, 13, 10])) 0 (c : Int) = B ((encT l n ++ [48, 13, 10, 13, 10]).take c) from (B_cut _ 0 c).trans (by rw [List.drop_zero])]
  have htl : ((encT l n ++ [48, 13, 10, 13, 10]).take c).length = c := by rw [List.length_take]; omega
  rw [dec_is _ (by omega) _ (by omega), bindO_some, ifO_true, htl]
  have := dec_cut n.toNat (by omega) c (l.length + 1) l [] (c + 1) c (by omega) hc (by omega) (by simp; omega)
  rw [show encB (l.length + 1) n.toNat l = encT l n from rfl] at this
  rw [this]
  rfl
end Go.Proofs.YtmmbedlegmbppaaDoor.R
