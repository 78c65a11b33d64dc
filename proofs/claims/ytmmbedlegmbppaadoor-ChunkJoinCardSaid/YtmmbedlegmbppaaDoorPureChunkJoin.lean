/- The law ChunkJoin, in plain Lean. -/
import Derived.Test.YtmmbedlegmbppaaDoorPureChunkBack
namespace Go.Proofs.YtmmbedlegmbppaaDoor.R
open Go Go.RowKit
set_option linter.unusedSimpArgs false
set_option linter.unusedVariables false
theorem dec_join (a b : Bs) (s t : Int) (hs : 1 ≤ s) (ht : 1 ≤ t) (ha : a.length ≤ 500) (hb : b.length ≤ 500) (k : Nat) (hk : 100010 ≤ k) :
    chunk_Decode.f k (B (encT a s ++ (encT b t ++ [48, 13, 10, 13, 10]))) = some (B (a ++ b), ((encT a s ++ (encT b t ++ [48, 13, 10, 13, 10])).length : Int), 0) := by
  have hx := encT_len a s hs
  have hy := encT_len b t ht
  have hL : (encT a s ++ (encT b t ++ [48, 13, 10, 13, 10])).length = (encT a s).length + (encT b t).length + 5 := by simp; omega
  generalize hN : (encT a s ++ (encT b t ++ [48, 13, 10, 13, 10])).length = N at *
  rw [dec_is _ (by omega) k hk, hN]
  obtain ⟨f1, h1, h2⟩ := dec_enc s.toNat (by omega) N (encT b t ++ [48, 13, 10, 13, 10]) (a.length + 1) a [] (N + 1) (by omega) (by rw [show encB (a.length + 1) s.toNat a = encT a s from rfl, hN]; omega) (by simp; omega)
  rw [show encB (a.length + 1) s.toNat a = encT a s from rfl] at h2
  rw [h2]
  obtain ⟨f2, h3, h4⟩ := dec_enc t.toNat (by omega) N [48, 13, 10, 13, 10] (b.length + 1) b ([] ++ a) f1 (by omega) h1 (by simp; omega)
  rw [show encB (b.length + 1) t.toNat b = encT b t from rfl] at h4
  rw [h4]
  obtain ⟨f2, rfl⟩ : ∃ j, f2 = j + 1 := ⟨f2 - 1, by omega⟩
  rw [dec_end f2 _ [] _ (by simp; omega), List.nil_append]
  congr 3
  simp only [List.length_nil]
  omega
theorem ChunkJoin (a b : ByteArray) (n : Int × Int) (w0 : Ty.Wf .str a) (w1 : Ty.Wf .str b) (w2 : Ty.Wf (.agg (.pair (.int .i64) (.int .i64))) n) : ∃ k, law07_ChunkJoin.f k (a, (b, n)) = some true := by
  refine ⟨100020, ?_⟩
  obtain ⟨n, m⟩ := n
  rw [B_of a, B_of b]
  generalize a.data.toList = l
  generalize b.data.toList = q
  have up : ∀ z : Bool, z = true → law07_ChunkJoin.j1 100020 (B l, (B q, (true, (z, (n, m))))) = some true := by
    rintro z rfl
    rfl
  unfold law07_ChunkJoin.f
  rw [awake07, bindO_some, B_len, B_len]
  simp only []
  rw [show ltI 500 (l.length : Int) = decide (500 < l.length) from ltI_nat 500 _, ifO_dec]
  by_cases h1 : 500 < l.length
  · rw [if_pos h1]; exact up _ rfl
  rw [if_neg h1, show ltI 500 (q.length : Int) = decide (500 < q.length) from ltI_nat 500 _, ifO_dec]
  by_cases h2 : 500 < q.length
  · rw [if_pos h2]; exact up _ rfl
  rw [if_neg h2, ltD, ifO_dec]
  by_cases h3 : n < 1
  · rw [if_pos h3]; exact up _ rfl
  rw [if_neg h3, ltD]
  by_cases h4 : m < 1
  · rw [decide_eq_true h4]; exact up _ rfl
  rw [decide_eq_false h4]
  unfold law07_ChunkJoin.j1
  simp only []
  have hx := encT_len l n (by omega)
  have hy := encT_len q m (by omega)
  have hL : (encT l n ++ [48, 13, 10, 13, 10]).length = (encT l n).length + 5 := by rw [List.length_append]; rfl
  have hM : (encT q m ++ [48, 13, 10, 13, 10]).length = (encT q m).length + 5 := by rw [List.length_append]; rfl
  have e5 : ltI ((encT l n ++ [48, 13, 10, 13, 10]).length : Int) 5 = false := (ltI_nat _ 5).trans (decide_eq_false (by omega))
  rw [ifO_false, enc_is _ _ _ (by omega), bindO_some, enc_is _ _ _ (by omega), bindO_some, encR_is l n (by omega) (by omega), encR_is q m (by omega) (by omega)]
  simp only []
  rw [show neI 0 0 = false from rfl, ifO_false, ifO_false, B_len, e5]
  unfold law07_ChunkJoin.j4
  simp only []
  have e6 : ((encT l n ++ [48, 13, 10, 13, 10]).length : Int) - 5 = ((encT l n).length : Int) := by omega
  have hcut : cutS (B (encT l n ++ [48, 13, 10, 13, 10])) 0 ((encT l n).length : Int) = B (encT l n) := (B_cut _ 0 _).trans (by rw [List.drop_zero, List.take_left' rfl])
  rw [ifO_false, B_len, B_len, sub64 (by omega) (by omega), e6, boundB_yes (by omega), show boundB 0 ((encT l n).length : Int) = true from boundB_yes (i := 0) (Nat.zero_le _), show andB true true = true from rfl, ifO_true, hcut, B_fits, decide_eq_true (by omega), ifO_true, B_cat, dec_join l q n m (by omega) (by omega) (by omega) (by omega) _ (by omega), bindO_some, ifO_true, B_fits, decide_eq_true (by omega), ifO_true, B_cat, eqS_self, ifO_true, add64 (by omega) (by omega), sub64 (by omega) (by omega), eqI_dec, decide_eq_true (by simp only [List.length_append, List.length_cons, List.length_nil]; omega), ifO_true]
  rfl
end Go.Proofs.YtmmbedlegmbppaaDoor.R
