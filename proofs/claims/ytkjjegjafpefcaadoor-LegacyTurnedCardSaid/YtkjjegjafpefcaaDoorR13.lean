/- A row that is appended to. -/
import Derived.Test.YtkjjegjafpefcaaDoorR12
import Derived.Lib.AppendStr
namespace Go.Proofs.YtkjjegjafpefcaaDoor.R
open Go Go.RowKit
set_option linter.unusedVariables false
set_option linter.unusedSimpArgs false
section
variable {E : Type} {G : Gh} {w w0 : World} {Z : Fz} {e : E} {P : Program} {s : St E} {a : Act} {acts : List (Array Value)}
/-- What an append leaves. -/
structure Grew (w w' : World) (v v' : Value) : Prop where
  os : w'.os = w.os
  tape : w'.tape = w.tape
  output : w'.output = w.output
  size : w.heap.size ≤ w'.heap.size
  way : (v'.ownBlock = v.ownBlock ∧ ∀ b, some b ≠ v.ownBlock → w'.heap[b]? = w.heap[b]?) ∨ (v'.ownBlock = some w.heap.size ∧ w.heap.size < w'.heap.size ∧ ∀ b, b < w.heap.size → w'.heap[b]? = w.heap[b]?)
theorem append_none {t ty el : TypeId} {i : TypeInfo} {A B : Option Addr} {n c k : Nat} (ht : P.underlying t = some (.slice el)) (hi : P.info? el = some i) (hn : n ≤ c) :
    (Builtin.append_ #[t, t] ty #[.slice A n c, .slice B 0 k]).run P w = .ok (.slice A n c) w := by
  cases A <;> cases B <;> simp [Builtin.append_, run_underlying ht, sizeOf, typeInfo, hi, Builtin.lenOf, Builtin.firstCells, loadCells, loadCellsFrom, hn, storeCells]
theorem made_row {el : TypeId} {i : TypeInfo} {z : Value} (hzs : z.cells.size = i.size) {base n m cap : Nat} {us news : List Value} (hus : us.length = n * i.size) (hl : news.length = m * i.size) (hbase : base ≤ w.heap.size) (hc : n + m ≤ cap) (hm : cap ≤ maxLen) :
    (w.drew.alloc (.cells (us.toArray ++ news.toArray ++ Builtin.zeroCells z.cells (cap - (n + m))) el)).ownsRow base el i.size (.slice (some ⟨w.heap.size, 0, none⟩) (n + m) cap) (n + m) (us ++ news) := by
  have hlen : (us ++ news).length = (n + m) * i.size := by rw [List.length_append, hus, hl, Nat.add_mul]
  refine ⟨hlen, .inr ⟨w.heap.size, _, _, rfl, hbase, heap_alloc_new w.drew _, hc, hm, ?_, ?_⟩⟩
  · simp only [Array.size_append, List.size_toArray, size_zeroCells, hzs, hus, hl, ← Nat.add_mul]
    congr 1
    omega
  · simp only [Array.toList_append, List.append_assoc]
    rw [← List.append_assoc, ← hlen]
    exact List.take_left
theorem grew_new {o : Obj} {v v' : Value} (hv : v'.ownBlock = some w.heap.size) : Grew w (w.drew.alloc o) v v' :=
  ⟨rfl, rfl, rfl, by simp, .inr ⟨hv, by simp, fun b hb => heap_alloc_old w.drew _ b hb⟩⟩
theorem append_own {t ty el : TypeId} {i : TypeInfo} {z : Value} (ht : P.underlying t = some (.slice el)) (hi : P.info? el = some i) (hz : i.zero = some z) (hzs : z.cells.size = i.size) (hsz : 0 < i.size)
    {base n m c : Nat} {v : Value} {us news : List Value} (hown : w.ownsRow base el i.size v n us) (hbase : base ≤ w.heap.size) {A : Option Addr} (hl : news.length = m * i.size) (hA : m = 0 ∨ ∃ ad, A = some ad ∧ ∀ j u, news[j]? = some u → w.cell? (ad.add j) = some u) (h1 : ∀ u ∈ news, u.oneCell' = true)
    (hbytes : (n + m) * i.bytes ≤ 140737488355328) (hb2 : n + m ≤ 140737488355328) :
    ∃ v' w', (Builtin.append_ #[t, t] ty #[v, .slice A m c]).run P w = .ok v' w' ∧ w'.ownsRow base el i.size v' (n + m) (us ++ news) ∧ Grew w w' v v' ∧ (m = 0 → v' = v) := by
  rcases Nat.eq_zero_or_pos m with hm | hm
  · subst hm
    have hn : news = [] := List.eq_nil_of_length_eq_zero (by simpa using hl)
    subst hn
    obtain ⟨A', c', hv, hc', _⟩ := own_max hown
    refine ⟨v, w, ?_, by simpa using hown, ⟨rfl, rfl, rfl, Nat.le_refl _, .inl ⟨rfl, fun _ _ => rfl⟩⟩, fun _ => rfl⟩
    rw [hv]
    exact append_none ht hi hc'
  · obtain ⟨ad, rfl, hnews⟩ := hA.resolve_left (by omega)
    have hmx : maxLen = 9223372036854775807 := rfl
    rcases hown.2 with ⟨rfl, rfl⟩ | ⟨g, cap, cur, rfl, hbg, hg, hnc, hcm, hcs, htake⟩
    · have hx : us = [] := List.eq_nil_of_length_eq_zero (by simpa using hown.1)
      subst hx
      have hr := run_append_nil (P := P) w t ty el i z ht hi hz ad m c news hl hnews hm (by omega) (by simp only [Nat.zero_add] at hbytes; omega)
      have hrow := made_row (w := w) (el := el) (base := base) (n := 0) (us := []) (cap := grownCap w m 0 el) hzs (by simp) hl hbase (by rw [Nat.zero_add]; exact grownCap_ge w m 0 el) (grownCap_le_maxLen w m 0 el (by omega))
      simp only [Nat.zero_add, List.nil_append, Array.empty_append] at hrow ⊢
      exact ⟨_, _, hr, hrow, grew_new rfl, fun h => absurd h (by omega)⟩
    · by_cases hroom : n + m ≤ cap
      · have hfit : n * i.size + news.length ≤ cur.size := by rw [hl, hcs, ← Nat.add_mul]; exact Nat.mul_le_mul_right _ hroom
        have hr := run_append_room (P := P) w t ty el i ht hi g n cap cur hg ad m c news hl hnews h1 hroom hfit
        have hlen : (us ++ news).length = (n + m) * i.size := by rw [List.length_append, hown.1, hl, Nat.add_mul]
        refine ⟨_, _, hr, ⟨hlen, .inr ⟨g, cap, _, rfl, hbg, setRow_heap w g cur _ el _ hg, hroom, hcm, ?_, ?_⟩⟩, ⟨rfl, rfl, rfl, by simp, .inl ⟨rfl, fun b hb => setRow_other w g b _ (fun e => hb (by simp [Value.ownBlock, e]))⟩⟩, fun h => absurd h (by omega)⟩
        · simp only [List.size_toArray, List.length_append, List.length_take, List.length_drop, Array.length_toList]
          omega
        · rw [htake, ← hlen]
          exact List.take_left
      · have holds : ∀ j u, us[j]? = some u → w.cell? ((⟨g, 0, none⟩ : Addr).add j) = some u := hown.cells (g := g) rfl
        have hr := run_append_grow (P := P) w t ty el i z ht hi hz ⟨g, 0, none⟩ n cap us hown.1 holds ad m c news hl hnews (by omega) (by omega) (growslice_fits (by omega) hbytes)
        exact ⟨_, _, hr, made_row hzs hown.1 hl hbase (grownCap_ge w _ cap el) (grownCap_le_maxLen w _ cap el (by omega)), grew_new rfl, fun h => absurd h (by omega)⟩
theorem append_full {t ty el : TypeId} {i : TypeInfo} {z : Value} (ht : P.underlying t = some (.slice el)) (hi : P.info? el = some i) (hz : i.zero = some z) (hzs : z.cells.size = i.size) (hsz : 0 < i.size)
    {base n m c : Nat} {A : Option Addr} {us news : List Value} (hus : us.length = n * i.size) (hold : n = 0 ∨ ∃ b, A = some b ∧ ∀ j u, us[j]? = some u → w.cell? (b.add j) = some u) (hbase : base ≤ w.heap.size) {A2 : Option Addr} (hl : news.length = m * i.size) (hA : m = 0 ∨ ∃ ad, A2 = some ad ∧ ∀ j u, news[j]? = some u → w.cell? (ad.add j) = some u)
    (hm : 0 < m) (hbytes : (n + m) * i.bytes ≤ 140737488355328) (hb2 : n + m ≤ 140737488355328) :
    ∃ v' w', (Builtin.append_ #[t, t] ty #[.slice A n n, .slice A2 m c]).run P w = .ok v' w' ∧ w'.ownsRow base el i.size v' (n + m) (us ++ news) ∧ Grew w w' (.slice A n n) v' ∧ v'.ownBlock = some w.heap.size ∧ w.heap.size < w'.heap.size ∧ ∀ b, b < w.heap.size → w'.heap[b]? = w.heap[b]? := by
  obtain ⟨ad, rfl, hnews⟩ := hA.resolve_left (by omega)
  have hmx : maxLen = 9223372036854775807 := rfl
  cases A with
  | none =>
    have h0 : n = 0 := hold.resolve_right (by rintro ⟨b, hb, _⟩; cases hb)
    subst h0
    have hx : us = [] := List.eq_nil_of_length_eq_zero (by simpa using hus)
    subst hx
    have hr := run_append_nil (P := P) w t ty el i z ht hi hz ad m c news hl hnews hm (by omega) (by simp only [Nat.zero_add] at hbytes; omega)
    have hrow := made_row (w := w) (el := el) (base := base) (n := 0) (us := []) (cap := grownCap w m 0 el) hzs (by simp) hl hbase (by rw [Nat.zero_add]; exact grownCap_ge w m 0 el) (grownCap_le_maxLen w m 0 el (by omega))
    simp only [Nat.zero_add, List.nil_append, Array.empty_append] at hrow ⊢
    exact ⟨_, _, hr, hrow, grew_new rfl, rfl, by simp, fun b hb => heap_alloc_old w.drew _ b hb⟩
  | some b =>
    have holds : ∀ j u, us[j]? = some u → w.cell? (b.add j) = some u := by
      rcases hold with h0 | ⟨b', hb', h⟩
      · subst h0
        have hx : us = [] := List.eq_nil_of_length_eq_zero (by simpa using hus)
        subst hx
        intro j u hj; simp at hj
      · cases hb'; exact h
    have hr := run_append_grow (P := P) w t ty el i z ht hi hz b n n us hus holds ad m c news hl hnews (by omega) (by omega) (growslice_fits (by omega) hbytes)
    exact ⟨_, _, hr, made_row hzs hus hl hbase (grownCap_ge w _ n el) (grownCap_le_maxLen w _ n el (by omega)), grew_new rfl, rfl, by simp, fun b hb => heap_alloc_old w.drew _ b hb⟩
/-- A text that is appended. -/
theorem append_own_str {t u ty el : TypeId} {i : TypeInfo} (ht : P.underlying t = some (.slice el)) (hu : P.underlying u = some .string) (hi : P.info? el = some i) (hz : i.zero = some (.int .u8 0)) (hs1 : i.size = 1) (hby : i.bytes = 1)
    {base n : Nat} {v : Value} {us : List Value} (hown : w.ownsRow base el 1 v n us) (hbase : base ≤ w.heap.size) (s : ByteArray) (hb : n + s.size ≤ 140737488355328) :
    ∃ v' w', (Builtin.append_ #[t, u] ty #[v, .string s]).run P w = .ok v' w' ∧ w'.ownsRow base el 1 v' (n + s.size) (us ++ Lib.strCells s) ∧ Grew w w' v v' ∧ (s.size = 0 → v' = v) := by
  have hmx : maxLen = 9223372036854775807 := rfl
  have hxl : us.length = n := by simpa using hown.1
  have hsl := Lib.strCells_length s
  have mrow : ∀ cap, n + s.size ≤ cap → cap ≤ maxLen → (w.drew.alloc (.cells (us.toArray ++ (Lib.strCells s).toArray ++ Builtin.zeroCells (Value.int .u8 0).cells (cap - (n + s.size))) el)).ownsRow base el 1 (.slice (some ⟨w.heap.size, 0, none⟩) (n + s.size) cap) (n + s.size) (us ++ Lib.strCells s) := by
    intro cap hc hm
    have := made_row (w := w) (el := el) (i := i) (z := .int .u8 0) (base := base) (n := n) (m := s.size) (cap := cap) (us := us) (news := Lib.strCells s) (by rw [hs1]; rfl) (by rw [hs1, hxl, Nat.mul_one]) (by rw [hs1, hsl, Nat.mul_one]) hbase hc hm
    rw [hs1] at this
    exact this
  rcases hown.2 with ⟨rfl, rfl⟩ | ⟨g, cap, cur, rfl, hbg, hg, hnc, hcm, hcs, htake⟩
  · have hx : us = [] := List.eq_nil_of_length_eq_zero hxl
    subst hx
    by_cases hm : s.size = 0
    · have hn : Lib.strCells s = [] := List.eq_nil_of_length_eq_zero (by rw [hsl]; exact hm)
      refine ⟨.slice none 0 0, w, ?_, by rw [hm, hn]; exact World.ownsRow_nil w base el 1, ⟨rfl, rfl, rfl, Nat.le_refl _, .inl ⟨rfl, fun _ _ => rfl⟩⟩, fun _ => rfl⟩
      have hf := Lib.run_firstCells_string (P := P) w 1 s
      rw [hm] at hf
      simp [Builtin.append_, run_underlying ht, run_underlying hu, sizeOf, typeInfo, hi, hs1, Builtin.lenOf, hm, hf]
    · have hr := run_append_nil_string (P := P) w t u ty el i (.int .u8 0) ht hu hi hz s (by omega) (by omega) (by rw [hby]; omega)
      have e1 : (s.data.map fun b => Value.int .u8 b.toNat) = (Lib.strCells s).toArray := by
        apply Array.ext'
        simp [Lib.strCells]
      rw [e1] at hr
      have hrow := mrow (grownCap w s.size 0 el) (by rw [Nat.zero_add]; exact grownCap_ge w s.size 0 el) (grownCap_le_maxLen w s.size 0 el (by omega))
      simp only [Nat.zero_add, List.nil_append, Array.empty_append] at hrow ⊢
      exact ⟨_, _, hr, hrow, grew_new rfl, fun h => absurd h hm⟩
  · have hlen : (us ++ Lib.strCells s).length = (n + s.size) * 1 := by rw [List.length_append, hxl, hsl, Nat.mul_one]
    by_cases hroom : n + s.size ≤ cap
    · have hcs' : cur.size = cap := by simpa using hcs
      have hr := Lib.run_append_room_string (P := P) w t u ty el i ht hu hi hs1 g n cap cur hg s hroom (by omega)
      refine ⟨_, _, hr, ⟨hlen, .inr ⟨g, cap, _, rfl, hbg, setRow_heap w g cur _ el _ hg, hroom, hcm, ?_, ?_⟩⟩, ⟨rfl, rfl, rfl, by simp, .inl ⟨rfl, fun b hb => setRow_other w g b _ (fun e => hb (by simp [Value.ownBlock, e]))⟩⟩, fun h => by rw [h]; rfl⟩
      · simp only [List.size_toArray, List.length_append, List.length_take, List.length_drop, Array.length_toList, hsl]
        omega
      · have ht' : cur.toList.take n = us := by simpa using htake
        rw [ht', ← hlen]
        exact List.take_left
    · have holds : ∀ j u, us[j]? = some u → w.cell? ((⟨g, 0, none⟩ : Addr).add j) = some u := hown.cells (g := g) rfl
      have hr := Lib.run_append_grow_string (P := P) w t u ty el i (.int .u8 0) ht hu hi hz ⟨g, 0, none⟩ n cap us (by rw [hs1]; simpa using hxl) holds s (by omega) (by omega) (by rw [hby]; exact growslice_fits (by omega) (by omega))
      exact ⟨_, _, hr, mrow _ (grownCap_ge w _ cap el) (grownCap_le_maxLen w _ cap el (by omega)), grew_new rfl, fun h => absurd h (by omega)⟩
/-- The elements of a slice, as cells in a row. -/
theorem slice_cells {el : TypeId} {t : Ty} {xs : List t.den} {A : Option Addr} {c : Nat} (hr : CRel G.Φ w (.sl el t) xs [.slice A xs.length c]) :
    ∃ us : List Value, us.length = xs.length * t.size ∧ (∀ (j : Nat) (x : t.den), xs[j]? = some x → CRel G.Φ w t x ((us.drop (j * t.size)).take t.size)) ∧ (∀ u ∈ us, u.oneCell' = true) ∧ (xs.length = 0 ∨ ∃ g o, A = some ⟨g, o, none⟩ ∧ ∀ j u, us[j]? = some u → G.Φ g (o + j) ∧ w.cell? ⟨g, o + j, none⟩ = some u) := by
  obtain ⟨A', c', hv, _, _, g, o, hA, hcell⟩ := hr
  have hv' := (List.cons.inj hv).1
  simp only [Value.slice.injEq] at hv'
  obtain ⟨rfl, _, _⟩ := hv'
  have main : ∀ (l : List t.den) (o' : Nat), (∀ (j : Nat) (x : t.den), l[j]? = some x → ∃ us : List Value, us.length = t.size ∧ CRel G.Φ w t x us ∧ ∀ (i : Nat) (u : Value), us[i]? = some u → G.Φ g (o' + j * t.size + i) ∧ w.cell? ⟨g, o' + j * t.size + i, none⟩ = some u) →
      ∃ us : List Value, us.length = l.length * t.size ∧ (∀ (j : Nat) (x : t.den), l[j]? = some x → CRel G.Φ w t x ((us.drop (j * t.size)).take t.size)) ∧ (∀ u ∈ us, u.oneCell' = true) ∧ ∀ j u, us[j]? = some u → G.Φ g (o' + j) ∧ w.cell? ⟨g, o' + j, none⟩ = some u := by
    intro l
    induction l with
    | nil => intro o' _; exact ⟨[], by simp, fun j x hj => by simp at hj, fun u hu => by simp at hu, fun j u hj => by simp at hj⟩
    | cons y l ih =>
      intro o' h
      obtain ⟨us0, hl0, hr0, hc0⟩ := h 0 y rfl
      obtain ⟨us, h1, h2, h3, h4⟩ := ih (o' + t.size) (fun j x hj => by
        obtain ⟨us, a1, a2, a3⟩ := h (j + 1) x (by simpa using hj)
        refine ⟨us, a1, a2, fun i u hu => ?_⟩
        have := a3 i u hu
        rw [Nat.succ_mul, show o' + (j * t.size + t.size) + i = o' + t.size + j * t.size + i by omega] at this
        exact this)
      refine ⟨us0 ++ us, by rw [List.length_append, hl0, h1, List.length_cons, Nat.succ_mul]; omega, fun j x hj => ?_, fun u hu => ?_, fun j u hj => ?_⟩
      · cases j with
        | zero =>
          simp only [List.getElem?_cons_zero, Option.some.injEq] at hj
          subst hj
          rw [Nat.zero_mul, List.drop_zero, List.take_left' hl0]
          exact hr0
        | succ j =>
          have := h2 j x (by simpa using hj)
          rw [Nat.succ_mul, Nat.add_comm, ← List.drop_drop, List.drop_left' hl0]
          exact this
      · rcases List.mem_append.1 hu with hu | hu
        · exact hr0.one u hu
        · exact h3 u hu
      · rw [List.getElem?_append] at hj
        split at hj
        · have := hc0 j u hj
          rw [Nat.zero_mul, Nat.add_zero] at this
          exact this
        · have := h4 _ u hj
          rw [hl0, show o' + t.size + (j - t.size) = o' + j by omega] at this
          exact this
  obtain ⟨us, h1, h2, h3, h4⟩ := main xs o hcell
  refine ⟨us, h1, h2, h3, ?_⟩
  rcases hA with h0 | rfl
  · exact .inl h0
  · exact .inr ⟨g, o, rfl, h4⟩
end
end Go.Proofs.YtkjjegjafpefcaaDoor.R
