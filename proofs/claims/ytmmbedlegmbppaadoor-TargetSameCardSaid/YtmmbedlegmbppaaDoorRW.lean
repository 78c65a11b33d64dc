/- From a row's arguments to plain data, whatever the kinds: ints, bools, texts, slices, structs, arrays. -/
import Derived.Test.YtmmbedlegmbppaaDoorR25
import Derived.ChangeArms
import Derived.OpenShut
import Derived.ShutString
import Derived.Deep.Slices
import Derived.WideKeyArgs
import Derived.ChangeOld
import Derived.DataReads
import Derived.RowKit
import Derived.ChangeMaps5
namespace Go.Proofs.YtmmbedlegmbppaaDoor.R
open Go Go.RowKit Go.ChangeShapes Go.WideShapes
open Go.ChangeMaps (open_string)
set_option linter.unusedVariables false
set_option linter.unusedSimpArgs false
/-- The cells of all blocks that are there. -/
def allFz (W : World) : Fz := fun b _ => b < W.heap.size
/-- What a value may be. -/
def Ty.Wf : (u : Ty) → u.den → Prop
  | .int k, x => (Lit.int k x).wf = true
  | .bool, _ => True
  | .str, x => x.size ≤ 140737488351232
  | .sl _ t, xs => xs.length ≤ 140737488351232 ∧ ∀ x ∈ xs, t.Wf x
  | .pair a b, x => a.Wf x.1 ∧ b.Wf x.2
  | .agg t, x => t.Wf x
  | .err, _ => False
def TupWf : (l : List Ty) → Tup l → Prop
  | [], _ => True
  | [t], x => t.Wf x
  | t :: u :: r, x => t.Wf x.1 ∧ TupWf (u :: r) x.2
/-- Are the cells of a kind laid as the type says? -/
def fieldsOK (P : Program) (rec : TypeId → Ty → Bool) : Nat → List Field → Ty → Bool
  | o, [f], u => decide (f.offset = o) && decide (P.cellsOf f.type = u.size) && rec f.type u
  | o, f :: g :: r, .pair a b => decide (f.offset = o) && decide (P.cellsOf f.type = a.size) && rec f.type a && fieldsOK P rec (o + a.size) (g :: r) b
  | _, _, _ => false
def elemsOK (P : Program) (rec : TypeId → Ty → Bool) (e : TypeId) : Nat → Ty → Bool
  | 1, u => decide (P.cellsOf e = u.size) && rec e u
  | n + 2, .pair a b => decide (P.cellsOf e = a.size) && rec e a && elemsOK P rec e (n + 1) b
  | _, _ => false
def shapeOK (P : Program) : Nat → TypeId → Ty → Bool
  | 0, _, _ => false
  | n + 1, t, u => match P.underlying t with
    | some (.int k) => decide (u = .int k)
    | some .bool => decide (u = .bool)
    | some .string => decide (u = .str)
    | some (.slice e) => match u with
      | .sl e' v => decide (e = e') && decide (P.cellsOf e = v.size) && decide (0 < v.size) && decide (0 < P.bytesOf e) && shapeOK P n e v
      | _ => false
    | some (.struct fs) => decide (P.cellsOf t = u.size) && fieldsOK P (shapeOK P n) 0 fs.toList u.strip
    | some (.array len e) => decide (P.cellsOf t = u.size) && elemsOK P (shapeOK P n) e len u.strip
    | _ => false
section
variable {H : Type} {enc : TypeId × Value → H} {P : Program} {W : World} {sp : Nat → Bool}
theorem strip_rel {u : Ty} {cs : List Value} (h : ∃ y : u.strip.den, CRel (allFz W) W u.strip y cs ∧ u.strip.Wf y) : ∃ y : u.den, CRel (allFz W) W u y cs ∧ u.Wf y := by
  cases u with
  | agg t => exact h
  | _ => exact h
/-- No string, and no slice, is greater than can be. -/
def Fit (P : Program) (t : TypeId) (d : DataW H) : Prop := (d.weights P t).all (fun n => decide (n ≤ reachBytes)) = true
theorem Fit.each {P : Program} : ∀ {ts : List TypeId} {ds : List (DataW H)}, (DataW.weightsEach P ts ds).all (fun n => decide (n ≤ reachBytes)) = true → ∀ (i : Nat) (t : TypeId) (d : DataW H), ts[i]? = some t → ds[i]? = some d → Fit P t d
  | [], ds, _, i, t, d, ht, _ => by simp at ht
  | _ :: _, [], _, i, t, d, _, hd => by simp at hd
  | t0 :: ts, d0 :: ds, h, i, t, d, ht, hd => by
    simp only [DataW.weightsEach, List.all_append, Bool.and_eq_true] at h
    cases i with
    | zero =>
      simp at ht hd
      subst ht hd
      exact h.1
    | succ i => exact Fit.each h.2 i t d (by simpa using ht) (by simpa using hd)
theorem Fit.all {P : Program} {e : TypeId} : ∀ {ds : List (DataW H)}, (DataW.weightsAll P e ds).all (fun n => decide (n ≤ reachBytes)) = true → ∀ d ∈ ds, Fit P e d
  | [], _, d, hd => by cases hd
  | d0 :: ds, h, d, hd => by
    simp only [DataW.weightsAll, List.all_append, Bool.and_eq_true] at h
    rcases List.mem_cons.1 hd with rfl | hd
    · exact h.1
    · exact Fit.all h.2 d hd
theorem fields_rel {rec : TypeId → Ty → Bool} {m : Nat} (hrec : ∀ t u cs x, rec t u = true → DataW.trod enc P W 0 sp true m t cs = some x → Fit P t x.1 → ∃ y : u.den, CRel (allFz W) W u y cs ∧ u.Wf y) {cs : List Value} :
    ∀ (fl : List Field) (o : Nat) (u : Ty), fieldsOK P rec o fl u = true → (∀ f ∈ fl, ∃ x, DataW.trod enc P W 0 sp true m f.type ((cs.drop f.offset).take (P.cellsOf f.type)) = some x ∧ Fit P f.type x.1) → cs.length = o + u.size → ∃ y : u.den, CRel (allFz W) W u y (cs.drop o) ∧ u.Wf y
  | [], o, u, h, _, _ => by simp [fieldsOK] at h
  | [f], o, u, h, hf, hl => by
    simp only [fieldsOK, Bool.and_eq_true, decide_eq_true_eq] at h
    obtain ⟨⟨h1, h2⟩, h3⟩ := h
    obtain ⟨x, hx, hft⟩ := hf f (by simp)
    rw [h1, h2, List.take_of_length_le (by rw [List.length_drop]; omega)] at hx
    exact hrec _ _ _ _ h3 hx hft
  | f :: g :: r, o, u, h, hf, hl => by
    cases u with
    | pair a b =>
      simp only [fieldsOK, Bool.and_eq_true, decide_eq_true_eq] at h
      obtain ⟨⟨⟨h1, h2⟩, h3⟩, h4⟩ := h
      have hl' : cs.length = o + (a.size + b.size) := hl
      obtain ⟨x, hx, hft⟩ := hf f (by simp)
      rw [h1, h2] at hx
      obtain ⟨y, hy, hw⟩ := hrec _ _ _ _ h3 hx hft
      obtain ⟨z, hz, hv⟩ := fields_rel hrec (g :: r) (o + a.size) b h4 (fun f' hf' => hf f' (by simp at hf' ⊢; right; exact hf')) (by omega)
      refine ⟨(y, z), ⟨_, _, ?_, hy, hz⟩, hw, hv⟩
      rw [← List.drop_drop, List.take_append_drop]
    | _ => simp [fieldsOK] at h
theorem elems_rel {rec : TypeId → Ty → Bool} {m : Nat} (hrec : ∀ t u cs x, rec t u = true → DataW.trod enc P W 0 sp true m t cs = some x → Fit P t x.1 → ∃ y : u.den, CRel (allFz W) W u y cs ∧ u.Wf y) {cs : List Value} {e : TypeId} {len : Nat}
    (hf : ∀ i, i < len → ∃ x, DataW.trod enc P W 0 sp true m e ((cs.drop (i * P.cellsOf e)).take (P.cellsOf e)) = some x ∧ Fit P e x.1) :
    ∀ (n i : Nat) (u : Ty), elemsOK P rec e n u = true → i + n = len → cs.length = i * P.cellsOf e + u.size → ∃ y : u.den, CRel (allFz W) W u y (cs.drop (i * P.cellsOf e)) ∧ u.Wf y
  | 0, i, u, h, _, _ => by simp [elemsOK] at h
  | 1, i, u, h, hi, hl => by
    simp only [elemsOK, Bool.and_eq_true, decide_eq_true_eq] at h
    obtain ⟨h2, h3⟩ := h
    obtain ⟨x, hx, hft⟩ := hf i (by omega)
    rw [List.take_of_length_le (by rw [List.length_drop]; omega)] at hx
    exact hrec _ _ _ _ h3 hx hft
  | n + 2, i, u, h, hi, hl => by
    cases u with
    | pair a b =>
      simp only [elemsOK, Bool.and_eq_true, decide_eq_true_eq] at h
      obtain ⟨⟨h2, h3⟩, h4⟩ := h
      have hl' : cs.length = i * P.cellsOf e + (a.size + b.size) := hl
      obtain ⟨x, hx, hft⟩ := hf i (by omega)
      obtain ⟨y, hy, hw⟩ := hrec _ _ _ _ h3 hx hft
      obtain ⟨z, hz, hv⟩ := elems_rel hrec hf (n + 1) (i + 1) b h4 (by omega) (by rw [Nat.succ_mul]; omega)
      refine ⟨(y, z), ⟨_, _, ?_, hy, hz⟩, hw, hv⟩
      rw [Nat.succ_mul, ← List.drop_drop, List.take_append_drop]
    | _ => simp [elemsOK] at h
theorem trod_rel : ∀ (n : Nat) (t : TypeId) (u : Ty), shapeOK P n t u = true → ∀ (fuel : Nat) (cs : List Value) (x : DataW H × List MemPlace), DataW.trod enc P W 0 sp true fuel t cs = some x → Fit P t x.1 → ∃ y : u.den, CRel (allFz W) W u y cs ∧ u.Wf y
  | 0, t, u, h, _, _, _, _, _ => by simp [shapeOK] at h
  | n + 1, t, u, h, fuel, cs, x, hx, hfit => by
    unfold shapeOK at h
    split at h
    · rename_i k hu
      obtain rfl : u = _ := by simpa using h
      obtain ⟨m, rfl, _, hw⟩ := DataW.trod_int hu hx
      exact ⟨m, rfl, hw⟩
    · rename_i hu
      obtain rfl : u = _ := by simpa using h
      obtain ⟨m, rfl, _⟩ := DataW.trod_bool hu hx
      exact ⟨m, rfl, trivial⟩
    · rename_i hu
      obtain rfl : u = _ := by simpa using h
      obtain ⟨m, rfl, hx1, _⟩ := DataW.trod_string hu hx
      refine ⟨m, rfl, ?_⟩
      rw [hx1] at hfit
      have : m.data.toList.length ≤ reachBytes := by simpa [Fit, DataW.weights] using hfit
      rw [Array.length_toList] at this
      exact this
    · rename_i e hu
      cases u with
      | sl e' v =>
        simp only [Bool.and_eq_true, decide_eq_true_eq] at h
        obtain ⟨⟨⟨⟨rfl, hsz⟩, hpos⟩, hbp⟩, hr⟩ := h
        rcases Deep.open_slice hu hx with ⟨rfl, _⟩ | ⟨a, len, cap, m, f, D, Pl, rfl, _, hlc, hcm, hm, hxe, hel⟩
        · exact ⟨[], ⟨none, 0, rfl, Nat.le_refl _, by decide, 0, 0, .inl rfl, fun j y hj => by simp at hj⟩, Nat.zero_le _, fun y hy => by cases hy⟩
        · have hlm : len ≤ m := by rw [hm]; split <;> omega
          have hcm' : cap ≤ 9223372036854775807 := hcm
          rw [hxe] at hfit
          have hfit1 : (DataW.weights P t (DataW.slice ((List.range len).map D) ((List.range (m - len)).map fun j => D (len + j)))).all (fun n => decide (n ≤ reachBytes)) = true := hfit
          simp only [DataW.weights, hu, List.all_cons, List.all_append, Bool.and_eq_true, decide_eq_true_eq, List.length_map, List.length_range] at hfit1
          obtain ⟨hw1, hw2, _⟩ := hfit1
          have hlenb : len ≤ 140737488351232 := by
            have h1 : len + (m - len) ≤ (len + (m - len)) * P.bytesOf e := Nat.le_mul_of_pos_right _ hbp
            have h2 : (len + (m - len)) * P.bytesOf e ≤ 140737488351232 := hw1
            omega
          have hfe : ∀ i, i < len → Fit P e (D i) := fun i hi => Fit.all hw2 (D i) (List.mem_map.2 ⟨i, List.mem_range.2 hi, rfl⟩)
          have each : ∀ i, i < len → ∃ y : v.den, ∃ us : List Value, us.length = v.size ∧ CRel (allFz W) W v y us ∧ v.Wf y ∧ ∀ (j : Nat) (z : Value), us[j]? = some z → W.cell? (a.add (i * v.size + j)) = some z := by
            intro i hi
            obtain ⟨us, h1, h2⟩ := hel i (by omega)
            obtain ⟨y, hy, hw⟩ := trod_rel n e v hr f us _ h2 (hfe i hi)
            obtain ⟨_, hl, hc⟩ := World.cells?_some h1
            refine ⟨y, us, by rw [hl, hsz], hy, hw, fun j z hz => ?_⟩
            have hj : j < us.length := (List.getElem?_eq_some_iff.1 hz).1
            have := hc j (by omega)
            rw [hz, hsz] at this
            rw [← this]
            congr 1
            simp only [Addr.add]
            split <;> split <;> (try split) <;> simp_all <;> omega
          classical
          by_cases h0 : len = 0
          · subst h0
            exact ⟨[], ⟨some a, cap, rfl, Nat.zero_le _, hcm', 0, 0, .inl rfl, fun j y hj => by simp at hj⟩, Nat.zero_le _, fun y hy => by cases hy⟩
          · obtain ⟨g, hg⟩ : ∃ g : Nat → v.den, ∀ i, i < len → ∃ us : List Value, us.length = v.size ∧ CRel (allFz W) W v (g i) us ∧ v.Wf (g i) ∧ ∀ (j : Nat) (z : Value), us[j]? = some z → W.cell? (a.add (i * v.size + j)) = some z :=
              ⟨fun i => if hi : i < len then (each i hi).choose else v.dft, fun i hi => by simp only [dif_pos hi]; exact (each i hi).choose_spec⟩
            obtain ⟨b, o, spot⟩ := a
            have hspot : spot = none := by
              obtain ⟨us, hul, _, _, hc⟩ := hg 0 (by omega)
              have := World.cell?_spot (hc 0 us[0] (List.getElem?_eq_getElem (by omega)))
              simpa [Addr.add] using this
            subst hspot
            have hll : ((List.range len).map g).length = len := by simp
            refine ⟨(List.range len).map g, ⟨some ⟨b, o, none⟩, cap, by rw [hll], by rw [hll]; exact hlc, hcm', b, o, .inr rfl, fun j y hj => ?_⟩, by rw [hll]; exact hlenb, fun y hy => ?_⟩
            · have hjl : j < len := by have := (List.getElem?_eq_some_iff.1 hj).1; rwa [hll] at this
              obtain ⟨us, h1, h2, h3, h4⟩ := hg j hjl
              have : g j = y := by simpa [hjl] using hj
              subst this
              refine ⟨us, h1, h2, fun i z hz => ?_⟩
              have hc := h4 i z hz
              rw [add_cell] at hc
              rw [show o + j * v.size + i = o + (j * v.size + i) by omega]
              exact ⟨World.block_lt_of_cell? W _ hc, hc⟩
            · obtain ⟨i, hi, rfl⟩ := List.mem_map.1 hy
              obtain ⟨_, _, _, h3, _⟩ := hg i (List.mem_range.1 hi)
              exact h3
      | _ => simp at h
    · rename_i fs hu
      simp only [Bool.and_eq_true, decide_eq_true_eq] at h
      obtain ⟨hsz, h⟩ := h
      obtain ⟨xs, m, rfl, hxe, hl, hxl, hf⟩ := DataW.trod_struct hu hx
      rw [hxe] at hfit
      have hfit1 : (DataW.weights P t (DataW.agg (xs.map (·.1)))).all (fun n => decide (n ≤ reachBytes)) = true := hfit
      simp only [DataW.weights, hu] at hfit1
      refine strip_rel ?_
      have := fields_rel (cs := cs) (m := m) (fun t u cs x h1 h2 h3 => trod_rel n t u h1 m cs x h2 h3) fs.toList 0 u.strip h (fun f hfm => by
        obtain ⟨i, hi, rfl⟩ := List.mem_iff_getElem.1 hfm
        have hi' : i < fs.size := by simpa using hi
        have := hf i fs[i] (Array.getElem?_eq_getElem hi')
        rw [Array.getElem_toList]
        rw [this]
        have hix : i < xs.length := by omega
        refine ⟨_, List.getElem?_eq_getElem hix, Fit.each hfit1 i _ _ ?_ ?_⟩
        · rw [List.getElem?_map, List.getElem?_eq_getElem hi, Option.map_some, Array.getElem_toList]
        · rw [List.getElem?_map, List.getElem?_eq_getElem hix, Option.map_some]) (by rw [strip_size]; omega)
      simpa using this
    · rename_i len e hu
      simp only [Bool.and_eq_true, decide_eq_true_eq] at h
      obtain ⟨hsz, h⟩ := h
      obtain ⟨xs, m, rfl, hxe, hl, hxl, hf⟩ := DataW.trod_array hu hx
      rw [hxe] at hfit
      have hfit1 : (DataW.weights P t (DataW.agg (xs.map (·.1)))).all (fun n => decide (n ≤ reachBytes)) = true := hfit
      simp only [DataW.weights, hu] at hfit1
      refine strip_rel ?_
      have := elems_rel (cs := cs) (m := m) (e := e) (len := len) (fun t u cs x h1 h2 h3 => trod_rel n t u h1 m cs x h2 h3) (fun i hi => by
        have hix : i < xs.length := by omega
        rw [hf i hi]; exact ⟨_, List.getElem?_eq_getElem hix, Fit.all hfit1 _ (List.mem_map.2 ⟨_, List.getElem_mem hix, rfl⟩)⟩) len 0 u.strip h (by omega) (by rw [strip_size]; omega)
      simpa using this
    · cases h
/-- An argument, as plain data. -/
theorem arg_rel {n : Nat} {t : TypeId} {u : Ty} {v : Value} {d : DataW H} {ps : List MemPlace} (h : shapeOK P n t u = true) (hag : isAggT P t = (match u with | .agg _ => true | _ => false)) (hval : Value.okWide P W .any 0 t v) (h0 : DataW.Trod enc P W 0 sp true t v d ps) (hfit : Fit P t d) :
    ∃ x : u.den, VRel (allFz W) W u x v ∧ u.Wf x := by
  obtain ⟨fuel, hf⟩ := id h0
  obtain ⟨y, hy, hw⟩ := trod_rel n t u h fuel _ _ hf hfit
  have one : (∀ w, u ≠ .agg w) → v.cells.toList = [v] := by
    intro hu
    have hna : isAggT P t = false := by
      rw [hag]
      cases u with
      | agg w => exact absurd rfl (hu w)
      | _ => rfl
    unfold Value.okWide at hval
    unfold isAggT at hna
    cases hn : n with
    | zero => rw [hn] at h; simp [shapeOK] at h
    | succ m =>
      rw [hn] at h
      unfold shapeOK at h
      split at h
      · rename_i k hk
        obtain ⟨m, rfl, _⟩ := open_int hk (show Value.okWide P W .any 0 t v by unfold Value.okWide; exact hval) h0
        rfl
      · rename_i hk
        obtain ⟨m, rfl, _⟩ := open_bool hk (show Value.okWide P W .any 0 t v by unfold Value.okWide; exact hval) h0
        rfl
      · rename_i hk
        obtain ⟨m, rfl, _⟩ := open_string hk (show Value.okWide P W .any 0 t v by unfold Value.okWide; exact hval) h0
        rfl
      · rename_i e hk
        obtain ⟨a, len, cap, rfl⟩ := okWide_slice hk (show Value.okWide P W .any 0 t v by unfold Value.okWide; exact hval)
        rfl
      · rename_i fs hk
        rw [hk] at hna; cases hna
      · rename_i len e hk
        rw [hk] at hna; cases hna
      · cases h
  cases u with
  | agg w =>
    have : ∃ us, v = .agg us := by
      unfold Value.okWide at hval
      simp only at hag
      unfold isAggT at hag
      split at hag
      · rename_i fs hk
        rw [hk] at hval
        obtain ⟨cs, hv, _⟩ := hval
        exact ⟨cs, hv⟩
      · rename_i n e hk
        rw [hk] at hval
        obtain ⟨cs, hv, _⟩ := hval
        exact ⟨cs, hv⟩
      · cases hag
    obtain ⟨us, rfl⟩ := this
    exact ⟨y, ⟨us, rfl, hy⟩, hw⟩
  | int k => rw [one (fun w h => nomatch h)] at hy; exact ⟨y, hy, hw⟩
  | bool => rw [one (fun w h => nomatch h)] at hy; exact ⟨y, hy, hw⟩
  | str => rw [one (fun w h => nomatch h)] at hy; exact ⟨y, hy, hw⟩
  | sl e w => rw [one (fun w h => nomatch h)] at hy; exact ⟨y, hy, hw⟩
  | pair a b => rw [one (fun w h => nomatch h)] at hy; exact ⟨y, hy, hw⟩
  | err => exact hw.elim
end
end Go.Proofs.YtmmbedlegmbppaaDoor.R
