/- The names of a map, in their order: the part of vary.Names that goes through the map, by hand. -/
import Derived.Test.YtmmbedlegmbppaaDoorRT
import Derived.Test.YtmmbedlegmbppaaDoorShelf
import Derived.Maps.RangeWalk
import Derived.Maps.AppendAt
import Derived.Sort.KeysCollected
import Derived.Sort.OwnSorted
import Derived.StringKeys
namespace Go.Proofs.YtmmbedlegmbppaaDoor.R
open Go Go.RowKit Go.Shelf Go.Maps Go.Sort
open Go.WideElems (Fit rd rg)
set_option linter.unusedVariables false
def codeR : Code → Code
  | .seq _ b => b
  | c => c
def codeL : Code → Code
  | .seq a _ => a
  | c => c
noncomputable def namesTail : Code := codeR (codeR (codeR (codeR ((Tryd.prog.funcs[15]?.bind fun f => f.body).getD .skip))))
def keysIn (x : List (ByteArray × Bool)) : List (List UInt8) := x.map fun p => p.1.data.toList
def keysF (k : Nat) (x : List (ByteArray × Bool)) : Option (List ByteArray) :=
  if (keysIn x).Nodup ∧ x.length ≤ 100000 ∧ (∀ p ∈ keysIn x, p.length ≤ 1000000) then some (((keysIn x).mergeSort fun x y => decide (x ≤ y)).map fun l => ⟨l.toArray⟩) else none
abbrev namesFragF := keysF
noncomputable def namesFrag : FSpec where
  code := codeL namesTail
  then_ := codeL (codeR namesTail)
  last_ := codeL (codeR (codeR namesTail))
  m := 6
  kd := .str
  vd := .bool
  d := 9
  res := .sl 9 .str
  clob := [10, 35, 36, 37, 38, 39, 40, 41, 42, 43, 44, 45, 46]
  size := 48
  F := keysF
def boolR : Value → Option (DataW Unit × List MemPlace)
  | .bool b => some (.lit (.bool b), [])
  | _ => none
theorem mapIs_keys {Φ : Fz} {w : World} : ∀ (x : List (ByteArray × Bool)) (ens : List MapEntry), MapIs Φ w .str .bool x ens → ens.map (·.key) = x.map (fun p => Value.string p.1) ∧ ∀ en ∈ ens, ∃ b, en.val = .bool b
  | [], ens, h => by rw [show ens = [] from h]; exact ⟨rfl, fun en he => by cases he⟩
  | p :: r, ens, h => by
    obtain ⟨en, rest, rfl, h1, h2, h3⟩ := h
    obtain ⟨q1, q2⟩ := mapIs_keys r rest h3
    have e1 : en.key = .string p.1 := (List.cons.inj (show [en.key] = [Value.string p.1] from h1)).1
    have e2 : en.val = .bool p.2 := (List.cons.inj (show [en.val] = [Value.bool p.2] from h2)).1
    refine ⟨by simp [e1, q1], fun en' he => ?_⟩
    rcases List.mem_cons.1 he with rfl | he
    · exact ⟨_, e2⟩
    · exact q2 en' he
theorem fit_of {Φ : Fz} {w : World} {x : List (ByteArray × Bool)} {ens : Array MapEntry} {clk : Nat} (hmi : MapIs Φ w .str .bool x ens.toList) (hbo : BornOK ens clk) (hn : (keysIn x).Nodup) (hl : x.length ≤ 100000) (hs : ∀ p ∈ keysIn x, p.length ≤ 1000000) : Fit Tryd.prog 9 boolR ens clk := by
  obtain ⟨h1, h2⟩ := mapIs_keys x ens.toList hmi
  have hlen : ens.size = x.length := by
    have := congrArg List.length h1
    simpa using this
  refine ⟨by unfold maxLen; omega, ⟨hbo.1, hbo.2, ?_⟩, fun en he => ?_⟩
  · rw [h1]
    unfold keysIn at hn
    refine List.pairwise_map.2 ((List.pairwise_map.1 hn).imp fun {a b} hne e => hne ?_)
    rw [Value.string.inj e]
  · obtain ⟨b, hb⟩ := h2 en he
    have hk : en.key ∈ x.map (fun p => Value.string p.1) := by rw [← h1]; exact List.mem_map_of_mem he
    obtain ⟨p, hp, hpe⟩ := List.mem_map.1 hk
    have hsz : p.1.size ≤ maxLen := by
      have := hs p.1.data.toList (List.mem_map_of_mem hp)
      rw [Array.length_toList] at this
      exact Nat.le_trans this (by unfold maxLen; omega)
    obtain ⟨key, val, born⟩ := en
    simp only at hb hpe
    subst hb
    rw [← hpe]
    exact ⟨_, WideElems.rd_mk (Go.WideMaps.keyOf_string_mk Tryd.underlying9 hsz) rfl⟩
theorem coll_of {Φ : Fz} {w : World} {x : List (ByteArray × Bool)} {ens : Array MapEntry} {clk : Nat} (hmi : MapIs Φ w .str .bool x ens.toList) (hf : Fit Tryd.prog 9 boolR ens clk) (hn : (keysIn x).Nodup) :
    Collected (.map ((ens.toList.map (rg Tryd.prog 9 boolR)).foldr DataW.insert []) : DataW Unit) (fun _ => false) (keysIn x) := by
  obtain ⟨h1, h2⟩ := mapIs_keys x ens.toList hmi
  refine ⟨hn, fun b => ?_⟩
  rw [has_eq, List.any_eq_true]
  constructor
  · intro hb
    obtain ⟨p, hp, rfl⟩ := List.mem_map.1 hb
    have hk : Value.string p.1 ∈ ens.toList.map (·.key) := by rw [h1]; exact List.mem_map.2 ⟨p, hp, rfl⟩
    obtain ⟨en, he, hke⟩ := List.mem_map.1 hk
    obtain ⟨y, hy⟩ := hf.reads en he
    obtain ⟨z, hz, hyz, _⟩ := Maps.keyOf_str Tryd.underlying9 (WideElems.rd_key hy)
    refine ⟨⟨y, mem_sorted.2 (List.mem_map.2 ⟨en, he, WideElems.rg_of hy⟩), ?_⟩, rfl⟩
    have : z = p.1.data.toList := by
      rw [hke] at hz
      have := congrArg (fun v => match v with | Value.string s => s.data.toList | _ => []) hz
      simpa [encStr] using this.symm
    rw [hyz, this]; simp [Lit.sameKey]
  · rintro ⟨⟨y, hy, hs⟩, _⟩
    obtain ⟨en, he, rfl⟩ := List.mem_map.1 (mem_sorted.1 hy)
    obtain ⟨y, hy'⟩ := hf.reads en he
    rw [WideElems.rg_of hy'] at hs
    obtain ⟨z, hz, hyz, _⟩ := Maps.keyOf_str Tryd.underlying9 (WideElems.rd_key hy')
    rw [hyz] at hs
    have hzb : z = b := by simpa [Lit.sameKey] using hs
    have hk : en.key ∈ x.map (fun p => Value.string p.1) := by rw [← h1]; exact List.mem_map_of_mem he
    obtain ⟨p, hp, hpe⟩ := List.mem_map.1 hk
    refine List.mem_map.2 ⟨p, hp, ?_⟩
    rw [hz] at hpe
    have := congrArg (fun v => match v with | Value.string s => s.data.toList | _ => []) hpe
    rw [← hzb]
    simpa [encStr] using this
def Held (p : Prop) : Prop := p
theorem held {p : Prop} (h : Held p) : p := h
theorem info9 : (Tryd.prog.info? 9).map (fun i => (i.zero, i.size, i.bytes)) = some (some (.string ⟨#[]⟩), 1, 16) := by kernel_rfl
theorem frag_of {P : Program} {n : Nat} {fn : Func} {body : Code} (hf : P.funcs[n]? = some fn) (hb : fn.body = some body) : codeR (codeR (codeR (codeR ((P.funcs[n]?.bind fun f => f.body).getD .skip)))) = codeR (codeR (codeR (codeR body))) := by
  rw [hf]; simp [hb]
set_option maxRecDepth 100000 in
set_option maxHeartbeats 4000000 in
theorem names_sound : FSpec.Sound P T namesFrag := by
  intro k x y hy Φ a w g ens clk Q hT hfz hdef hsize hm hh hmi hbo hK
  obtain ⟨t, ds⟩ := a
  obtain rfl : ds = [] := hdef
  obtain ⟨l⟩ := t
  have hl : l.length = 48 := hsize
  obtain _ | ⟨t0, l⟩ := l
  · simp at hl
  obtain _ | ⟨t1, l⟩ := l
  · simp at hl
  obtain _ | ⟨t2, l⟩ := l
  · simp at hl
  obtain _ | ⟨t3, l⟩ := l
  · simp at hl
  obtain _ | ⟨t4, l⟩ := l
  · simp at hl
  obtain _ | ⟨t5, l⟩ := l
  · simp at hl
  obtain _ | ⟨t6, l⟩ := l
  · simp at hl
  obtain _ | ⟨t7, l⟩ := l
  · simp at hl
  obtain _ | ⟨t8, l⟩ := l
  · simp at hl
  obtain _ | ⟨t9, l⟩ := l
  · simp at hl
  obtain _ | ⟨t10, l⟩ := l
  · simp at hl
  obtain _ | ⟨t11, l⟩ := l
  · simp at hl
  obtain _ | ⟨t12, l⟩ := l
  · simp at hl
  obtain _ | ⟨t13, l⟩ := l
  · simp at hl
  obtain _ | ⟨t14, l⟩ := l
  · simp at hl
  obtain _ | ⟨t15, l⟩ := l
  · simp at hl
  obtain _ | ⟨t16, l⟩ := l
  · simp at hl
  obtain _ | ⟨t17, l⟩ := l
  · simp at hl
  obtain _ | ⟨t18, l⟩ := l
  · simp at hl
  obtain _ | ⟨t19, l⟩ := l
  · simp at hl
  obtain _ | ⟨t20, l⟩ := l
  · simp at hl
  obtain _ | ⟨t21, l⟩ := l
  · simp at hl
  obtain _ | ⟨t22, l⟩ := l
  · simp at hl
  obtain _ | ⟨t23, l⟩ := l
  · simp at hl
  obtain _ | ⟨t24, l⟩ := l
  · simp at hl
  obtain _ | ⟨t25, l⟩ := l
  · simp at hl
  obtain _ | ⟨t26, l⟩ := l
  · simp at hl
  obtain _ | ⟨t27, l⟩ := l
  · simp at hl
  obtain _ | ⟨t28, l⟩ := l
  · simp at hl
  obtain _ | ⟨t29, l⟩ := l
  · simp at hl
  obtain _ | ⟨t30, l⟩ := l
  · simp at hl
  obtain _ | ⟨t31, l⟩ := l
  · simp at hl
  obtain _ | ⟨t32, l⟩ := l
  · simp at hl
  obtain _ | ⟨t33, l⟩ := l
  · simp at hl
  obtain _ | ⟨t34, l⟩ := l
  · simp at hl
  obtain _ | ⟨t35, l⟩ := l
  · simp at hl
  obtain _ | ⟨t36, l⟩ := l
  · simp at hl
  obtain _ | ⟨t37, l⟩ := l
  · simp at hl
  obtain _ | ⟨t38, l⟩ := l
  · simp at hl
  obtain _ | ⟨t39, l⟩ := l
  · simp at hl
  obtain _ | ⟨t40, l⟩ := l
  · simp at hl
  obtain _ | ⟨t41, l⟩ := l
  · simp at hl
  obtain _ | ⟨t42, l⟩ := l
  · simp at hl
  obtain _ | ⟨t43, l⟩ := l
  · simp at hl
  obtain _ | ⟨t44, l⟩ := l
  · simp at hl
  obtain _ | ⟨t45, l⟩ := l
  · simp at hl
  obtain _ | ⟨t46, l⟩ := l
  · simp at hl
  obtain _ | ⟨t47, l⟩ := l
  · simp at hl
  obtain _ | ⟨tx, l⟩ := l
  rotate_left
  · simp at hl
  obtain ⟨⟨hnd, hxl, hks⟩, hyy⟩ : ((keysIn x).Nodup ∧ x.length ≤ 100000 ∧ (∀ p ∈ keysIn x, p.length ≤ 1000000)) ∧ ((keysIn x).mergeSort fun x y => decide (x ≤ y)).map (fun l => (⟨l.toArray⟩ : ByteArray)) = y := by
    have h : keysF k x = some y := hy
    unfold keysF at h
    split at h
    · rename_i hc; exact ⟨hc, Option.some.inj h⟩
    · cases h
  have hx : w.ownsMap Tryd.prog 9 boolR g ens.size (.map ((ens.toList.map (rg Tryd.prog 9 boolR)).foldr DataW.insert [])) := ⟨ens, clk, hh, fit_of hmi hbo hnd hxl hks, Nat.le_refl _, rfl⟩
  generalize hD0 : (DataW.map ((ens.toList.map (rg Tryd.prog 9 boolR)).foldr DataW.insert []) : DataW Unit) = D0 at hx
  have hbl : g < w.heap.size := (Array.getElem?_eq_some_iff.1 hh).1
  have hmax : Maps.size D0 ≤ 100000 := by
    have hl2 := congrArg List.length (mapIs_keys x ens.toList hmi).1
    rw [← hD0]
    show (List.foldr DataW.insert [] _).length ≤ _
    rw [length_sorted, List.length_map]
    have hl3 : ens.toList.length = x.length := (List.length_map ..).symm.trans (hl2.trans (List.length_map ..))
    exact hl3 ▸ hxl
  have law9 : Keyed Tryd.prog 9 := string_keyed Tryd.underlying9
  have hT0 : namesTail = codeR (codeR (codeR (codeR _))) := frag_of Tryd.func15 rfl
  have hm' : t6 = .map (some g) := hm
  subst hm'
  show Code.wp Tryd.prog (codeL namesTail) (Exit.then (Code.wp Tryd.prog (codeL (codeR namesTail)) (Exit.then (Code.wp Tryd.prog (codeL (codeR (codeR namesTail))) Q) Q)) Q) _ w
  rw [hT0]
  dsimp only [codeL, codeR]
  clear hm hsize hl hT0
  go_wp2_with (first
    | (at_range; refine wpList_range_own _ rfl _ 66 rfl 9 4 law9 Tryd.underlying66 _ g ens.size _ rfl hx ?_; intro w0 hrg0 hg0 hs0)
    | go_in)
  go_loopw [9] (fun v wr => ∃ (left : Lit → Bool) (cnt : Nat) (ss : List (List UInt8)), wr.ranges Tryd.prog 9 boolR g w.heap.size ens.size D0 left cnt ∧ ss.length + cnt ≤ Maps.size D0 ∧
      wr.ownsRow w.heap.size 9 1 v ss.length (ss.map encStr) ∧ Collected D0 left ss ∧ Below w.heap.size w wr)
    (fun _ wr => wr.rangeLeft g w.heap.size)
  case atStart =>
    exact ⟨_, _, [], hrg0, by simp, ⟨rfl, .inl ⟨rfl, rfl⟩⟩, Collected.start D0, (Below.refl _ _).grown hg0 (Nat.le_refl _) (fun j hj => by cases hj)⟩
  case round =>
    obtain ⟨left, cnt, ss, hrg, hcs, hrow, hC, hnx⟩ := hrel
    go_wp2_with (first
      | (at_next; refine wpList_next_ranges _ rfl _ rfl 9 law9 boolR encStr (fun v : Value => v) (fun key kl hk => by obtain ⟨x, hx, _⟩ := Maps.keyOf_str Tryd.underlying9 hk; exact ⟨x, hx⟩) (fun v y hv => ⟨v, rfl⟩) g w.heap.size ens.size _ _ _ rfl hrg ?_ ?_)
      | go_in)
    · intro hc0 hl0
      have hperm := hC.perm hx law9 Tryd.underlying9 hl0
      rcases hrow.2 with ⟨hnil, hn0⟩ | ⟨g', cap, cur, rfl, hbase, hb, h1, h2, h3, h4⟩
      · subst hnil
        go_wp2_with (go_at_call 45; refine (Tryd.slices_Sort_string_none none 0 _).mono ?_; rintro e w' ⟨rfl, rfl⟩)
        refine hK _ _ (.slice none 0 0) Φ rfl rfl ?_ rfl hnx (fun _ _ h => h) (fun _ _ _ h => h) ?_ ?_
        · intro t ht
          obtain _ | t := t
          · first | rfl | exact absurd (by simp [namesFrag]) ht
          obtain _ | t := t
          · first | rfl | exact absurd (by simp [namesFrag]) ht
          obtain _ | t := t
          · first | rfl | exact absurd (by simp [namesFrag]) ht
          obtain _ | t := t
          · first | rfl | exact absurd (by simp [namesFrag]) ht
          obtain _ | t := t
          · first | rfl | exact absurd (by simp [namesFrag]) ht
          obtain _ | t := t
          · first | rfl | exact absurd (by simp [namesFrag]) ht
          obtain _ | t := t
          · first | rfl | exact absurd (by simp [namesFrag]) ht
          obtain _ | t := t
          · first | rfl | exact absurd (by simp [namesFrag]) ht
          obtain _ | t := t
          · first | rfl | exact absurd (by simp [namesFrag]) ht
          obtain _ | t := t
          · first | rfl | exact absurd (by simp [namesFrag]) ht
          obtain _ | t := t
          · first | rfl | exact absurd (by simp [namesFrag]) ht
          obtain _ | t := t
          · first | rfl | exact absurd (by simp [namesFrag]) ht
          obtain _ | t := t
          · first | rfl | exact absurd (by simp [namesFrag]) ht
          obtain _ | t := t
          · first | rfl | exact absurd (by simp [namesFrag]) ht
          obtain _ | t := t
          · first | rfl | exact absurd (by simp [namesFrag]) ht
          obtain _ | t := t
          · first | rfl | exact absurd (by simp [namesFrag]) ht
          obtain _ | t := t
          · first | rfl | exact absurd (by simp [namesFrag]) ht
          obtain _ | t := t
          · first | rfl | exact absurd (by simp [namesFrag]) ht
          obtain _ | t := t
          · first | rfl | exact absurd (by simp [namesFrag]) ht
          obtain _ | t := t
          · first | rfl | exact absurd (by simp [namesFrag]) ht
          obtain _ | t := t
          · first | rfl | exact absurd (by simp [namesFrag]) ht
          obtain _ | t := t
          · first | rfl | exact absurd (by simp [namesFrag]) ht
          obtain _ | t := t
          · first | rfl | exact absurd (by simp [namesFrag]) ht
          obtain _ | t := t
          · first | rfl | exact absurd (by simp [namesFrag]) ht
          obtain _ | t := t
          · first | rfl | exact absurd (by simp [namesFrag]) ht
          obtain _ | t := t
          · first | rfl | exact absurd (by simp [namesFrag]) ht
          obtain _ | t := t
          · first | rfl | exact absurd (by simp [namesFrag]) ht
          obtain _ | t := t
          · first | rfl | exact absurd (by simp [namesFrag]) ht
          obtain _ | t := t
          · first | rfl | exact absurd (by simp [namesFrag]) ht
          obtain _ | t := t
          · first | rfl | exact absurd (by simp [namesFrag]) ht
          obtain _ | t := t
          · first | rfl | exact absurd (by simp [namesFrag]) ht
          obtain _ | t := t
          · first | rfl | exact absurd (by simp [namesFrag]) ht
          obtain _ | t := t
          · first | rfl | exact absurd (by simp [namesFrag]) ht
          obtain _ | t := t
          · first | rfl | exact absurd (by simp [namesFrag]) ht
          obtain _ | t := t
          · first | rfl | exact absurd (by simp [namesFrag]) ht
          obtain _ | t := t
          · first | rfl | exact absurd (by simp [namesFrag]) ht
          obtain _ | t := t
          · first | rfl | exact absurd (by simp [namesFrag]) ht
          obtain _ | t := t
          · first | rfl | exact absurd (by simp [namesFrag]) ht
          obtain _ | t := t
          · first | rfl | exact absurd (by simp [namesFrag]) ht
          obtain _ | t := t
          · first | rfl | exact absurd (by simp [namesFrag]) ht
          obtain _ | t := t
          · first | rfl | exact absurd (by simp [namesFrag]) ht
          obtain _ | t := t
          · first | rfl | exact absurd (by simp [namesFrag]) ht
          obtain _ | t := t
          · first | rfl | exact absurd (by simp [namesFrag]) ht
          obtain _ | t := t
          · first | rfl | exact absurd (by simp [namesFrag]) ht
          obtain _ | t := t
          · first | rfl | exact absurd (by simp [namesFrag]) ht
          obtain _ | t := t
          · first | rfl | exact absurd (by simp [namesFrag]) ht
          obtain _ | t := t
          · first | rfl | exact absurd (by simp [namesFrag]) ht
          obtain _ | t := t
          · first | rfl | exact absurd (by simp [namesFrag]) ht
          rfl
        · exact fun b i h => Nat.lt_of_lt_of_le (hfz b i h) hnx.size
        · subst hyy
          have hp : ss.Perm (keysIn x) := hperm.trans ((hD0 ▸ coll_of hmi (fit_of hmi hbo hnd hxl hks) hnd : Collected D0 (fun _ => false) (keysIn x)).perm hx law9 Tryd.underlying9 (fun _ => rfl)).symm
          obtain rfl : ss = [] := List.eq_nil_of_length_eq_zero hn0
          have hk0 : keysIn x = [] := by simpa using hp.symm
          rw [hk0, List.mergeSort_nil]
          exact ⟨none, 0, rfl, Nat.le_refl _, by decide, 0, 0, .inl rfl, fun j b hj => by simp at hj⟩
      · have hH : Holds encStr wr g' 0 ss.toArray := holds_of_block hb (by simpa using h4)
        have hgl : g' < wr.heap.size := (Array.getElem?_eq_some_iff.1 hb).1
        have hc := Tryd.slices_Sort_string g' 0 cap ss wr hH hgl (by omega)
        go_wp2_with (go_at_call 45; refine hc.mono ?_; rintro e w' ⟨rfl, nn, os, rfl⟩)
        refine hK _ _ (.slice (some ⟨g', 0, none⟩) ss.length cap) (fun b i => Φ b i ∨ (b = g' ∧ i < ss.length)) rfl rfl ?_ rfl (hnx.grown (grownBy_sorted _) hnx.size (fun j hj => by cases hj; exact hbase)) (fun _ _ h => .inl h) ?_ ?_ ?_
        · intro t ht
          obtain _ | t := t
          · first | rfl | exact absurd (by simp [namesFrag]) ht
          obtain _ | t := t
          · first | rfl | exact absurd (by simp [namesFrag]) ht
          obtain _ | t := t
          · first | rfl | exact absurd (by simp [namesFrag]) ht
          obtain _ | t := t
          · first | rfl | exact absurd (by simp [namesFrag]) ht
          obtain _ | t := t
          · first | rfl | exact absurd (by simp [namesFrag]) ht
          obtain _ | t := t
          · first | rfl | exact absurd (by simp [namesFrag]) ht
          obtain _ | t := t
          · first | rfl | exact absurd (by simp [namesFrag]) ht
          obtain _ | t := t
          · first | rfl | exact absurd (by simp [namesFrag]) ht
          obtain _ | t := t
          · first | rfl | exact absurd (by simp [namesFrag]) ht
          obtain _ | t := t
          · first | rfl | exact absurd (by simp [namesFrag]) ht
          obtain _ | t := t
          · first | rfl | exact absurd (by simp [namesFrag]) ht
          obtain _ | t := t
          · first | rfl | exact absurd (by simp [namesFrag]) ht
          obtain _ | t := t
          · first | rfl | exact absurd (by simp [namesFrag]) ht
          obtain _ | t := t
          · first | rfl | exact absurd (by simp [namesFrag]) ht
          obtain _ | t := t
          · first | rfl | exact absurd (by simp [namesFrag]) ht
          obtain _ | t := t
          · first | rfl | exact absurd (by simp [namesFrag]) ht
          obtain _ | t := t
          · first | rfl | exact absurd (by simp [namesFrag]) ht
          obtain _ | t := t
          · first | rfl | exact absurd (by simp [namesFrag]) ht
          obtain _ | t := t
          · first | rfl | exact absurd (by simp [namesFrag]) ht
          obtain _ | t := t
          · first | rfl | exact absurd (by simp [namesFrag]) ht
          obtain _ | t := t
          · first | rfl | exact absurd (by simp [namesFrag]) ht
          obtain _ | t := t
          · first | rfl | exact absurd (by simp [namesFrag]) ht
          obtain _ | t := t
          · first | rfl | exact absurd (by simp [namesFrag]) ht
          obtain _ | t := t
          · first | rfl | exact absurd (by simp [namesFrag]) ht
          obtain _ | t := t
          · first | rfl | exact absurd (by simp [namesFrag]) ht
          obtain _ | t := t
          · first | rfl | exact absurd (by simp [namesFrag]) ht
          obtain _ | t := t
          · first | rfl | exact absurd (by simp [namesFrag]) ht
          obtain _ | t := t
          · first | rfl | exact absurd (by simp [namesFrag]) ht
          obtain _ | t := t
          · first | rfl | exact absurd (by simp [namesFrag]) ht
          obtain _ | t := t
          · first | rfl | exact absurd (by simp [namesFrag]) ht
          obtain _ | t := t
          · first | rfl | exact absurd (by simp [namesFrag]) ht
          obtain _ | t := t
          · first | rfl | exact absurd (by simp [namesFrag]) ht
          obtain _ | t := t
          · first | rfl | exact absurd (by simp [namesFrag]) ht
          obtain _ | t := t
          · first | rfl | exact absurd (by simp [namesFrag]) ht
          obtain _ | t := t
          · first | rfl | exact absurd (by simp [namesFrag]) ht
          obtain _ | t := t
          · first | rfl | exact absurd (by simp [namesFrag]) ht
          obtain _ | t := t
          · first | rfl | exact absurd (by simp [namesFrag]) ht
          obtain _ | t := t
          · first | rfl | exact absurd (by simp [namesFrag]) ht
          obtain _ | t := t
          · first | rfl | exact absurd (by simp [namesFrag]) ht
          obtain _ | t := t
          · first | rfl | exact absurd (by simp [namesFrag]) ht
          obtain _ | t := t
          · first | rfl | exact absurd (by simp [namesFrag]) ht
          obtain _ | t := t
          · first | rfl | exact absurd (by simp [namesFrag]) ht
          obtain _ | t := t
          · first | rfl | exact absurd (by simp [namesFrag]) ht
          obtain _ | t := t
          · first | rfl | exact absurd (by simp [namesFrag]) ht
          obtain _ | t := t
          · first | rfl | exact absurd (by simp [namesFrag]) ht
          obtain _ | t := t
          · first | rfl | exact absurd (by simp [namesFrag]) ht
          obtain _ | t := t
          · first | rfl | exact absurd (by simp [namesFrag]) ht
          obtain _ | t := t
          · first | rfl | exact absurd (by simp [namesFrag]) ht
          rfl
        · rintro b i hb0 (h | ⟨rfl, _⟩)
          · exact h
          · exact absurd hb0 (by omega)
        · have hsz := (grownBy_sorted (w := wr) (g := g') (n := nn) (os := os) (ss.mergeSort fun x y => decide (x ≤ y)).toArray).size
          rintro b i (h | ⟨rfl, _⟩)
          · exact Nat.lt_of_lt_of_le (Nat.lt_of_lt_of_le (hfz b i h) hnx.size) hsz
          · exact Nat.lt_of_lt_of_le hgl hsz
        · subst hyy
          have hp : ss.Perm (keysIn x) := hperm.trans ((hD0 ▸ coll_of hmi (fit_of hmi hbo hnd hxl hks) hnd : Collected D0 (fun _ => false) (keysIn x)).perm hx law9 Tryd.underlying9 (fun _ => rfl)).symm
          have hms : (ss.mergeSort fun x y => decide (x ≤ y)) = (keysIn x).mergeSort fun x y => decide (x ≤ y) := mergeSort_of_perm hp
          have hlen : (ss.mergeSort fun x y => decide (x ≤ y)).length = ss.length := List.length_mergeSort _
          have hro := ownsRow_sorted (os := os) (n := nn) hlen hbase hb h1 h2 h3
          rw [← hms]
          generalize (ss.mergeSort fun x y => decide (x ≤ y)) = srt at hlen hro ⊢
          rcases hro.2 with ⟨hnil, _⟩ | ⟨g2, cap2, cur2, he, _, hb2, q1, q2, q3, q4⟩
          · cases hnil
          cases he
          refine ⟨some ⟨g', 0, none⟩, cap, by simp [hlen], by simpa [hlen] using h1, by unfold maxLen at h2; omega, g', 0, .inr rfl, fun j b hj => ⟨[.string b], rfl, rfl, fun i u hu => ?_⟩⟩
          rw [List.getElem?_map, Option.map_eq_some_iff] at hj
          obtain ⟨l', hl', rfl⟩ := hj
          obtain rfl : i = 0 := by
            rcases i with _ | i
            · rfl
            · simp at hu
          obtain rfl : Value.string ⟨l'.toArray⟩ = u := by simpa using hu
          have hjl : j < ss.length := by rw [← hlen]; exact (List.getElem?_eq_some_iff.1 hl').1
          have hc : cur2[j]? = some (.string ⟨l'.toArray⟩) := by
            have : (cur2.toList.take (ss.length * 1))[j]? = some (.string ⟨l'.toArray⟩) := by rw [q4, List.getElem?_map, hl']; rfl
            rw [List.getElem?_take] at this
            split at this
            · rwa [Array.getElem?_toList] at this
            · cases this
          refine ⟨.inr ⟨rfl, by show 0 + j * 1 + 0 < _; omega⟩, ?_⟩
          show World.cell? _ ⟨g', 0 + j * 1 + 0, none⟩ = _
          rw [show 0 + j * 1 + 0 = j by omega]
          simp [World.cell?, hb2, hc]
    · intro x c kl yd ps w2 cnt2 hkey hlk hv hat hrg2 hlt hg2 hs2 hen
      obtain ⟨x', ex, rfl, _⟩ := Maps.keyOf_str Tryd.underlying9 hkey
      obtain rfl : x = x' := encStr_inj ex
      have hrow2 := hrow.kept hg2 (Or.inr (row_ne_iter hrow hrg).symm)
      clear hs2
      obtain ⟨i0, hi, hz0, hz1, hz2⟩ := info_parts info9
      have hap := Lib.hid (fun (ops : Array Oper) (rest : List Oper) (o : Oper) (a : Act) (Q : Exit → Act → World → Prop) (hgd : o.guard = none) (s' x' : Operand) (ho : o.op = .call { callee := .builtin .append, args := #[s', x'], argTypes := #[23, 23] }) (hs' : a.eval s' = u9) (hx' : a.eval x' = .slice (some ⟨w2.heap.size, 0, none⟩) 1 1) =>
        wpList_append_own (ops := ops) (rest := rest) (o := o) (a := a) (Q := Q) (w2.alloc (.cells #[encStr x] 9 (0, 0))) hgd s' x' 23 ho w.heap.size 9 i0 (.string ⟨#[]⟩) 1 16 Tryd.underlying23 hi hz0 hz1 hz2 rfl (by decide) u9 ss.length (ss.map encStr) hs' (hrow2.alloc _) ⟨w2.heap.size, 0, none⟩ 1 1 [encStr x] hx' rfl (cell_one_new _ _ _) (by simp [Value.oneCell', encStr]) (by unfold maxLen at *; omega) (by omega) (by have := hnx.size; have := hg2.size; simp; omega))
      clear hi hz0 hz1 hz2
      go_wp2_with (first
        | (at_builtin; refine hap.out _ _ _ _ _ rfl _ _ rfl rfl rfl ?_; intro v' w3 hown' hg3 hnil3)
        | go_in)
      have hrg3 := (hrg2.alloc _).kept hg3 (row_ne_low hrow2 hbl) (row_ne_iter hrow2 hrg2)
      go_roundw
      case rel =>
        refine ⟨_, cnt2, ss ++ [x], hrg3, by simp; omega, by simpa using hown', hC.step hlk hat, ?_⟩
        exact ((hnx.grown hg2 hnx.size (fun j hj => by cases hj; exact Nat.le_refl _)).alloc (by have := hnx.size; have := hg2.size; omega) _).grown hg3 (by have := hnx.size; have := hg2.size; simp; omega) (fun j hj => (hrow2.lt j hj).1)
      case measure => rw [hrg3.left_eq, hrg.left_eq]; exact hlt
theorem namesFrag.ok : FSpec.Sound P T namesFrag := names_sound
end Go.Proofs.YtmmbedlegmbppaaDoor.R
