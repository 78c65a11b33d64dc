/- ascii.Split: what it tells. -/
import Derived.Test.YtpddbfodjeoofaaDoorX3
import Derived.Test.YtpddbfodjeoofaaDoorV
import Derived.Lib.AppendStr
import Derived.Laws.Append
import Derived.Deep.AppendLies
import Derived.Maps.AppendAt
namespace Go.Proofs.YtpddbfodjeoofaaDoor.X
open Go.RowKit Go.Shelf Go.Proofs.YtpddbfodjeoofaaDoorW.PrintWords Go.Proofs.YtpddbfodjeoofaaDoorW.PrintLast
set_option linter.unusedVariables false
set_option linter.unusedSimpArgs false
theorem info_str : (Tryd.prog.info? 9).map (fun i => (i.zero, i.size, i.bytes)) = some (some (.string ⟨#[]⟩), 1, 16) := by kernel_rfl
/-- What one part adds to the parts. -/
def takeP (acc : List ByteArray) (p : ByteArray) : List ByteArray := if (Lib.trimF isBlank p).toList = [] then acc else acc ++ [Lib.trimF isBlank p]
set_option maxHeartbeats 4000000 in
set_option maxRecDepth 100000 in
theorem take_gives (part : ByteArray) (hs : part.size ≤ 9223372036854775807) (W : World) (hT : Tabs W) (g b0 : Nat) (v : Value) (acc : List ByteArray) (hacc : acc.length < 8796093022208) (hb0 : b0 ≤ g) (hG : W.heap[g]? = some (.cells #[v] 26 (0, 0)))
    (HO : Kd.string.R 9 W b0 (fun _ => True) v acc) :
    Calls Tryd.prog 23 #[.string part, .pointer (some ⟨g, 0, none⟩)] W fun e W1 => e = .returned (.tuple #[]) ∧ ∃ v1, W1.heap[g]? = some (.cells #[v1] 26 (0, 0)) ∧ Kd.string.R 9 W1 b0 (fun _ => True) v1 (takeP acc part) ∧ Below b0 W W1 := by
  have hgl : g < W.heap.size := by
    rcases Nat.lt_or_ge g W.heap.size with h | h
    · exact h
    · rw [Array.getElem?_eq_none h] at hG; cases hG
  have C : Calls Tryd.prog 19 #[.string part] W fun e w1 => e = .returned (.string (Lib.trimF isBlank part)) ∧ Below W.heap.size W w1 := ascii_Trim.calls part _ W hT (by unfold ascii_Trim.f; rw [if_pos hs])
  unfold takeP
  generalize Lib.trimF isBlank part = q at C ⊢
  have hne : ∀ cells : Array Value, ∀ w2 : World, ∀ v2 : Value, ∀ xs, Kd.string.R 9 w2 b0 (fun _ => True) v2 xs → w2.heap[g]? = some (.cells cells 26 (0, 0)) → some g ≠ v2.ownBlock := by
    intro cells w2 v2 xs h hg he
    exact (Kd.R_types h hg (by decide)).1 g he.symm |>.2 rfl
  go_enter Tryd.func23, Tryd.ntmps23
  by_cases h0 : q.toList = []
  · rw [if_pos h0]
    go_wp2_with (go_at_call 19; refine C.mono ?_; rintro e w1 ⟨rfl, hB⟩)
    go_end0
    exact ⟨rfl, v, (hB.block g hgl).trans hG, Kd.R_below HO hB, hB.mono (by omega)⟩
  · rw [if_neg h0]
    have h2 : q.toList.isEmpty = false := by cases hh : q.toList with
      | nil => exact absurd hh h0
      | cons _ _ => rfl
    go_wp2_with (first | (go_at_call 19; refine C.mono ?_; rintro e w1 ⟨rfl, hB⟩; have hG1 := (hB.block g hgl).trans hG; have HO1 := Kd.R_below HO hB; have hc1 : w1.cell? ⟨g, 0, none⟩ = some v := (by simp [World.cell?, hG1]); have hle := hB.size) | ((with_reducible refine gate_builtin (b := .append) (xs := #[.tmp 7, .tmp 9]) rfl ?_); at_builtin; refine Kd.R_append Kd.string (w0 := w1) b0 rfl (.tmp 7) (.tmp 9) 26 9 (.string ⟨#[]⟩) 16 rfl Tryd.underlying26 info_str rfl (by decide) (by omega) v acc q [.string q] (fun _ => True) (fun _ => False) rfl rfl ?aP (fun _ hk => hk.elim) ?aF ?aO ?aB ?aS ?aL ?_; (case aP => exact rfl); (case aB => exact Below.refl _ _); (case aF => exact (fun _ _ => trivial)); (case aO => exact HO1); (case aS => omega); (case aL => omega); intro v1 w7 ho hb hg hat; obtain ⟨A1, c1, rfl, hl1, _⟩ := Kd.R_reads ho; have hG7 := (hg.block g (by omega) (hne _ _ _ _ HO1 hG1)).trans hG1; have hc7 : (w7.cell? ⟨g, 0, none⟩) = some v := (by simp [World.cell?, hG7]); have hf7 : (w7.frozen? ⟨g, 0, none⟩) = false := (by simp [World.frozen?, hG7])))
    go_end0
    refine ⟨rfl, .slice A1 (acc.length + 1) c1, by simp [World.setCell, Array.getElem?_modify, hG7], ?_, ((hB.mono (by omega)).trans hb).setCell (p := ⟨g, 0, none⟩) hb0 _⟩
    have := Kd.R_set ho hG7 (by decide) 0 (.slice A1 (acc.length + 1) c1)
    rw [show (acc ++ [q]).length = acc.length + 1 by simp] at this
    exact this
/-! ### the end of a quoted part -/
def qe : List UInt8 → Nat
  | [] => 0
  | c :: r => if c.toNat = 92 then (match r with
    | [] => 1
    | _ :: r' => 2 + qe r') else if c.toNat = 34 then 0 else 1 + qe r
theorem qe_le : ∀ (n : Nat) (l : List UInt8), l.length ≤ n → qe l ≤ l.length := by
  intro n
  induction n with
  | zero => intro l h; match l, h with
                       | [], _ => simp [qe]
  | succ n ih =>
    intro l h
    match l, h with
    | [], _ => simp [qe]
    | [c], _ =>
      unfold qe
      split
      · exact Nat.le_refl _
      · split
        · exact Nat.zero_le _
        · exact Nat.le_refl _
    | c :: d :: r, h =>
      have h1 := ih (d :: r) (by simpa using h)
      have h2 := ih r (by simp at h; omega)
      unfold qe
      simp only [List.length_cons] at *
      split
      · omega
      · split <;> omega
theorem qe_end {l : List UInt8} {i : Nat} (h : l.length ≤ i) : qe (l.drop i) = 0 := by rw [List.drop_eq_nil_of_le h]; rfl
theorem qe_esc {l : List UInt8} {i : Nat} (hi : i < l.length) (h : (l.getD i 0).toNat = 92) : qe (l.drop i) = if i + 1 < l.length then 2 + qe (l.drop (i + 2)) else 1 := by
  rw [List.drop_eq_getElem_cons hi]
  rw [List.getD_eq_getElem?_getD, List.getElem?_eq_getElem hi] at h
  simp only [Option.getD_some] at h
  conv => lhs; unfold qe
  rw [if_pos h]
  by_cases h1 : i + 1 < l.length
  · rw [if_pos h1, List.drop_eq_getElem_cons h1]
  · rw [if_neg h1, List.drop_eq_nil_of_le (by omega)]
theorem qe_quote {l : List UInt8} {i : Nat} (hi : i < l.length) (h : (l.getD i 0).toNat = 34) : qe (l.drop i) = 0 := by
  rw [List.drop_eq_getElem_cons hi]
  rw [List.getD_eq_getElem?_getD, List.getElem?_eq_getElem hi] at h
  simp only [Option.getD_some] at h
  unfold qe
  rw [if_neg (by omega), if_pos h]
theorem qe_more {l : List UInt8} {i : Nat} (hi : i < l.length) (h : ¬ (l.getD i 0).toNat = 92) (h' : ¬ (l.getD i 0).toNat = 34) : qe (l.drop i) = 1 + qe (l.drop (i + 1)) := by
  rw [List.drop_eq_getElem_cons hi]
  rw [List.getD_eq_getElem?_getD, List.getElem?_eq_getElem hi] at h h'
  simp only [Option.getD_some] at h h'
  conv => lhs; unfold qe
  rw [if_neg h, if_neg h']
/-- Where the quoted part ends that begins ahead of i. -/
def endAt (l : List UInt8) (i : Nat) : Nat := if i < l.length then i + qe (l.drop i) else l.length
set_option maxHeartbeats 4000000 in
set_option maxRecDepth 100000 in
theorem end_gives (s : ByteArray) (hs : s.size ≤ 4611686018427387904) (i0 : Nat) (hi0 : i0 < s.size) (W : World) :
    Calls Tryd.prog 24 #[.string s, .int .i64 (i0 : Int)] W fun e W1 => e = .returned (.int .i64 (endAt s.data.toList (i0 + 1) : Nat)) ∧ Below W.heap.size W W1 := by
  have hlen : s.data.toList.length = s.size := Array.length_toList
  go_enter Tryd.func24, Tryd.ntmps24
  go_wp2
  go_loopg [5] (s.size + 2) (fun kq v5 w' => ∃ i : Nat, v5 = .int .i64 (i : Int) ∧ s.size + 2 ≤ i + kq ∧ i ≤ s.size + 1 ∧ endAt s.data.toList i = endAt s.data.toList (i0 + 1) ∧ Hid (Below W.heap.size W w'))
  case atStart => exact ⟨i0 + 1, by simp, by omega, by omega, rfl, ⟨Below.refl _ _⟩⟩
  case round =>
    obtain ⟨i, rfl, hk, hle, he, HB⟩ := hrel
    by_cases hi : i < s.size
    · have hi' : (i : Int) < (s.size : Int) := by omega
      have b0 : decide ((i : Int) < (s.size : Int)) = true := decide_eq_true hi'
      cases gk with
      | zero => omega
      | succ k1 =>
      have n1 := eq_true (show (0 : Int) ≤ (i : Int) by omega)
      have n2 := eq_true hi'
      have hget : s.data.toList.getD i 0 = s[i] := by rw [List.getD_eq_getElem?_getD, List.getElem?_eq_getElem (by omega)]; rfl
      by_cases h92 : s[i].toNat = 92
      · have e1 : ((s[i].toNat : Int) == 92) = true := beq_iff_eq.mpr (by omega)
        have hnext : endAt s.data.toList (i + 2) = endAt s.data.toList i := by
          unfold endAt
          rw [hlen, if_pos hi, qe_esc (i := i) (by omega) (by rw [hget]; exact h92), hlen]
          by_cases h : i + 1 < s.size
          · rw [if_pos h]
            by_cases h' : i + 2 < s.size
            · rw [if_pos h']; omega
            · rw [if_neg h', qe_end (by omega)]; omega
          · rw [if_neg h, if_neg (by omega)]; omega
        go_wp2
        go_roundg k1
        case measure => omega
        case rel => exact ⟨i + 2, by simp; omega, by omega, by omega, hnext.trans he, HB⟩
      · have e1 : ((s[i].toNat : Int) == 92) = false := beq_eq_false_iff_ne.mpr (by omega)
        by_cases h34 : s[i].toNat = 34
        · have e2 : ((s[i].toNat : Int) == 34) = true := beq_iff_eq.mpr (by omega)
          have hE : endAt s.data.toList i = i := by
            unfold endAt
            rw [if_pos (by omega), qe_quote (by omega) (by rw [hget]; exact h34)]; rfl
          go_wp2
          go_ret
          exact ⟨by rw [← he, hE]; rfl, HB.out⟩
        · have e2 : ((s[i].toNat : Int) == 34) = false := beq_eq_false_iff_ne.mpr (by omega)
          have hnext : endAt s.data.toList (i + 1) = endAt s.data.toList i := by
            unfold endAt
            rw [hlen, if_pos hi, qe_more (i := i) (by omega) (by rw [hget]; exact h92) (by rw [hget]; exact h34)]
            by_cases h : i + 1 < s.size
            · rw [if_pos h]; omega
            · rw [if_neg h, qe_end (by omega)]; omega
          go_wp2
          go_roundg k1
          case measure => omega
          case rel => exact ⟨i + 1, by simp, by omega, by omega, hnext.trans he, HB⟩
    · have b0 : decide ((i : Int) < (s.size : Int)) = false := decide_eq_false (by omega)
      have hE : endAt s.data.toList i = s.size := by
        unfold endAt
        rw [if_neg (by omega), hlen]
      go_wp2
      go_ret
      exact ⟨by rw [← he, hE]; rfl, HB.out⟩
/-! ### the parts -/
section
variable {P : Program} {ops : Array Oper} {rest : List Oper} {a : Act} {Q : Exit → Act → World → Prop}
/-- A call of a function literal that holds variables, as one step. -/
theorem goesC_ {oi : Oper} {w : World} (x : Operand) (N : Option Tmp) (hd : oi.dst = N) (hg : oi.guard = none) {f : FuncId} {fn : Func} {as1 : Array Operand} {ts : Array TypeId} (hf : P.funcs[f]? = some fn) (hname : (fn.name == "runtime.NumGoroutine") = false) (hb : fn.body.isSome = true) (args lb all : Array Value)
    (hop : oi.op = .call { callee := .value x, args := as1, argTypes := ts }) (hx : a.eval x = .func (.func f) #[] lb) (hargs : as1.map a.eval = args) (hall : args ++ lb = all)
    (h : Calls P f all w fun e w' => ∃ v, e = .returned v ∧ wpList P ops Q rest (a.put N v) w') : wpList P ops Q (oi :: rest) a w := by
  refine wpList_plain hg fun K hK => ?_
  have he := enters_ hf hname hb all w
  have hrun : (execOp a.eval oi).run P w = .ok (.enter f all) w := by
    subst hall
    unfold execOp
    simp [hop, resolve, Deferred.ofValue, invoke, hargs, he, hx]
  unfold Oper.wp
  rw [hrun, Oper.upon_enter]
  refine h.mono fun e w'' hh => ?_
  obtain ⟨v, rfl, hk⟩ := hh
  subst hd
  exact hK _ _ hk
end
def cuts (s : ByteArray) : Nat → Nat → Nat → List ByteArray → List ByteArray
  | 0, fr, _, acc => takeP acc (s.extract fr s.size)
  | k + 1, fr, i, acc => if i < s.size then
      (if (s.data.toList.getD i 0).toNat = 34 then cuts s k fr (endAt s.data.toList (i + 1) + 1) acc
       else if (s.data.toList.getD i 0).toNat = 44 then cuts s k (i + 1) (i + 1) (takeP acc (s.extract fr i))
       else cuts s k fr (i + 1) acc) else takeP acc (s.extract fr s.size)
theorem takeP_len (acc : List ByteArray) (p : ByteArray) : (takeP acc p).length ≤ acc.length + 1 := by unfold takeP; split <;> simp
theorem endAt_bd (l : List UInt8) (i : Nat) (h : i ≤ l.length) : i ≤ endAt l i ∧ endAt l i ≤ l.length := by
  unfold endAt
  by_cases h1 : i < l.length
  · rw [if_pos h1]
    have := qe_le _ (l.drop i) (Nat.le_refl _)
    rw [List.length_drop] at this
    omega
  · rw [if_neg h1]; omega
def ascii_Split.f (a0 : ByteArray) : Option (List ByteArray) := if a0.size < 8796093022208 then some (cuts a0 (a0.size + 1) 0 0 []) else none
set_option maxHeartbeats 4000000 in
set_option maxRecDepth 100000 in
theorem ascii_Split.calls (a0 : ByteArray) (r : List ByteArray) (w : World) (hT : Tabs w) (h : ascii_Split.f a0 = some r) :
    Calls Tryd.prog 11 #[.string a0] w fun e w1 => ∃ v0_ : Value, e = .returned v0_ ∧ Kd.R Kd.string 9 w1 w.heap.size (fun _ => True) v0_ r ∧ Below w.heap.size w w1 := by
  unfold ascii_Split.f at h
  split at h
  case isFalse => cases h
  case isTrue hs =>
  have hr := Option.some.inj h
  clear h
  have hlen : a0.data.toList.length = a0.size := Array.length_toList
  go_enter Tryd.func11, Tryd.ntmps11
  go_wp2
  go_loopg [5, 6] (a0.size + 1) (fun kq v5 v6 w' => ∃ (fr i : Nat) (acc : List ByteArray) (v : Value), v5 = .int .i64 (fr : Int) ∧ v6 = .int .i64 (i : Int) ∧ fr ≤ i ∧ fr ≤ a0.size ∧ i ≤ a0.size + 1 ∧ a0.size + 1 ≤ i + kq ∧ acc.length ≤ fr ∧ Hid (cuts a0 kq fr i acc = r) ∧ Hid (w'.heap[w.heap.size]? = some (.cells #[v] 26 (0, 0))) ∧ Hid (Kd.R Kd.string 9 w' w.heap.size (fun _ => True) v acc) ∧ Hid (Below w.heap.size w w'))
  case atStart => exact ⟨0, 0, [], .slice none 0 0, by simp, by simp, by omega, by omega, by omega, by omega, by simp, ⟨hr⟩, ⟨by simp [World.alloc, -World.alloc_eq]⟩, ⟨Kd.R_nil _ _ _ _ _⟩, ⟨(Below.refl _ _).alloc (Nat.le_refl _) _⟩⟩
  case round =>
    obtain ⟨fr, i, acc, v, rfl, rfl, h1, h2, h3, h4, h5, HR, HG, HO, HB⟩ := hrel
    have hszw : w.heap.size < wr.heap.size := by
      rcases Nat.lt_or_ge w.heap.size wr.heap.size with h | h
      · exact h
      · have := HG.out; rw [Array.getElem?_eq_none h] at this; cases this
    have m0 := eq_true (show (0 : Int) ≤ (fr : Int) by omega)
    have m1 := eq_true (show (0 : Int) ≤ (i : Int) by omega)
    have m2 := eq_true (show (fr : Int) ≤ (i : Int) by omega)
    have m3 := eq_true (show (fr : Int) ≤ (a0.size : Int) by omega)
    by_cases hi : i < a0.size
    · have hi' : (i : Int) < (a0.size : Int) := by omega
      have b0 : decide ((i : Int) < (a0.size : Int)) = true := decide_eq_true hi'
      have n2 := eq_true hi'
      have m4 := eq_true (show (i : Int) ≤ (a0.size : Int) by omega)
      have hget : a0.data.toList.getD i 0 = a0[i] := by rw [List.getD_eq_getElem?_getD, List.getElem?_eq_getElem (by omega)]; rfl
      have hE := endAt_bd a0.data.toList (i + 1) (by omega)
      cases gk with
      | zero => omega
      | succ k1 =>
      have HR1 := HR.out
      unfold cuts at HR1
      rw [if_pos hi, hget] at HR1
      by_cases h34 : a0[i].toNat = 34
      · have e1 : ((a0[i].toNat : Int) == 34) = true := beq_iff_eq.mpr (by omega)
        rw [if_pos h34] at HR1
        go_wp2_with (go_at_call 24; refine (end_gives a0 (by omega) i hi _).mono ?_; rintro e w3 ⟨rfl, hB3⟩)
        go_roundg k1
        case measure => omega
        case rel => exact ⟨fr, endAt a0.data.toList (i + 1) + 1, acc, v, rfl, by simp, by omega, by omega, by omega, by omega, h5, ⟨HR1⟩, ⟨(hB3.block _ hszw).trans HG.out⟩, ⟨Kd.R_below HO.out hB3⟩, ⟨HB.out.trans (hB3.mono (by omega))⟩⟩
      · have e1 : ((a0[i].toNat : Int) == 34) = false := beq_eq_false_iff_ne.mpr (by omega)
        rw [if_neg h34] at HR1
        by_cases h44 : a0[i].toNat = 44
        · have e2 : ((a0[i].toNat : Int) == 44) = true := beq_iff_eq.mpr (by omega)
          rw [if_pos h44] at HR1
          go_wp2_with (first | ((with_reducible refine gate_calleeV (x := .tmp 24) rfl ?_); refine goesC_ (.tmp 24) (some 29) rfl rfl Tryd.func23 (by kernel_rfl) rfl #[.string (a0.extract fr i)] #[.pointer (some ⟨w.heap.size, 0, none⟩)] _ rfl rfl (by (try simp only [List.map_toArray, List.map_cons, List.map_nil]); first | done | rfl) rfl ?_; refine (take_gives (a0.extract fr i) (by rw [ByteArray.size_extract]; omega) _ (Tabs.below hT HB.out) w.heap.size w.heap.size v acc (by omega) (Nat.le_refl _) HG.out HO.out).mono ?_; rintro e w3 ⟨rfl, v3, hG3, hO3, hB3⟩; refine ⟨_, rfl, ?_⟩))
          go_roundg k1
          case measure => omega
          case rel => exact ⟨i + 1, i + 1, takeP acc (a0.extract fr i), v3, by simp, by simp, by omega, by omega, by omega, by omega, by have := takeP_len acc (a0.extract fr i); omega, ⟨HR1⟩, ⟨hG3⟩, ⟨hO3⟩, ⟨HB.out.trans hB3⟩⟩
        · have e2 : ((a0[i].toNat : Int) == 44) = false := beq_eq_false_iff_ne.mpr (by omega)
          rw [if_neg h44] at HR1
          go_wp2
          go_roundg k1
          case measure => omega
          case rel => exact ⟨fr, i + 1, acc, v, rfl, by simp, by omega, by omega, by omega, by omega, h5, ⟨HR1⟩, HG, HO, HB⟩
    · have b0 : decide ((i : Int) < (a0.size : Int)) = false := decide_eq_false (by omega)
      have HR1 : takeP acc (a0.extract fr a0.size) = r := by
        have HR1 := HR.out
        cases gk with
        | zero => exact HR1
        | succ k1 => unfold cuts at HR1; rw [if_neg hi] at HR1; exact HR1
      go_wp2_with (first | ((with_reducible refine gate_calleeV (x := .tmp 32) rfl ?_); refine goesC_ (.tmp 32) (some 36) rfl rfl Tryd.func23 (by kernel_rfl) rfl #[.string (a0.extract fr a0.size)] #[.pointer (some ⟨w.heap.size, 0, none⟩)] _ rfl rfl (by (try simp only [List.map_toArray, List.map_cons, List.map_nil]); first | done | rfl) rfl ?_; refine (take_gives (a0.extract fr a0.size) (by rw [ByteArray.size_extract]; omega) _ (Tabs.below hT HB.out) w.heap.size w.heap.size v acc (by omega) (Nat.le_refl _) HG.out HO.out).mono ?_; rintro e w3 ⟨rfl, v3, hG3, hO3, hB3⟩; have hc3 : w3.cell? ⟨w.heap.size, 0, none⟩ = some v3 := (by simp [World.cell?, hG3]); refine ⟨_, rfl, ?_⟩))
      go_ret
      exact ⟨v3, rfl, by rw [← HR1]; exact hO3, HB.out.trans hB3⟩
end Go.Proofs.YtpddbfodjeoofaaDoor.X
