/- TargetSame, told in plain words. -/
import Derived.Test.YtmmbedlegmbppaaDoorPNorm
import Derived.Test.YtmmbedlegmbppaaDoorRW
namespace Go.Proofs.YtmmbedlegmbppaaDoor.R
open Go Go.RowKit
set_option linter.unusedSimpArgs false
set_option linter.unusedVariables false
theorem awake09' : law09_awake.f 3000 () = some true := by decide +kernel
def letB (c : UInt8) : Bool := decide (97 ≤ c.toNat) && decide (c.toNat ≤ 122)
def hlB (n : Nat) : UInt8 := if n < 10 then UInt8.ofNat (48 + n) else UInt8.ofNat (87 + n)
def hexLow : ByteArray := ⟨#[48, 49, 50, 51, 52, 53, 54, 55, 56, 57, 97, 98, 99, 100, 101, 102]⟩
theorem let_facts : ∀ n : Fin 26,
    (andB (boundB (addI .u8 (quoI .u8 ((97 + n.val : Nat) : Int) 16) 1) (lenS hexLow)) (boundB (quoI .u8 ((97 + n.val : Nat) : Int) 16) (addI .u8 (quoI .u8 ((97 + n.val : Nat) : Int) 16) 1)) = true ∧
    cutS hexLow (quoI .u8 ((97 + n.val : Nat) : Int) 16) (addI .u8 (quoI .u8 ((97 + n.val : Nat) : Int) 16) 1) = B [hlB ((97 + n.val) / 16)]) ∧
    (andB (boundB (addI .u8 (remI ((97 + n.val : Nat) : Int) 16) 1) (lenS hexLow)) (boundB (remI ((97 + n.val : Nat) : Int) 16) (addI .u8 (remI ((97 + n.val : Nat) : Int) 16) 1)) = true ∧
    cutS hexLow (remI ((97 + n.val : Nat) : Int) 16) (addI .u8 (remI ((97 + n.val : Nat) : Int) 16) 1) = B [hlB ((97 + n.val) % 16)]) ∧
    hexB (hlB ((97 + n.val) / 16)) = some ((97 + n.val) / 16) ∧ hexB (hlB ((97 + n.val) % 16)) = some ((97 + n.val) % 16) ∧ UInt8.ofNat (16 * ((97 + n.val) / 16) + (97 + n.val) % 16) = UInt8.ofNat (97 + n.val) ∧
    tell (UInt8.ofNat (97 + n.val)) = [UInt8.ofNat (97 + n.val)] ∧ okC (UInt8.ofNat (97 + n.val)) = true ∧ UInt8.ofNat (97 + n.val) ≠ 37 := by decide +kernel
theorem let_low : ∀ n : Fin 256, letB (UInt8.ofNat n.val) = true → X.lowB (UInt8.ofNat n.val) = UInt8.ofNat n.val ∧ X.lowB (lessC (UInt8.ofNat n.val)) = UInt8.ofNat n.val ∧ hoB (UInt8.ofNat n.val) = true ∧ hoB (lessC (UInt8.ofNat n.val)) = true := by decide +kernel
theorem let_is {c : UInt8} (h : letB c = true) : X.lowB c = c ∧ X.lowB (lessC c) = c ∧ hoB c = true ∧ hoB (lessC c) = true := by
  have := let_low ⟨c.toNat, c.toNat_lt⟩
  simp only [UInt8.ofNat_toNat] at this
  exact this h
theorem low_same {l : Bs} (h : l.all letB = true) : lowL l = l := by
  unfold lowL
  refine (List.map_congr_left fun c hc => ?_).trans (List.map_id l)
  exact (let_is (List.all_eq_true.1 h c hc)).1
theorem low_less {l : Bs} (h : l.all letB = true) : lowL (l.map lessC) = l := by
  unfold lowL
  rw [List.map_map]
  refine (List.map_congr_left fun c hc => ?_).trans (List.map_id l)
  exact (let_is (List.all_eq_true.1 h c hc)).2.1
theorem ho_all {l : Bs} (h : l.all letB = true) : l.all hoB = true := by
  rw [List.all_eq_true]
  exact fun c hc => (let_is (List.all_eq_true.1 h c hc)).2.2.1
theorem ho_less {l : Bs} (h : l.all letB = true) : (l.map lessC).all hoB = true := by
  rw [List.all_eq_true]
  intro c hc
  obtain ⟨d, hd, rfl⟩ := List.mem_map.1 hc
  exact (let_is (List.all_eq_true.1 h d hd)).2.2.2
theorem no58 {l : Bs} (h : l.all hoB = true) : ∀ d ∈ l, d ≠ 58 := fun d hd => (hoB_ne (List.all_eq_true.1 h d hd)).1
theorem host_plain {l : Bs} (h0 : l ≠ []) (h : l.all letB = true) : hostM l = some l := by
  have hh := ho_all h
  unfold hostM parts58
  rw [cutAt_no 58 l (no58 hh), show (none : Option (Bs × Bs)).getD (l, []) = (l, []) from rfl]
  rw [if_pos ⟨h0, hh, by rw [count_no (no58 hh)]; omega, .inl rfl, Nat.zero_le 5⟩, if_pos (.inl rfl), low_same h]
theorem host_colon {l : Bs} (h0 : l ≠ []) (h : l.all letB = true) : hostM (l ++ [58]) = some l := by
  have hh := ho_all h
  unfold hostM parts58
  rw [show cutAt 58 (l ++ [58]) = some (l, []) from cutAt_of 58 [] l (no58 hh), show (some (l, []) : Option (Bs × Bs)).getD (l ++ [58], []) = (l, []) from rfl]
  rw [if_pos ⟨h0, hh, by rw [List.count_append, count_no (no58 hh)]; decide, .inl rfl, Nat.zero_le 5⟩, if_pos (.inl rfl), low_same h]
theorem host_great {l : Bs} (h0 : l ≠ []) (h : l.all letB = true) : hostM (l.map lessC ++ [58, 56, 48]) = some l := by
  have hh := ho_less h
  unfold hostM parts58
  rw [show cutAt 58 (l.map lessC ++ [58, 56, 48]) = some (l.map lessC, [56, 48]) from cutAt_of 58 [56, 48] _ (no58 hh), show (some (l.map lessC, [56, 48]) : Option (Bs × Bs)).getD (l.map lessC ++ [58, 56, 48], []) = (l.map lessC, [56, 48]) from rfl]
  rw [if_pos ⟨fun e => h0 (List.map_eq_nil_iff.1 e), hh, by rw [List.count_append, count_no (no58 hh)]; decide, .inr (show ([56, 48] : Bs).all dg = true by decide), (show ([56, 48] : Bs).length ≤ 5 by decide)⟩, if_pos (.inr rfl), low_less h]
theorem whole_slash (h r : Bs) : wholeM h (47 :: r) = (h, 47 :: r) := by
  unfold wholeM
  rw [if_neg]
  intro e
  have := congrArg List.head? e
  unfold lowL httpL at this
  simp only [List.take_succ_cons, List.map_cons, List.head?_cons, Option.some.injEq] at this
  revert this
  decide
theorem whole_http (h l r : Bs) (hl : l.all letB = true) : wholeM h ([72, 84, 84, 80, 58, 47, 47] ++ (l ++ 58 :: 47 :: r)) = (l ++ [58], 47 :: r) := by
  unfold wholeM
  rw [List.take_left' (by rfl), List.drop_left' (by rfl), if_pos (by decide)]
  have hn : ∀ d ∈ l ++ [58], d ≠ 47 ∧ d ≠ 63 := by
    intro d hd
    rcases List.mem_append.1 hd with hd | hd
    · exact (hoB_ne (List.all_eq_true.1 (ho_all hl) d hd)).2
    · rw [List.mem_singleton.1 hd]; decide
  obtain ⟨e1, e2⟩ := tw_stop (l ++ [58]) r hn
  rw [show l ++ 58 :: 47 :: r = (l ++ [58]) ++ 47 :: r by simp, e1, e2]
theorem norm_path {h t : Bs} {h' : Bs} {r : Bs} (hw : wholeM h t = (h', 47 :: r)) {n : Bs} (hh : hostM h' = some n) : normM h t = (pctM (47 :: r)).map fun p => httpL ++ n ++ (pathM (parts63 p).1 ++ (parts63 p).2) := by
  unfold normM
  rw [hw]
  simp only
  rw [hh]
  cases pctM (47 :: r) with
  | none => rfl
  | some p => simp only; rw [if_pos (by rfl)]; rfl
theorem let_num (d : Int) (h1 : ¬ d < 97) (h2 : ¬ 122 < d) : ∃ m : Nat, d = ((97 + m : Nat) : Int) ∧ m < 26 := ⟨(d - 97).toNat, by omega, by omega⟩
theorem TargetSame (nm path : ByteArray) (c : Int) (w0 : Ty.Wf .str nm) (w1 : Ty.Wf .str path) (w2 : Ty.Wf (.int .u8) c) : ∃ k, law09_TargetSame.f k (nm, (path, c)) = some true := by
  refine ⟨3000, ?_⟩
  unfold law09_TargetSame.f law09_TargetSame.g
  rw [awake09', bindO_some]
  simp only
  rw [show ltI 100 (lenS nm) = decide (100 < nm.size) from ltI_nat 100 _, ifO_dec, show ltI 200 (lenS path) = decide (200 < path.size) from ltI_nat 200 _, ifO_dec]
  by_cases h1 : 100 < nm.size
  · rw [if_pos h1]
  rw [if_neg h1]
  by_cases h2 : 200 < path.size
  · rw [if_pos h2]
  rw [if_neg h2]
  obtain ⟨l, rfl⟩ : ∃ l, nm = B l := ⟨_, B_of nm⟩
  obtain ⟨p, rfl⟩ : ∃ p, path = B p := ⟨_, B_of path⟩
  rw [B_size] at h1 h2
  -- where all is well
  have main : l ≠ [] → l.all letB = true → ∀ n : Fin 26, c = ((97 + n.val : Nat) : Int) → law09_TargetSame.j2 (fun x => x) 3000 (B l, (B p, (c, (true, false)))) = some true := by
    intro h0 hl n hc
    subst hc
    obtain ⟨⟨f1, f2⟩, ⟨f3, f4⟩, f5, f6, f7, f8, f9, f10⟩ := let_facts n
    have hcb : ((97 + n.val : Nat) : Int) = ((UInt8.ofNat (97 + n.val)).toNat : Int) := by
      rw [UInt8.toNat_ofNat']; omega
    have hob : ofBytes (((97 + n.val : Nat) : Int) :: ([] : List Int)) = B [UInt8.ofNat (97 + n.val)] := by
      rw [hcb]; exact B_ofBytes [UInt8.ofNat (97 + n.val)]
    generalize hcc : UInt8.ofNat (97 + n.val) = cb at f7 f8 f9 f10 hob
    generalize ((97 + n.val : Nat) : Int) = ci at *
    generalize (97 + n.val) / 16 = u at *
    generalize (97 + n.val) % 16 = v at *
    have e1 : normM l (47 :: cb :: p) = (pctM (47 :: cb :: p)).map fun q => httpL ++ l ++ (pathM (parts63 q).1 ++ (parts63 q).2) := norm_path (whole_slash l _) (host_plain h0 hl)
    have e2 : normM (l.map lessC ++ [58, 56, 48]) (47 :: 37 :: hlB u :: hlB v :: p) = (pctM (47 :: 37 :: hlB u :: hlB v :: p)).map fun q => httpL ++ l ++ (pathM (parts63 q).1 ++ (parts63 q).2) := norm_path (whole_slash _ _) (host_great h0 hl)
    have e3 : normM [120] ([72, 84, 84, 80, 58, 47, 47] ++ (l ++ 58 :: 47 :: cb :: p)) = (pctM (47 :: cb :: p)).map fun q => httpL ++ l ++ (pathM (parts63 q).1 ++ (parts63 q).2) := norm_path (whole_http _ l _ hl) (host_colon h0 hl)
    have ep : pctM (47 :: 37 :: hlB u :: hlB v :: p) = pctM (47 :: cb :: p) := by
      have q : ∀ r : Bs, pctM (47 :: r) = (pctM r).map fun q => 47 :: q := fun r => by rw [pctM_eq 47, if_pos (by decide), if_neg (by decide)]
      rw [q, q, pctM_three, f5, f6, pctM_eq cb p, if_pos f9, if_neg f10]
      simp only
      rw [f7, f8]
      rfl
    rw [ep, ← e1] at e2
    rw [← e1] at e3
    have ng : greatPartF 3000 (B l) = some ((l.map lessC).map fun c => (c.toNat : Int)) := by
      unfold greatPartF
      rw [if_pos (by rw [B_size]; omega), B_data]
    unfold law09_TargetSame.j2
    simp only
    rw [ifO_false, ng, bindO_some, hob, B_ofBytes, show (⟨#[48, 49, 50, 51, 52, 53, 54, 55, 56, 57, 97, 98, 99, 100, 101, 102]⟩ : ByteArray) = hexLow from rfl, f1, f2, f3, f4, show neI 16 0 = true from rfl]
    simp only [ifO_true]
    rw [show (⟨#[47]⟩ : ByteArray) = B [47] from rfl, show (⟨#[58, 56, 48]⟩ : ByteArray) = B [58, 56, 48] from rfl, show (⟨#[47, 37]⟩ : ByteArray) = B [47, 37] from rfl, show (⟨#[72, 84, 84, 80, 58, 47, 47]⟩ : ByteArray) = B [72, 84, 84, 80, 58, 47, 47] from rfl, show (⟨#[58, 47]⟩ : ByteArray) = B [58, 47] from rfl, show (⟨#[120]⟩ : ByteArray) = B [120] from rfl]
    simp only [B_fits, B_cat]
    rw [ifO_yes (decide_eq_true (by simp)), ifO_yes (decide_eq_true (by simp only [List.length_append, List.length_cons, List.length_nil]; omega))]
    rw [show [47] ++ [cb] ++ p = 47 :: cb :: p from rfl, normal_is l _ (by omega) (by simp only [List.length_cons]; omega) 3000 (by simp only [List.length_cons]; omega), bindO_some]
    rw [ifO_yes (decide_eq_true (by simp only [List.length_map, List.length_cons, List.length_nil]; omega)), ifO_yes (decide_eq_true (by simp)), ifO_yes (decide_eq_true (by simp)), ifO_yes (decide_eq_true (by simp only [List.length_append, List.length_cons, List.length_nil]; omega))]
    rw [show [47, 37] ++ [hlB u] ++ [hlB v] ++ p = 47 :: 37 :: hlB u :: hlB v :: p from rfl, normal_is _ _ (by simp only [List.length_append, List.length_map, List.length_cons, List.length_nil]; omega) (by simp only [List.length_cons]; omega) 3000 (by simp only [List.length_append, List.length_map, List.length_cons, List.length_nil]; omega), bindO_some]
    rw [ifO_yes (decide_eq_true (by simp only [List.length_cons, List.length_nil]; omega)), ifO_yes (decide_eq_true (by simp only [List.length_append, List.length_cons, List.length_nil]; omega)), ifO_yes (decide_eq_true (by simp only [List.length_append, List.length_cons, List.length_nil]; omega)), ifO_yes (decide_eq_true (by simp only [List.length_append, List.length_cons, List.length_nil]; omega))]
    rw [show [72, 84, 84, 80, 58, 47, 47] ++ l ++ [58, 47] ++ [cb] ++ p = [72, 84, 84, 80, 58, 47, 47] ++ (l ++ 58 :: 47 :: cb :: p) by simp, normal_is _ _ (by simp) (by simp only [List.length_append, List.length_cons, List.length_nil]; omega) 3000 (by simp only [List.length_append, List.length_cons, List.length_nil]; omega), bindO_some]
    unfold normR
    rw [e2, e3]
    rw [eqS_self, ifO_true, eqI_dec, decide_eq_true rfl, ifO_true, ifO_true]
  unfold law09_TargetSame.l1
  refine iter_eq (f := law09_TargetSame.l1b (fun x => x) 3000) (fun v => v.1 = B l ∧ v.2.1 = B p ∧ v.2.2.1 = c ∧ v.2.2.2.1 = true ∧ ∃ i : Nat, v.2.2.2.2 = (i : Int) ∧ i ≤ l.length ∧ (l.take i).all letB = true) (fun v => (l.length + 1 - v.2.2.2.2).toNat) (fun _ => some true) ?_ _ _ ⟨rfl, rfl, rfl, rfl, 0, rfl, Nat.zero_le _, rfl⟩ (by show ((l.length : Int) + 1 - 0).toNat < 3000; omega)
  rintro r ⟨s, q, d, u, i'⟩ ⟨e1, e2, e3, e4, i, e5, hi, hg⟩ hr
  simp only at e1 e2 e3 e4 e5
  subst e1; subst e2; subst e3; subst e4; subst e5
  unfold law09_TargetSame.l1b
  simp only [B_len, inB_nat, ltI_nat, ifO_dec]
  by_cases h : i < l.length
  · rw [if_pos h, if_pos h, B_at h, show ltI (l[i].toNat : Int) 97 = decide (l[i].toNat < 97) from ltI_nat _ 97, ifO_dec, show ltI 122 (l[i].toNat : Int) = decide (122 < l[i].toNat) from ltI_nat 122 _, ifO_dec]
    by_cases g1 : l[i].toNat < 97
    · rw [if_pos g1]
    rw [if_neg g1, if_pos h]
    by_cases g2 : 122 < l[i].toNat
    · rw [if_pos g2]
    rw [if_neg g2, next64 (by omega)]
    refine hr _ ⟨rfl, rfl, rfl, rfl, i + 1, rfl, h, ?_⟩ (by show ((l.length : Int) + 1 - ((i + 1 : Nat) : Int)).toNat < ((l.length : Int) + 1 - (i : Int)).toNat; omega)
    rw [List.take_add_one, List.getElem?_eq_getElem h, List.all_append, hg]
    unfold letB
    simp
    omega
  · rw [if_neg h]
    rw [List.take_of_length_le (by omega)] at hg
    have up : law09_TargetSame.j2 (fun x => x) 3000 (B l, (B p, (d, (true, true)))) = some true := rfl
    rw [show (⟨#[]⟩ : ByteArray) = B [] from rfl, B_eq, ifO_dec, ltD, ltD, ifO_dec]
    by_cases g0 : l = []
    · rw [if_pos g0]; exact up
    rw [if_neg g0]
    by_cases g1 : (@LT.lt Int _ d 97)
    · rw [if_pos g1]; exact up
    rw [if_neg g1]
    by_cases g2 : (@LT.lt Int _ 122 d)
    · rw [decide_eq_true g2]; exact up
    rw [decide_eq_false g2]
    obtain ⟨m, e1, e2⟩ := let_num d g1 g2
    exact main g0 hg ⟨m, e2⟩ e1
end Go.Proofs.YtmmbedlegmbppaaDoor.R
