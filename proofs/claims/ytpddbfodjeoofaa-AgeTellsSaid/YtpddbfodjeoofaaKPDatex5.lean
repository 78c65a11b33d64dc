/- Texts of this session's own, as far as they are used here. -/
import Derived.Test.YtpddbfodjeoofaaKPDatex0
import Derived.Test.YtpddbfodjeoofaaKPDatex1
import Derived.Test.YtpddbfodjeoofaaKPDatex2
import Derived.Test.YtpddbfodjeoofaaKPDatex4
namespace Go.Proofs.Ytpddbfodjeoofaa.PDate
open Go.RowKit Go.Proofs.YtpddbfodjeoofaaW.PrintWords Go.Proofs.YtpddbfodjeoofaaW.PrintLast Go.Proofs.YtpddbfodjeoofaaW.PrintMore
attribute [local go_sem] max2_int min2_int max_two min_two max_three min_three max_four min_four   -- for this text's walks alone
set_option linter.unusedVariables false
set_option linter.unusedSimpArgs false

mutual
def date_Parse.l0 : Nat → ByteArray → Int → Bool → Bool → Bool → Option (Int × Int)
 | 0, _, _, _, _, _ => none
 | k + 1, x0, x16, x503, x504, x505 => if x16 < 3 then (if x16 = 0 then ((date_weekdays.f).bind fun bt261 => (date_Parse.l1 k x0 x16 0 x503 x504 x505 bt261.1 bt261.2.1 bt261.2.2.1 bt261.2.2.2.1 bt261.2.2.2.2.1 bt261.2.2.2.2.2.1 bt261.2.2.2.2.2.2 x503)) else (if x16 = 1 then ((date_weekdays.f).bind fun bt282 => (date_Parse.l2 k x0 x16 0 x503 x504 x505 bt282.1 bt282.2.1 bt282.2.2.1 bt282.2.2.2.1 bt282.2.2.2.2.1 bt282.2.2.2.2.2.1 bt282.2.2.2.2.2.2 x504)) else (if x16 = 2 then ((date_weekdays.f).bind fun bt303 => (date_Parse.l3 k x0 x16 0 x503 x504 x505 bt303.1 bt303.2.1 bt303.2.2.1 bt303.2.2.2.1 bt303.2.2.2.2.1 bt303.2.2.2.2.2.1 bt303.2.2.2.2.2.2 x505)) else (none)))) else (some (0, 2))
def date_Parse.l1 : Nat → ByteArray → Int → Int → Bool → Bool → Bool → ByteArray → ByteArray → ByteArray → ByteArray → ByteArray → ByteArray → ByteArray → Bool → Option (Int × Int)
 | 0, _, _, _, _, _, _, _, _, _, _, _, _, _, _ => none
 | k + 1, x0, x16, x20, x503, x504, x505, x507, x508, x509, x510, x511, x512, x513, x261000 => if x20 < 7 then (if 0 ≤ x20 then (if x261000 = true then (date_Parse.j2 k x0 x20 (arrAt [x507, x508, x509, x510, x511, x512, x513] (⟨#[]⟩ : ByteArray) x20) x16 x20 x503 x504 x505 x507 x508 x509 x510 x511 x512 x513 x261000) else (if 0 ≤ 3 then (if 3 ≤ ((arrAt [x507, x508, x509, x510, x511, x512, x513] (⟨#[]⟩ : ByteArray) x20).size : Int) then (date_Parse.j2 k x0 x20 ((arrAt [x507, x508, x509, x510, x511, x512, x513] (⟨#[]⟩ : ByteArray) x20).extract 0 3) x16 x20 x503 x504 x505 x507 x508 x509 x510 x511 x512 x513 x261000) else (none)) else (none))) else (none)) else (date_Parse.l0 k x0 (wrap64 (x16 + 1)) x503 x504 x505)
def date_Parse.j2 : Nat → ByteArray → Int → ByteArray → Int → Int → Bool → Bool → Bool → ByteArray → ByteArray → ByteArray → ByteArray → ByteArray → ByteArray → ByteArray → Bool → Option (Int × Int)
 | 0, _, _, _, _, _, _, _, _, _, _, _, _, _, _, _, _ => none
 | k + 1, x0, x6, x7, x16, x20, x503, x504, x505, x507, x508, x509, x510, x511, x512, x513, x261000 => (date_scan_word.f x0 false x7).bind fun bt269 => (if bt269.2 = true then (date_Parse.l1 k x0 x16 (wrap64 (x20 + 1)) x503 x504 x505 x507 x508 x509 x510 x511 x512 x513 x261000) else ((date_first.f k bt269.1 bt269.2).bind fun bt271 => ((date_Days.f k bt271.1 bt271.2.1 bt271.2.2.1).bind fun bt278 => (if bt271.2.2.2.2.2 = true then (date_Parse.l1 k x0 x16 (wrap64 (x20 + 1)) x503 x504 x505 x507 x508 x509 x510 x511 x512 x513 x261000) else (if bt271.2.2.2.2.1.toList = ([] : List UInt8) then (if bt278.2 = 0 then ((date_Weekday.f bt278.1).bind fun t280 => (if t280 = x6 then (some (wrap64 ((wrap64 (bt278.1 * 86400)) + bt271.2.2.2.1), 0)) else (date_Parse.l1 k x0 x16 (wrap64 (x20 + 1)) x503 x504 x505 x507 x508 x509 x510 x511 x512 x513 x261000))) else (date_Parse.l1 k x0 x16 (wrap64 (x20 + 1)) x503 x504 x505 x507 x508 x509 x510 x511 x512 x513 x261000)) else (date_Parse.l1 k x0 x16 (wrap64 (x20 + 1)) x503 x504 x505 x507 x508 x509 x510 x511 x512 x513 x261000))))))
def date_Parse.l2 : Nat → ByteArray → Int → Int → Bool → Bool → Bool → ByteArray → ByteArray → ByteArray → ByteArray → ByteArray → ByteArray → ByteArray → Bool → Option (Int × Int)
 | 0, _, _, _, _, _, _, _, _, _, _, _, _, _, _ => none
 | k + 1, x0, x16, x20, x503, x504, x505, x507, x508, x509, x510, x511, x512, x513, x282000 => if x20 < 7 then (if 0 ≤ x20 then (if x282000 = true then (date_Parse.j4 k x0 x20 (arrAt [x507, x508, x509, x510, x511, x512, x513] (⟨#[]⟩ : ByteArray) x20) x16 x20 x503 x504 x505 x507 x508 x509 x510 x511 x512 x513 x282000) else (if 0 ≤ 3 then (if 3 ≤ ((arrAt [x507, x508, x509, x510, x511, x512, x513] (⟨#[]⟩ : ByteArray) x20).size : Int) then (date_Parse.j4 k x0 x20 ((arrAt [x507, x508, x509, x510, x511, x512, x513] (⟨#[]⟩ : ByteArray) x20).extract 0 3) x16 x20 x503 x504 x505 x507 x508 x509 x510 x511 x512 x513 x282000) else (none)) else (none))) else (none)) else (date_Parse.l0 k x0 (wrap64 (x16 + 1)) x503 x504 x505)
def date_Parse.j4 : Nat → ByteArray → Int → ByteArray → Int → Int → Bool → Bool → Bool → ByteArray → ByteArray → ByteArray → ByteArray → ByteArray → ByteArray → ByteArray → Bool → Option (Int × Int)
 | 0, _, _, _, _, _, _, _, _, _, _, _, _, _, _, _, _ => none
 | k + 1, x0, x6, x7, x16, x20, x503, x504, x505, x507, x508, x509, x510, x511, x512, x513, x282000 => (date_scan_word.f x0 false x7).bind fun bt290 => (if bt290.2 = true then (date_Parse.l2 k x0 x16 (wrap64 (x20 + 1)) x503 x504 x505 x507 x508 x509 x510 x511 x512 x513 x282000) else ((date_second.f k bt290.1 bt290.2).bind fun bt292 => ((date_Days.f k bt292.1 bt292.2.1 bt292.2.2.1).bind fun bt299 => (if bt292.2.2.2.2.2 = true then (date_Parse.l2 k x0 x16 (wrap64 (x20 + 1)) x503 x504 x505 x507 x508 x509 x510 x511 x512 x513 x282000) else (if bt292.2.2.2.2.1.toList = ([] : List UInt8) then (if bt299.2 = 0 then ((date_Weekday.f bt299.1).bind fun t301 => (if t301 = x6 then (some (wrap64 ((wrap64 (bt299.1 * 86400)) + bt292.2.2.2.1), 0)) else (date_Parse.l2 k x0 x16 (wrap64 (x20 + 1)) x503 x504 x505 x507 x508 x509 x510 x511 x512 x513 x282000))) else (date_Parse.l2 k x0 x16 (wrap64 (x20 + 1)) x503 x504 x505 x507 x508 x509 x510 x511 x512 x513 x282000)) else (date_Parse.l2 k x0 x16 (wrap64 (x20 + 1)) x503 x504 x505 x507 x508 x509 x510 x511 x512 x513 x282000))))))
def date_Parse.l3 : Nat → ByteArray → Int → Int → Bool → Bool → Bool → ByteArray → ByteArray → ByteArray → ByteArray → ByteArray → ByteArray → ByteArray → Bool → Option (Int × Int)
 | 0, _, _, _, _, _, _, _, _, _, _, _, _, _, _ => none
 | k + 1, x0, x16, x20, x503, x504, x505, x507, x508, x509, x510, x511, x512, x513, x303000 => if x20 < 7 then (if 0 ≤ x20 then (if x303000 = true then (date_Parse.j6 k x0 x20 (arrAt [x507, x508, x509, x510, x511, x512, x513] (⟨#[]⟩ : ByteArray) x20) x16 x20 x503 x504 x505 x507 x508 x509 x510 x511 x512 x513 x303000) else (if 0 ≤ 3 then (if 3 ≤ ((arrAt [x507, x508, x509, x510, x511, x512, x513] (⟨#[]⟩ : ByteArray) x20).size : Int) then (date_Parse.j6 k x0 x20 ((arrAt [x507, x508, x509, x510, x511, x512, x513] (⟨#[]⟩ : ByteArray) x20).extract 0 3) x16 x20 x503 x504 x505 x507 x508 x509 x510 x511 x512 x513 x303000) else (none)) else (none))) else (none)) else (date_Parse.l0 k x0 (wrap64 (x16 + 1)) x503 x504 x505)
def date_Parse.j6 : Nat → ByteArray → Int → ByteArray → Int → Int → Bool → Bool → Bool → ByteArray → ByteArray → ByteArray → ByteArray → ByteArray → ByteArray → ByteArray → Bool → Option (Int × Int)
 | 0, _, _, _, _, _, _, _, _, _, _, _, _, _, _, _, _ => none
 | k + 1, x0, x6, x7, x16, x20, x503, x504, x505, x507, x508, x509, x510, x511, x512, x513, x303000 => (date_scan_word.f x0 false x7).bind fun bt311 => (if bt311.2 = true then (date_Parse.l3 k x0 x16 (wrap64 (x20 + 1)) x503 x504 x505 x507 x508 x509 x510 x511 x512 x513 x303000) else ((date_third.f k bt311.1 bt311.2).bind fun bt313 => ((date_Days.f k bt313.1 bt313.2.1 bt313.2.2.1).bind fun bt320 => (if bt313.2.2.2.2.2 = true then (date_Parse.l3 k x0 x16 (wrap64 (x20 + 1)) x503 x504 x505 x507 x508 x509 x510 x511 x512 x513 x303000) else (if bt313.2.2.2.2.1.toList = ([] : List UInt8) then (if bt320.2 = 0 then ((date_Weekday.f bt320.1).bind fun t322 => (if t322 = x6 then (some (wrap64 ((wrap64 (bt320.1 * 86400)) + bt313.2.2.2.1), 0)) else (date_Parse.l3 k x0 x16 (wrap64 (x20 + 1)) x503 x504 x505 x507 x508 x509 x510 x511 x512 x513 x303000))) else (date_Parse.l3 k x0 x16 (wrap64 (x20 + 1)) x503 x504 x505 x507 x508 x509 x510 x511 x512 x513 x303000)) else (date_Parse.l3 k x0 x16 (wrap64 (x20 + 1)) x503 x504 x505 x507 x508 x509 x510 x511 x512 x513 x303000))))))
end
def date_Parse.f (k : Nat) (a0 : ByteArray) : Option (Int × Int) := date_Parse.l0 k a0 0 false true false
set_option maxHeartbeats 8000000 in
set_option maxRecDepth 100000 in
theorem date_Parse.calls (k : Nat) (a0 : ByteArray) (r1 : Int) (r2 : Int) (w : World) (h : date_Parse.f k a0 = some (r1, r2)) :
  Calls Try.prog 14 #[.string a0] w fun e w' => e = .returned (.tuple #[.int .i64 r1, .int .i64 r2]) ∧ Below w.heap.size w w' := by
 have hu63 := Try.underlying63
 have hu64 := Try.underlying64
 have hu67 := Try.underlying67
 have hu70 := Try.underlying70
 have hixv55 : ∀ (x0 x1 x2 x3 x4 x5 x6 : ByteArray) (j : Int), 0 ≤ j → j < 7 → ∀ W : World, (Instr.index 55 (.agg #[.string x0, .string x1, .string x2, .string x3, .string x4, .string x5, .string x6]) (.int .i64 j)).run Try.prog W = .ok (.string (arrAt [x0, x1, x2, x3, x4, x5, x6] (⟨#[]⟩ : ByteArray) j)) W := by
  intro x0 x1 x2 x3 x4 x5 x6 j h0 h1 W
  rcases (by omega : j = 0 ∨ j = 1 ∨ j = 2 ∨ j = 3 ∨ j = 4 ∨ j = 5 ∨ j = 6) with rfl | rfl | rfl | rfl | rfl | rfl | rfl <;> rfl
 have HB := Aside0.mk (Below.refl w.heap.size w)
 have H : (date_Parse.l0 k a0 0 false true false) = some (r1, r2) := h
 clear h
 have H' := Aside0.mk H
 clear H
 go_enter Try.func14, Try.ntmps14
 go_wp2
 go_loopg [16] k (fun kq v16 w' => ∃ (x16_1 : Int), v16 = .int .i64 x16_1 ∧ Aside0 (date_Parse.l0 kq a0 x16_1 false true false = some (r1, r2)) ∧ Aside0 (kq ≤ k) ∧ Aside0 (Below w.heap.size w w'))
 case atStart => exact ⟨(0), (by first | rfl | (simp; done) | (simp [*]; done)), H', ⟨Nat.le_refl _⟩, ⟨by repeat (first | (with_reducible first | exact HB.out | apply below_alloc | apply pw_below_drewN | apply below_drew1) | exact HB.out)⟩⟩
 case round =>
  clear H'
  try clear c1
  obtain ⟨x16_1, rfl, HA, HK1, HB⟩ := hrel
  cases gk with
  | zero => exact absurd HA.out (by simp [date_Parse.l0])
  | succ k1 =>
   have H := HA.out
   clear HA
   simp only [date_Parse.l0] at H
   by_cases c2 : x16_1 < 3
   ·rw [if_pos c2] at H
    have c2b0 : decide (x16_1 < 3) = true := decide_eq_true c2
    clear c2
    by_cases c3 : x16_1 = 0
    ·rw [if_pos c3] at H
     have c3b0 : (x16_1 == 0) = true := beq_iff_eq.mpr c3
     have c3b1 : (x16_1 != 0) = false := bne_eq_false_iff_eq.mpr c3
     clear c3
     replace H := Option.bind_eq_some_iff.mp H
     obtain ⟨⟨t261, t262, t263, t264, t265, t266, t267⟩, A50, H⟩ := H
     replace H : (date_Parse.l1 k1 a0 x16_1 0 false true false t261 t262 t263 t264 t265 t266 t267 false) = some (r1, r2) := H
     have A5 := Aside0.mk A50
     clear A50
     have H' := Aside0.mk H
     clear H
     have hix4 : ∀ (v0_ v1_ v2_ v3_ v4_ v5_ : Value) (W : World), (Instr.index 64 (.agg #[v0_, v1_, v2_, v3_, v4_, v5_]) (.int .i64 x16_1)).run Try.prog W = .ok (.agg #[v0_, v1_]) W := by
      have h_ : (x16_1 : Int) = 0 := beq_iff_eq.mp (by assumption)
      rw [h_]
      intros; rfl
     go_wp2_with (first | ((with_reducible refine gate_dst (N := 5) rfl ?_); refine box_event ?hg (N := 5) ?hd (cs := #[.bool false, .nilFunc]) (t := 63) ?hr ?_; (case hd => rfl); (case hg => rfl); (case hr => first | (go_simp; done) | (go_simp; rfl)); intro gb260 hg w6 hbox hb; have n0_ := Aside0.mk (below_step (by repeat (first | (with_reducible first | exact HB.out | apply below_alloc | apply pw_below_drewN | apply below_drew1) | exact HB.out)) hb); have n1_ := Aside0.mk (hbox); have n2_ := Aside0.mk ((by rw [hg]; exact (below_size (by repeat (first | (with_reducible first | exact HB.out | apply below_alloc | apply pw_below_drewN | apply below_drew1) | exact HB.out))) : w.heap.size ≤ gb260)); have n3_ := Aside0.mk ((by rw [hg]; exact (below_size (by repeat (first | (with_reducible first | exact HB.out | apply below_alloc | apply pw_below_drewN | apply below_drew1) | exact HB.out))) : w.heap.size ≤ gb260)); clear HB; have HB := n0_; have BK260 := n1_; have GW260 := n2_; have GE260 := n3_; clear n0_ n1_ n2_ n3_; clear hb hbox hg; have hcz7_0 : w6.cell? ⟨gb260, 0, none⟩ = some (.bool false) := (blk_cell BK260.out 0).trans rfl; have hcz7_1 : w6.cell? ⟨gb260, 1, none⟩ = some (.nilFunc) := (blk_cell BK260.out 1).trans rfl; have hfz7_0 := blk_frozen BK260.out 0; have hfz7_1 := blk_frozen BK260.out 1) | ((with_reducible refine gate_callee (f := 38) rfl ?_); refine goesL_ (some 19) rfl rfl Try.func38 (by kernel_rfl) rfl #[] rfl (by (try simp only [List.map_toArray, List.map_cons, List.map_nil]); first | done | rfl | (simp only [List.length_drop, List.length_take]; rfl)) ?_; (with_reducible refine (date_weekdays.calls  t261 t262 t263 t264 t265 t266 t267 _ A5.out).mono ?_); rintro e w8 ⟨rfl, hb⟩; refine ⟨_, rfl, ?_⟩; have n0_ := Aside0.mk (blk_below (g := gb260) (o := .cells #[.bool false, .func (.func 41) #[] #[]] 63 (0, 0)) (by (with_reducible repeat (first | refine blk_drewN ?_ _ | refine blk_drew ?_ | refine blk_alloc ?_ _)); refine blk_put (cs := #[.bool false, .nilFunc]) ?_ 1 _ rfl; (with_reducible repeat (first | refine blk_drewN ?_ _ | refine blk_drew ?_ | refine blk_alloc ?_ _)); refine blk_put (cs := #[.bool false, .nilFunc]) ?_ 0 _ rfl; (with_reducible repeat (first | refine blk_drewN ?_ _ | refine blk_drew ?_ | refine blk_alloc ?_ _)); exact BK260.out) hb); have n1_ := Aside0.mk (below_step (by repeat (first | (with_reducible first | exact HB.out | apply below_alloc | apply pw_below_drewN | apply below_drew1 | refine below_set ?_ GE260.out) | exact HB.out)) hb); clear BK260; clear HB; have BK260 := n0_; have HB := n1_; clear n0_ n1_; (try clear hb); (try clear hb2); (try clear hk); (try clear hi)))
     go_loopg [20] k1 (fun kq v20 w' => ∃ (x20_2 : Int), v20 = .int .i64 x20_2 ∧ Aside0 (date_Parse.l1 kq a0 x16_1 x20_2 false true false t261 t262 t263 t264 t265 t266 t267 false = some (r1, r2)) ∧ Aside0 (kq ≤ k1) ∧ Aside0 (w'.heap[gb260]? = some (.cells #[.bool false, (.func (.func 41) #[] #[])] 63 (0, 0))) ∧ Aside0 (Below w.heap.size w w'))
     case atStart => exact ⟨(0), (by first | rfl | (simp; done) | (simp [*]; done)), H', ⟨Nat.le_refl _⟩, ⟨by (with_reducible repeat (first | refine blk_drewN ?_ _ | refine blk_drew ?_ | refine blk_alloc ?_ _)); exact BK260.out⟩, ⟨by repeat (first | (with_reducible first | exact HB.out | apply below_alloc | apply pw_below_drewN | apply below_drew1 | refine below_set ?_ GE260.out) | exact HB.out)⟩⟩
     case round =>
      clear H'
      try clear c1
      try clear c2
      try clear c2b0
      try clear p2
      try clear c3
      try clear c3b0
      try clear c3b1
      try clear hcz7_0
      try clear hcz7_1
      try clear hfz7_0
      try clear hfz7_1
      obtain ⟨x20_2, rfl, HA, HK2, BK260, HB⟩ := hrel
      cases gk with
      | zero => exact absurd HA.out (by simp [date_Parse.l1])
      | succ k2 =>
       have H := HA.out
       clear HA
       simp only [date_Parse.l1] at H
       by_cases c9 : x20_2 < 7
       ·rw [if_pos c9] at H
        have c9b0 : decide (x20_2 < 7) = true := decide_eq_true c9
        clear c9
        by_cases c10 : 0 ≤ x20_2
        ·rw [if_pos c10] at H
         have c10b0 : decide (0 ≤ x20_2) = true := decide_eq_true c10
         clear c10
         have HC12 := Aside0.mk H
         clear H
         have p11 : 0 ≤ (x20_2 : Int) := of_decide_eq_true (by first | (with_reducible assumption) | assumption)
         have q11 : x20_2 < (7 : Int) := of_decide_eq_true (by first | (with_reducible assumption) | assumption)
         replace p11 := eq_true p11
         replace q11 := eq_true q11
         have hcz13_0 : wr.cell? ⟨gb260, 0, none⟩ = some (.bool false) := (blk_cell BK260.out 0).trans rfl
         have hcz13_1 : wr.cell? ⟨gb260, 1, none⟩ = some (.func (.func 41) #[] #[]) := (blk_cell BK260.out 1).trans rfl
         have hfz13_0 := blk_frozen BK260.out 0
         have hfz13_1 := blk_frozen BK260.out 1
         go_upto_if 26 with (fail)
         go_cut [7] (fun v7 wc => ∃ (kq : Nat) (x7_11 : ByteArray), v7 = .string x7_11 ∧ Aside0 (date_Parse.j2 kq a0 x20_2 x7_11 x16_1 x20_2 false true false t261 t262 t263 t264 t265 t266 t267 false = some (r1, r2)) ∧ Aside0 (kq ≤ k2) ∧ Aside0 (wc.heap[gb260]? = some (.cells #[.bool false, (.func (.func 41) #[] #[])] 63 (0, 0))) ∧ Aside0 (Below w.heap.size w wc))
         case first =>
          have H := HC12.out
          clear HC12
          have H1 : (if 0 ≤ 3 then (if 3 ≤ ((arrAt [t261, t262, t263, t264, t265, t266, t267] (⟨#[]⟩ : ByteArray) x20_2).size : Int) then (date_Parse.j2 k2 a0 x20_2 ((arrAt [t261, t262, t263, t264, t265, t266, t267] (⟨#[]⟩ : ByteArray) x20_2).extract 0 3) x16_1 x20_2 false true false t261 t262 t263 t264 t265 t266 t267 false) else (none)) else (none)) = some (r1, r2) := by first | (rw [if_neg (show ¬ (false = true) by decide)] at H; exact H) | (rw [if_neg (show ¬ False from fun h_ => h_)] at H; exact H) | exact H
          clear H
          have H := H1
          clear H1
          by_cases c15 : 0 ≤ 3
          ·rw [if_pos c15] at H
           have c15b0 := eq_true c15
           have c15b1 : decide (0 ≤ 3) = true := decide_eq_true c15
           clear c15
           by_cases c16 : 3 ≤ ((arrAt [t261, t262, t263, t264, t265, t266, t267] (⟨#[]⟩ : ByteArray) x20_2).size : Int)
           ·rw [if_pos c16] at H
            have c16b0 := eq_true c16
            have c16b1 : decide (3 ≤ ((arrAt [t261, t262, t263, t264, t265, t266, t267] (⟨#[]⟩ : ByteArray) x20_2).size : Int)) = true := decide_eq_true c16
            clear c16
            have H' := Aside0.mk H
            clear H
            go_wp2
            go_meet
            case rel => exact ⟨_, ((arrAt [t261, t262, t263, t264, t265, t266, t267] (⟨#[]⟩ : ByteArray) x20_2).extract 0 3), (by first | rfl | (simp; done) | (simp [*]; done)), H', ⟨by have := HK1.out; have := HK2.out; first | omega | exact Nat.le_refl _⟩, ⟨by (with_reducible repeat (first | refine blk_drewN ?_ _ | refine blk_drew ?_ | refine blk_alloc ?_ _)); exact BK260.out⟩, ⟨by repeat (first | (with_reducible first | exact HB.out | apply below_alloc | apply pw_below_drewN | apply below_drew1 | refine below_set ?_ GE260.out) | exact HB.out)⟩⟩
           ·rw [if_neg c16] at H
            exact absurd H (by simp)
          ·rw [if_neg c15] at H
           exact absurd H (by simp)
         case rest =>
          clear HC12
          try clear c1
          try clear p1
          try clear q1
          try clear c2
          try clear c2b0
          try clear p2
          try clear c3
          try clear c3b0
          try clear c3b1
          try clear c9
          try clear c9b0
          try clear c10
          try clear c10b0
          try clear p11
          try clear q11
          try clear c14
          try clear c15
          try clear c15b0
          try clear c15b1
          try clear c16
          try clear c16b0
          try clear c16b1
          try clear hcz13_0
          try clear hcz13_1
          try clear hcz7_0
          try clear hcz7_1
          try clear hfz13_0
          try clear hfz13_1
          try clear hfz7_0
          try clear hfz7_1
          try clear p11
          try clear p2
          try clear q11
          obtain ⟨kq, x7_11, rfl, HA, HJ11, BK260, HB⟩ := hcut
          cases kq with
          | zero => exact absurd HA.out (by simp [date_Parse.j2])
          | succ kj11 =>
           have H := HA.out
           clear HA
           simp only [date_Parse.j2] at H
           replace H := Option.bind_eq_some_iff.mp H
           obtain ⟨⟨t269, t270⟩, A170, H⟩ := H
           replace H : (if t270 = true then (date_Parse.l1 kj11 a0 x16_1 (wrap64 (x20_2 + 1)) false true false t261 t262 t263 t264 t265 t266 t267 false) else ((date_first.f kj11 t269 t270).bind fun bt271 => ((date_Days.f kj11 bt271.1 bt271.2.1 bt271.2.2.1).bind fun bt278 => (if bt271.2.2.2.2.2 = true then (date_Parse.l1 kj11 a0 x16_1 (wrap64 (x20_2 + 1)) false true false t261 t262 t263 t264 t265 t266 t267 false) else (if bt271.2.2.2.2.1.toList = ([] : List UInt8) then (if bt278.2 = 0 then ((date_Weekday.f bt278.1).bind fun t280 => (if t280 = x20_2 then (some (wrap64 ((wrap64 (bt278.1 * 86400)) + bt271.2.2.2.1), 0)) else (date_Parse.l1 kj11 a0 x16_1 (wrap64 (x20_2 + 1)) false true false t261 t262 t263 t264 t265 t266 t267 false))) else (date_Parse.l1 kj11 a0 x16_1 (wrap64 (x20_2 + 1)) false true false t261 t262 t263 t264 t265 t266 t267 false)) else (date_Parse.l1 kj11 a0 x16_1 (wrap64 (x20_2 + 1)) false true false t261 t262 t263 t264 t265 t266 t267 false)))))) = some (r1, r2) := H
           have A17 := Aside0.mk A170
           clear A170
           by_cases c18 : t270 = true
           ·subst c18
            have H1 : (date_Parse.l1 kj11 a0 x16_1 (wrap64 (x20_2 + 1)) false true false t261 t262 t263 t264 t265 t266 t267 false) = some (r1, r2) := by rw [if_pos rfl] at H; exact H
            clear H
            have H := H1
            clear H1
            have H' := Aside0.mk H
            clear H
            go_wp2_with (first | ((with_reducible refine gate_dst (N := 31) rfl ?_); refine box_event ?hg (N := 31) ?hd (cs := #[.string a0, .bool false]) (t := 67) ?hr ?_; (case hd => rfl); (case hg => rfl); (case hr => first | (go_simp; done) | (go_simp; rfl)); intro gb268 hg w19 hbox hb; have n0_ := Aside0.mk (blk_below (g := gb260) (o := .cells #[.bool false, .func (.func 41) #[] #[]] 63 (0, 0)) (by (with_reducible repeat (first | refine blk_drewN ?_ _ | refine blk_drew ?_ | refine blk_alloc ?_ _)); exact BK260.out) hb); have n1_ := Aside0.mk (below_step (by repeat (first | (with_reducible first | exact HB.out | apply below_alloc | apply pw_below_drewN | apply below_drew1 | refine below_set ?_ GE260.out) | exact HB.out)) hb); have n2_ := Aside0.mk ((show IsS67 w w19 gb268 a0 false from ⟨hbox, (by rw [hg]; exact (below_size (by repeat (first | (with_reducible first | exact HB.out | apply below_alloc | apply pw_below_drewN | apply below_drew1 | refine below_set ?_ GE260.out) | exact HB.out))))⟩)); have n3_ := Aside0.mk ((by rw [hg]; exact (below_size (by repeat (first | (with_reducible first | exact HB.out | apply below_alloc | apply pw_below_drewN | apply below_drew1 | refine below_set ?_ GE260.out) | exact HB.out))) : w.heap.size ≤ gb268)); have n4_ := Aside0.mk ((by rw [hg]; exact (below_size (by repeat (first | (with_reducible first | exact HB.out | apply below_alloc | apply pw_below_drewN | apply below_drew1 | refine below_set ?_ GE260.out) | exact HB.out))) : w.heap.size ≤ gb268)); have n5_ := Aside0.mk ((by rw [hg]; exact Nat.ne_of_lt (blk_lt (g := gb260) (o := .cells #[.bool false, .func (.func 41) #[] #[]] 63 (0, 0)) (by (with_reducible repeat (first | refine blk_drewN ?_ _ | refine blk_drew ?_ | refine blk_alloc ?_ _)); exact BK260.out)) : gb260 ≠ gb268)); have n6_ := Aside0.mk ((by rw [hg]; exact Nat.ne_of_gt (blk_lt (g := gb260) (o := .cells #[.bool false, .func (.func 41) #[] #[]] 63 (0, 0)) (by (with_reducible repeat (first | refine blk_drewN ?_ _ | refine blk_drew ?_ | refine blk_alloc ?_ _)); exact BK260.out)) : gb268 ≠ gb260)); clear BK260; clear HB; have BK260 := n0_; have HB := n1_; have HI268 := n2_; have GW268 := n3_; have GE268 := n4_; have NB260_268 := n5_; have NB268_260 := n6_; clear n0_ n1_ n2_ n3_ n4_ n5_ n6_; clear hb hbox hg) | ((with_reducible refine gate_callee (f := 44) rfl ?_); refine goesL_ (some 34) rfl rfl Try.func44 (by kernel_rfl) rfl #[.pointer (some ⟨gb268, 0, none⟩), .string x7_11] rfl (by (try simp only [List.map_toArray, List.map_cons, List.map_nil]); first | done | rfl | (simp only [List.length_drop, List.length_take]; rfl)) ?_; (with_reducible refine (date_scan_word.calls gb268 a0 false x7_11 t269 true w _ ?side1 ?side2 A17.out).mono ?_); (case side1 => repeat (first | (with_reducible first | exact HI268.out | apply IsS67.alloc | apply IsS67.drewN | apply IsS67.drew | apply IsS67.set_0 | apply IsS67.set_1 | (apply IsS67.far; rotate_left; exact NB268_260.out; rotate_right)) | exact HI268.out)); (case side2 => repeat (first | (with_reducible first | exact HB.out | apply below_alloc | apply pw_below_drewN | apply below_drew1 | refine below_set ?_ (IsS67.ge HI268.out) | refine below_set ?_ GE260.out) | exact HB.out)); rintro e w20 ⟨rfl, hi, hb, hk⟩; refine ⟨_, rfl, ?_⟩; have n0_ := Aside0.mk (KeepBut.blk hk (g' := gb260) (o := .cells #[.bool false, .func (.func 41) #[] #[]] 63 (0, 0)) (by (with_reducible repeat (first | refine blk_drewN ?_ _ | refine blk_drew ?_ | refine blk_alloc ?_ _)); exact BK260.out) NB260_268.out (by simp)); have n1_ := Aside0.mk (hb); have n2_ := Aside0.mk (hi); clear BK260; clear HB; clear HI268; have BK260 := n0_; have HB := n1_; have HI268 := n2_; clear n0_ n1_ n2_; (try clear hb); (try clear hb2); (try clear hk); (try clear hi); obtain ⟨HGz21, hgz21⟩ := HI268.out; have hcz21_0 := cellS67_0 HGz21; have hcz21_1 := cellS67_1 HGz21; have hfz21_0 := blk_frozen HGz21 0; have hfz21_1 := blk_frozen HGz21 1; clear HGz21 hgz21))
            go_roundg kj11
            case measure => have := HK1.out; have := HK2.out; have := HJ11.out; omega
            case rel => exact ⟨(wrap64 (x20_2 + 1)), (by first | rfl | (simp; done) | (simp [*]; done)), H', ⟨by have := HK1.out; have := HK2.out; have := HJ11.out; omega⟩, ⟨by (with_reducible repeat (first | refine blk_drewN ?_ _ | refine blk_drew ?_ | refine blk_alloc ?_ _)); exact BK260.out⟩, ⟨by repeat (first | (with_reducible first | exact HB.out | apply below_alloc | apply pw_below_drewN | apply below_drew1 | refine below_set ?_ (IsS67.ge HI268.out) | refine below_set ?_ GE260.out) | exact HB.out)⟩⟩
           ·replace c18 := Bool.eq_false_iff.mpr c18
            subst c18
            have H1 : ((date_first.f kj11 t269 false).bind fun bt271 => ((date_Days.f kj11 bt271.1 bt271.2.1 bt271.2.2.1).bind fun bt278 => (if bt271.2.2.2.2.2 = true then (date_Parse.l1 kj11 a0 x16_1 (wrap64 (x20_2 + 1)) false true false t261 t262 t263 t264 t265 t266 t267 false) else (if bt271.2.2.2.2.1.toList = ([] : List UInt8) then (if bt278.2 = 0 then ((date_Weekday.f bt278.1).bind fun t280 => (if t280 = x20_2 then (some (wrap64 ((wrap64 (bt278.1 * 86400)) + bt271.2.2.2.1), 0)) else (date_Parse.l1 kj11 a0 x16_1 (wrap64 (x20_2 + 1)) false true false t261 t262 t263 t264 t265 t266 t267 false))) else (date_Parse.l1 kj11 a0 x16_1 (wrap64 (x20_2 + 1)) false true false t261 t262 t263 t264 t265 t266 t267 false)) else (date_Parse.l1 kj11 a0 x16_1 (wrap64 (x20_2 + 1)) false true false t261 t262 t263 t264 t265 t266 t267 false))))) = some (r1, r2) := by rw [if_neg (show ¬ (false = true) by decide)] at H; exact H
            clear H
            have H := H1
            clear H1
            replace H := Option.bind_eq_some_iff.mp H
            obtain ⟨⟨t271, t272, t273, t274, t275, t276⟩, A220, H⟩ := H
            replace H : ((date_Days.f kj11 t271 t272 t273).bind fun bt278 => (if t276 = true then (date_Parse.l1 kj11 a0 x16_1 (wrap64 (x20_2 + 1)) false true false t261 t262 t263 t264 t265 t266 t267 false) else (if t275.toList = ([] : List UInt8) then (if bt278.2 = 0 then ((date_Weekday.f bt278.1).bind fun t280 => (if t280 = x20_2 then (some (wrap64 ((wrap64 (bt278.1 * 86400)) + t274), 0)) else (date_Parse.l1 kj11 a0 x16_1 (wrap64 (x20_2 + 1)) false true false t261 t262 t263 t264 t265 t266 t267 false))) else (date_Parse.l1 kj11 a0 x16_1 (wrap64 (x20_2 + 1)) false true false t261 t262 t263 t264 t265 t266 t267 false)) else (date_Parse.l1 kj11 a0 x16_1 (wrap64 (x20_2 + 1)) false true false t261 t262 t263 t264 t265 t266 t267 false)))) = some (r1, r2) := H
            have A22 := Aside0.mk A220
            clear A220
            replace H := Option.bind_eq_some_iff.mp H
            obtain ⟨⟨t278, t279⟩, A230, H⟩ := H
            replace H : (if t276 = true then (date_Parse.l1 kj11 a0 x16_1 (wrap64 (x20_2 + 1)) false true false t261 t262 t263 t264 t265 t266 t267 false) else (if t275.toList = ([] : List UInt8) then (if t279 = 0 then ((date_Weekday.f t278).bind fun t280 => (if t280 = x20_2 then (some (wrap64 ((wrap64 (t278 * 86400)) + t274), 0)) else (date_Parse.l1 kj11 a0 x16_1 (wrap64 (x20_2 + 1)) false true false t261 t262 t263 t264 t265 t266 t267 false))) else (date_Parse.l1 kj11 a0 x16_1 (wrap64 (x20_2 + 1)) false true false t261 t262 t263 t264 t265 t266 t267 false)) else (date_Parse.l1 kj11 a0 x16_1 (wrap64 (x20_2 + 1)) false true false t261 t262 t263 t264 t265 t266 t267 false))) = some (r1, r2) := H
            have A23 := Aside0.mk A230
            clear A230
            by_cases c24 : t276 = true
            ·subst c24
             have H1 : (date_Parse.l1 kj11 a0 x16_1 (wrap64 (x20_2 + 1)) false true false t261 t262 t263 t264 t265 t266 t267 false) = some (r1, r2) := by rw [if_pos rfl] at H; exact H
             clear H
             have H := H1
             clear H1
             have H' := Aside0.mk H
             clear H
             go_wp2_with (first | ((with_reducible refine gate_dst (N := 31) rfl ?_); refine box_event ?hg (N := 31) ?hd (cs := #[.string a0, .bool false]) (t := 67) ?hr ?_; (case hd => rfl); (case hg => rfl); (case hr => first | (go_simp; done) | (go_simp; rfl)); intro gb268 hg w25 hbox hb; have n0_ := Aside0.mk (blk_below (g := gb260) (o := .cells #[.bool false, .func (.func 41) #[] #[]] 63 (0, 0)) (by (with_reducible repeat (first | refine blk_drewN ?_ _ | refine blk_drew ?_ | refine blk_alloc ?_ _)); exact BK260.out) hb); have n1_ := Aside0.mk (below_step (by repeat (first | (with_reducible first | exact HB.out | apply below_alloc | apply pw_below_drewN | apply below_drew1 | refine below_set ?_ GE260.out) | exact HB.out)) hb); have n2_ := Aside0.mk ((show IsS67 w w25 gb268 a0 false from ⟨hbox, (by rw [hg]; exact (below_size (by repeat (first | (with_reducible first | exact HB.out | apply below_alloc | apply pw_below_drewN | apply below_drew1 | refine below_set ?_ GE260.out) | exact HB.out))))⟩)); have n3_ := Aside0.mk ((by rw [hg]; exact (below_size (by repeat (first | (with_reducible first | exact HB.out | apply below_alloc | apply pw_below_drewN | apply below_drew1 | refine below_set ?_ GE260.out) | exact HB.out))) : w.heap.size ≤ gb268)); have n4_ := Aside0.mk ((by rw [hg]; exact (below_size (by repeat (first | (with_reducible first | exact HB.out | apply below_alloc | apply pw_below_drewN | apply below_drew1 | refine below_set ?_ GE260.out) | exact HB.out))) : w.heap.size ≤ gb268)); have n5_ := Aside0.mk ((by rw [hg]; exact Nat.ne_of_lt (blk_lt (g := gb260) (o := .cells #[.bool false, .func (.func 41) #[] #[]] 63 (0, 0)) (by (with_reducible repeat (first | refine blk_drewN ?_ _ | refine blk_drew ?_ | refine blk_alloc ?_ _)); exact BK260.out)) : gb260 ≠ gb268)); have n6_ := Aside0.mk ((by rw [hg]; exact Nat.ne_of_gt (blk_lt (g := gb260) (o := .cells #[.bool false, .func (.func 41) #[] #[]] 63 (0, 0)) (by (with_reducible repeat (first | refine blk_drewN ?_ _ | refine blk_drew ?_ | refine blk_alloc ?_ _)); exact BK260.out)) : gb268 ≠ gb260)); clear BK260; clear HB; have BK260 := n0_; have HB := n1_; have HI268 := n2_; have GW268 := n3_; have GE268 := n4_; have NB260_268 := n5_; have NB268_260 := n6_; clear n0_ n1_ n2_ n3_ n4_ n5_ n6_; clear hb hbox hg) | ((with_reducible refine gate_callee (f := 44) rfl ?_); refine goesL_ (some 34) rfl rfl Try.func44 (by kernel_rfl) rfl #[.pointer (some ⟨gb268, 0, none⟩), .string x7_11] rfl (by (try simp only [List.map_toArray, List.map_cons, List.map_nil]); first | done | rfl | (simp only [List.length_drop, List.length_take]; rfl)) ?_; (with_reducible refine (date_scan_word.calls gb268 a0 false x7_11 t269 false w _ ?side1 ?side2 A17.out).mono ?_); (case side1 => repeat (first | (with_reducible first | exact HI268.out | apply IsS67.alloc | apply IsS67.drewN | apply IsS67.drew | apply IsS67.set_0 | apply IsS67.set_1 | (apply IsS67.far; rotate_left; exact NB268_260.out; rotate_right)) | exact HI268.out)); (case side2 => repeat (first | (with_reducible first | exact HB.out | apply below_alloc | apply pw_below_drewN | apply below_drew1 | refine below_set ?_ (IsS67.ge HI268.out) | refine below_set ?_ GE260.out) | exact HB.out)); rintro e w26 ⟨rfl, hi, hb, hk⟩; refine ⟨_, rfl, ?_⟩; have n0_ := Aside0.mk (KeepBut.blk hk (g' := gb260) (o := .cells #[.bool false, .func (.func 41) #[] #[]] 63 (0, 0)) (by (with_reducible repeat (first | refine blk_drewN ?_ _ | refine blk_drew ?_ | refine blk_alloc ?_ _)); exact BK260.out) NB260_268.out (by simp)); have n1_ := Aside0.mk (hb); have n2_ := Aside0.mk (hi); clear BK260; clear HB; clear HI268; have BK260 := n0_; have HB := n1_; have HI268 := n2_; clear n0_ n1_ n2_; (try clear hb); (try clear hb2); (try clear hk); (try clear hi); obtain ⟨HGz27, hgz27⟩ := HI268.out; have hcz27_0 := cellS67_0 HGz27; have hcz27_1 := cellS67_1 HGz27; have hfz27_0 := blk_frozen HGz27 0; have hfz27_1 := blk_frozen HGz27 1; clear HGz27 hgz27; have hnb28 := NB260_268.out; have hnc28 := NB268_260.out; have hcz29_0 : w26.cell? ⟨gb260, 0, none⟩ = some (.bool false) := (blk_cell BK260.out 0).trans rfl; have hcz29_1 : w26.cell? ⟨gb260, 1, none⟩ = some (.func (.func 41) #[] #[]) := (blk_cell BK260.out 1).trans rfl; have hfz29_0 := blk_frozen BK260.out 0; have hfz29_1 := blk_frozen BK260.out 1) | ((with_reducible refine gate_calleeV (x := .tmp 40) rfl ?_); refine goesV_ (.tmp 40) (some 42) rfl rfl Try.func41 (by kernel_rfl) rfl #[.pointer (some ⟨gb268, 0, none⟩)] rfl rfl (by (try simp only [List.map_toArray, List.map_cons, List.map_nil]); first | done | rfl) ?_; (with_reducible refine (date_first.calls kj11 gb268 t269 false t271 t272 t273 t274 t275 true w _ ?side1 ?side2 A22.out).mono ?_); (case side1 => repeat (first | (with_reducible first | exact HI268.out | apply IsS67.alloc | apply IsS67.drewN | apply IsS67.drew | apply IsS67.set_0 | apply IsS67.set_1 | (apply IsS67.far; rotate_left; exact NB268_260.out; rotate_right)) | exact HI268.out)); (case side2 => repeat (first | (with_reducible first | exact HB.out | apply below_alloc | apply pw_below_drewN | apply below_drew1 | refine below_set ?_ (IsS67.ge HI268.out) | refine below_set ?_ GE260.out) | exact HB.out)); rintro e w30 ⟨rfl, hi, hb, hk⟩; refine ⟨_, rfl, ?_⟩; have n0_ := Aside0.mk (KeepBut.blk hk (g' := gb260) (o := .cells #[.bool false, .func (.func 41) #[] #[]] 63 (0, 0)) (by (with_reducible repeat (first | refine blk_drewN ?_ _ | refine blk_drew ?_ | refine blk_alloc ?_ _)); exact BK260.out) NB260_268.out (by simp)); have n1_ := Aside0.mk (hb); have n2_ := Aside0.mk (hi); clear BK260; clear HB; clear HI268; have BK260 := n0_; have HB := n1_; have HI268 := n2_; clear n0_ n1_ n2_; (try clear hb); (try clear hb2); (try clear hk); (try clear hi)) | ((with_reducible refine gate_dst (N := 9) rfl ?_); refine box_event ?hg (N := 9) ?hd (cs := #[.int .i64 0, .int .i64 0, .int .i64 0, .int .i64 0]) (t := 70) ?hr ?_; (case hd => rfl); (case hg => rfl); (case hr => first | (go_simp; done) | (go_simp; rfl)); intro gb277 hg w31 hbox hb; have n0_ := Aside0.mk (blk_below (g := gb260) (o := .cells #[.bool false, .func (.func 41) #[] #[]] 63 (0, 0)) (by (with_reducible repeat (first | refine blk_drewN ?_ _ | refine blk_drew ?_ | refine blk_alloc ?_ _)); exact BK260.out) hb); have n1_ := Aside0.mk (IsS67.below (by repeat (first | (with_reducible first | exact HI268.out | apply IsS67.alloc | apply IsS67.drewN | apply IsS67.drew | apply IsS67.set_0 | apply IsS67.set_1 | (apply IsS67.far; rotate_left; exact NB268_260.out; rotate_right)) | exact HI268.out)) hb); have n2_ := Aside0.mk (below_step (by repeat (first | (with_reducible first | exact HB.out | apply below_alloc | apply pw_below_drewN | apply below_drew1 | refine below_set ?_ (IsS67.ge HI268.out) | refine below_set ?_ GE260.out) | exact HB.out)) hb); have n3_ := Aside0.mk (hbox); have n4_ := Aside0.mk ((by rw [hg]; exact (below_size (by repeat (first | (with_reducible first | exact HB.out | apply below_alloc | apply pw_below_drewN | apply below_drew1 | refine below_set ?_ (IsS67.ge HI268.out) | refine below_set ?_ GE260.out) | exact HB.out))) : w.heap.size ≤ gb277)); have n5_ := Aside0.mk ((by rw [hg]; exact (below_size (by repeat (first | (with_reducible first | exact HB.out | apply below_alloc | apply pw_below_drewN | apply below_drew1 | refine below_set ?_ (IsS67.ge HI268.out) | refine below_set ?_ GE260.out) | exact HB.out))) : w.heap.size ≤ gb277)); have n6_ := Aside0.mk ((by rw [hg]; exact Nat.ne_of_lt (blk_lt (g := gb260) (o := .cells #[.bool false, .func (.func 41) #[] #[]] 63 (0, 0)) (by (with_reducible repeat (first | refine blk_drewN ?_ _ | refine blk_drew ?_ | refine blk_alloc ?_ _)); exact BK260.out)) : gb260 ≠ gb277)); have n7_ := Aside0.mk ((by rw [hg]; exact Nat.ne_of_gt (blk_lt (g := gb260) (o := .cells #[.bool false, .func (.func 41) #[] #[]] 63 (0, 0)) (by (with_reducible repeat (first | refine blk_drewN ?_ _ | refine blk_drew ?_ | refine blk_alloc ?_ _)); exact BK260.out)) : gb277 ≠ gb260)); have n8_ := Aside0.mk ((by rw [hg]; exact Nat.ne_of_lt (IsS67.lt (show IsS67 w _ gb268 t275 true from by repeat (first | (with_reducible first | exact HI268.out | apply IsS67.alloc | apply IsS67.drewN | apply IsS67.drew | apply IsS67.set_0 | apply IsS67.set_1 | (apply IsS67.far; rotate_left; exact NB268_260.out; rotate_right)) | exact HI268.out))) : gb268 ≠ gb277)); have n9_ := Aside0.mk ((by rw [hg]; exact Nat.ne_of_gt (IsS67.lt (show IsS67 w _ gb268 t275 true from by repeat (first | (with_reducible first | exact HI268.out | apply IsS67.alloc | apply IsS67.drewN | apply IsS67.drew | apply IsS67.set_0 | apply IsS67.set_1 | (apply IsS67.far; rotate_left; exact NB268_260.out; rotate_right)) | exact HI268.out))) : gb277 ≠ gb268)); clear BK260; clear HI268; clear HB; have BK260 := n0_; have HI268 := n1_; have HB := n2_; have BK277 := n3_; have GW277 := n4_; have GE277 := n5_; have NB260_277 := n6_; have NB277_260 := n7_; have NB268_277 := n8_; have NB277_268 := n9_; clear n0_ n1_ n2_ n3_ n4_ n5_ n6_ n7_ n8_ n9_; clear hb hbox hg; have hnb32 := NB277_260.out; have hnc32 := NB260_277.out; have hnb33 := NB277_268.out; have hnc33 := NB268_277.out; have hcz34_0 : w31.cell? ⟨gb277, 0, none⟩ = some (.int .i64 0) := (blk_cell BK277.out 0).trans rfl; have hcz34_1 : w31.cell? ⟨gb277, 1, none⟩ = some (.int .i64 0) := (blk_cell BK277.out 1).trans rfl; have hcz34_2 : w31.cell? ⟨gb277, 2, none⟩ = some (.int .i64 0) := (blk_cell BK277.out 2).trans rfl; have hcz34_3 : w31.cell? ⟨gb277, 3, none⟩ = some (.int .i64 0) := (blk_cell BK277.out 3).trans rfl; have hfz34_0 := blk_frozen BK277.out 0; have hfz34_1 := blk_frozen BK277.out 1; have hfz34_2 := blk_frozen BK277.out 2; have hfz34_3 := blk_frozen BK277.out 3) | ((with_reducible refine gate_callee (f := 10) rfl ?_); refine goesL_ (some 50) rfl rfl Try.func10 (by kernel_rfl) rfl #[.int .i64 t271, .int .i64 t272, .int .i64 t273] rfl (by (try simp only [List.map_toArray, List.map_cons, List.map_nil]); first | done | rfl | (simp only [List.length_drop, List.length_take]; rfl)) ?_; (with_reducible refine (date_Days.calls kj11 t271 t272 t273 t278 t279 _ A23.out).mono ?_); rintro e w' ⟨rfl, ⟨nd, rfl⟩⟩; refine ⟨_, rfl, ?_⟩; obtain ⟨HGz35, hgz35⟩ := HI268.out; have hcz35_0 := cellS67_0 HGz35; have hcz35_1 := cellS67_1 HGz35; have hfz35_0 := blk_frozen HGz35 0; have hfz35_1 := blk_frozen HGz35 1; clear HGz35 hgz35))
             go_roundg kj11
             case measure => have := HK1.out; have := HK2.out; have := HJ11.out; omega
             case rel => exact ⟨(wrap64 (x20_2 + 1)), (by first | rfl | (simp; done) | (simp [*]; done)), H', ⟨by have := HK1.out; have := HK2.out; have := HJ11.out; omega⟩, ⟨by (with_reducible repeat (first | refine blk_drewN ?_ _ | refine blk_drew ?_ | refine blk_alloc ?_ _)); refine blk_far ?_ NB260_277.out _; (with_reducible repeat (first | refine blk_drewN ?_ _ | refine blk_drew ?_ | refine blk_alloc ?_ _)); refine blk_far ?_ NB260_277.out _; (with_reducible repeat (first | refine blk_drewN ?_ _ | refine blk_drew ?_ | refine blk_alloc ?_ _)); refine blk_far ?_ NB260_277.out _; (with_reducible repeat (first | refine blk_drewN ?_ _ | refine blk_drew ?_ | refine blk_alloc ?_ _)); refine blk_far ?_ NB260_277.out _; (with_reducible repeat (first | refine blk_drewN ?_ _ | refine blk_drew ?_ | refine blk_alloc ?_ _)); exact BK260.out⟩, ⟨by repeat (first | (with_reducible first | exact HB.out | apply below_alloc | apply pw_below_drewN | apply below_drew1 | refine below_set ?_ (IsS67.ge HI268.out) | refine below_set ?_ GE260.out | refine below_set ?_ GE277.out) | exact HB.out)⟩⟩
            ·replace c24 := Bool.eq_false_iff.mpr c24
             subst c24
             have H1 : (if t275.toList = ([] : List UInt8) then (if t279 = 0 then ((date_Weekday.f t278).bind fun t280 => (if t280 = x20_2 then (some (wrap64 ((wrap64 (t278 * 86400)) + t274), 0)) else (date_Parse.l1 kj11 a0 x16_1 (wrap64 (x20_2 + 1)) false true false t261 t262 t263 t264 t265 t266 t267 false))) else (date_Parse.l1 kj11 a0 x16_1 (wrap64 (x20_2 + 1)) false true false t261 t262 t263 t264 t265 t266 t267 false)) else (date_Parse.l1 kj11 a0 x16_1 (wrap64 (x20_2 + 1)) false true false t261 t262 t263 t264 t265 t266 t267 false)) = some (r1, r2) := by rw [if_neg (show ¬ (false = true) by decide)] at H; exact H
             clear H
             have H := H1
             clear H1
             by_cases c36 : t275.toList = ([] : List UInt8)
             ·rw [if_pos c36] at H
              have c36b0 : (t275.toList == ([] : List UInt8)) = true := beq_iff_eq.mpr c36
              have c36b1 : (t275.toList != ([] : List UInt8)) = false := bne_eq_false_iff_eq.mpr c36
              clear c36
              by_cases c37 : t279 = 0
              ·rw [if_pos c37] at H
               have c37b0 : (t279 == 0) = true := beq_iff_eq.mpr c37
               have c37b1 : (t279 != 0) = false := bne_eq_false_iff_eq.mpr c37
               clear c37
               replace H := Option.bind_eq_some_iff.mp H
               obtain ⟨t280, A380, H⟩ := H
               have A38 := Aside0.mk A380
               clear A380
               by_cases c39 : t280 = x20_2
               ·rw [if_pos c39] at H
                have c39b0 : (t280 == x20_2) = true := beq_iff_eq.mpr c39
                have c39b1 : (t280 != x20_2) = false := bne_eq_false_iff_eq.mpr c39
                clear c39
                simp only [Option.some.injEq, Prod.mk.injEq] at H
                obtain ⟨rfl, rfl⟩ := H
                go_wp2_with (first | ((with_reducible refine gate_dst (N := 31) rfl ?_); refine box_event ?hg (N := 31) ?hd (cs := #[.string a0, .bool false]) (t := 67) ?hr ?_; (case hd => rfl); (case hg => rfl); (case hr => first | (go_simp; done) | (go_simp; rfl)); intro gb268 hg w40 hbox hb; have n0_ := Aside0.mk (blk_below (g := gb260) (o := .cells #[.bool false, .func (.func 41) #[] #[]] 63 (0, 0)) (by (with_reducible repeat (first | refine blk_drewN ?_ _ | refine blk_drew ?_ | refine blk_alloc ?_ _)); exact BK260.out) hb); have n1_ := Aside0.mk (below_step (by repeat (first | (with_reducible first | exact HB.out | apply below_alloc | apply pw_below_drewN | apply below_drew1 | refine below_set ?_ GE260.out) | exact HB.out)) hb); have n2_ := Aside0.mk ((show IsS67 w w40 gb268 a0 false from ⟨hbox, (by rw [hg]; exact (below_size (by repeat (first | (with_reducible first | exact HB.out | apply below_alloc | apply pw_below_drewN | apply below_drew1 | refine below_set ?_ GE260.out) | exact HB.out))))⟩)); have n3_ := Aside0.mk ((by rw [hg]; exact (below_size (by repeat (first | (with_reducible first | exact HB.out | apply below_alloc | apply pw_below_drewN | apply below_drew1 | refine below_set ?_ GE260.out) | exact HB.out))) : w.heap.size ≤ gb268)); have n4_ := Aside0.mk ((by rw [hg]; exact (below_size (by repeat (first | (with_reducible first | exact HB.out | apply below_alloc | apply pw_below_drewN | apply below_drew1 | refine below_set ?_ GE260.out) | exact HB.out))) : w.heap.size ≤ gb268)); have n5_ := Aside0.mk ((by rw [hg]; exact Nat.ne_of_lt (blk_lt (g := gb260) (o := .cells #[.bool false, .func (.func 41) #[] #[]] 63 (0, 0)) (by (with_reducible repeat (first | refine blk_drewN ?_ _ | refine blk_drew ?_ | refine blk_alloc ?_ _)); exact BK260.out)) : gb260 ≠ gb268)); have n6_ := Aside0.mk ((by rw [hg]; exact Nat.ne_of_gt (blk_lt (g := gb260) (o := .cells #[.bool false, .func (.func 41) #[] #[]] 63 (0, 0)) (by (with_reducible repeat (first | refine blk_drewN ?_ _ | refine blk_drew ?_ | refine blk_alloc ?_ _)); exact BK260.out)) : gb268 ≠ gb260)); clear BK260; clear HB; have BK260 := n0_; have HB := n1_; have HI268 := n2_; have GW268 := n3_; have GE268 := n4_; have NB260_268 := n5_; have NB268_260 := n6_; clear n0_ n1_ n2_ n3_ n4_ n5_ n6_; clear hb hbox hg) | ((with_reducible refine gate_callee (f := 44) rfl ?_); refine goesL_ (some 34) rfl rfl Try.func44 (by kernel_rfl) rfl #[.pointer (some ⟨gb268, 0, none⟩), .string x7_11] rfl (by (try simp only [List.map_toArray, List.map_cons, List.map_nil]); first | done | rfl | (simp only [List.length_drop, List.length_take]; rfl)) ?_; (with_reducible refine (date_scan_word.calls gb268 a0 false x7_11 t269 false w _ ?side1 ?side2 A17.out).mono ?_); (case side1 => repeat (first | (with_reducible first | exact HI268.out | apply IsS67.alloc | apply IsS67.drewN | apply IsS67.drew | apply IsS67.set_0 | apply IsS67.set_1 | (apply IsS67.far; rotate_left; exact NB268_260.out; rotate_right)) | exact HI268.out)); (case side2 => repeat (first | (with_reducible first | exact HB.out | apply below_alloc | apply pw_below_drewN | apply below_drew1 | refine below_set ?_ (IsS67.ge HI268.out) | refine below_set ?_ GE260.out) | exact HB.out)); rintro e w41 ⟨rfl, hi, hb, hk⟩; refine ⟨_, rfl, ?_⟩; have n0_ := Aside0.mk (KeepBut.blk hk (g' := gb260) (o := .cells #[.bool false, .func (.func 41) #[] #[]] 63 (0, 0)) (by (with_reducible repeat (first | refine blk_drewN ?_ _ | refine blk_drew ?_ | refine blk_alloc ?_ _)); exact BK260.out) NB260_268.out (by simp)); have n1_ := Aside0.mk (hb); have n2_ := Aside0.mk (hi); clear BK260; clear HB; clear HI268; have BK260 := n0_; have HB := n1_; have HI268 := n2_; clear n0_ n1_ n2_; (try clear hb); (try clear hb2); (try clear hk); (try clear hi); obtain ⟨HGz42, hgz42⟩ := HI268.out; have hcz42_0 := cellS67_0 HGz42; have hcz42_1 := cellS67_1 HGz42; have hfz42_0 := blk_frozen HGz42 0; have hfz42_1 := blk_frozen HGz42 1; clear HGz42 hgz42; have hnb43 := NB260_268.out; have hnc43 := NB268_260.out; have hcz44_0 : w41.cell? ⟨gb260, 0, none⟩ = some (.bool false) := (blk_cell BK260.out 0).trans rfl; have hcz44_1 : w41.cell? ⟨gb260, 1, none⟩ = some (.func (.func 41) #[] #[]) := (blk_cell BK260.out 1).trans rfl; have hfz44_0 := blk_frozen BK260.out 0; have hfz44_1 := blk_frozen BK260.out 1) | ((with_reducible refine gate_calleeV (x := .tmp 40) rfl ?_); refine goesV_ (.tmp 40) (some 42) rfl rfl Try.func41 (by kernel_rfl) rfl #[.pointer (some ⟨gb268, 0, none⟩)] rfl rfl (by (try simp only [List.map_toArray, List.map_cons, List.map_nil]); first | done | rfl) ?_; (with_reducible refine (date_first.calls kj11 gb268 t269 false t271 t272 t273 t274 t275 false w _ ?side1 ?side2 A22.out).mono ?_); (case side1 => repeat (first | (with_reducible first | exact HI268.out | apply IsS67.alloc | apply IsS67.drewN | apply IsS67.drew | apply IsS67.set_0 | apply IsS67.set_1 | (apply IsS67.far; rotate_left; exact NB268_260.out; rotate_right)) | exact HI268.out)); (case side2 => repeat (first | (with_reducible first | exact HB.out | apply below_alloc | apply pw_below_drewN | apply below_drew1 | refine below_set ?_ (IsS67.ge HI268.out) | refine below_set ?_ GE260.out) | exact HB.out)); rintro e w45 ⟨rfl, hi, hb, hk⟩; refine ⟨_, rfl, ?_⟩; have n0_ := Aside0.mk (KeepBut.blk hk (g' := gb260) (o := .cells #[.bool false, .func (.func 41) #[] #[]] 63 (0, 0)) (by (with_reducible repeat (first | refine blk_drewN ?_ _ | refine blk_drew ?_ | refine blk_alloc ?_ _)); exact BK260.out) NB260_268.out (by simp)); have n1_ := Aside0.mk (hb); have n2_ := Aside0.mk (hi); clear BK260; clear HB; clear HI268; have BK260 := n0_; have HB := n1_; have HI268 := n2_; clear n0_ n1_ n2_; (try clear hb); (try clear hb2); (try clear hk); (try clear hi)) | ((with_reducible refine gate_dst (N := 9) rfl ?_); refine box_event ?hg (N := 9) ?hd (cs := #[.int .i64 0, .int .i64 0, .int .i64 0, .int .i64 0]) (t := 70) ?hr ?_; (case hd => rfl); (case hg => rfl); (case hr => first | (go_simp; done) | (go_simp; rfl)); intro gb277 hg w46 hbox hb; have n0_ := Aside0.mk (blk_below (g := gb260) (o := .cells #[.bool false, .func (.func 41) #[] #[]] 63 (0, 0)) (by (with_reducible repeat (first | refine blk_drewN ?_ _ | refine blk_drew ?_ | refine blk_alloc ?_ _)); exact BK260.out) hb); have n1_ := Aside0.mk (IsS67.below (by repeat (first | (with_reducible first | exact HI268.out | apply IsS67.alloc | apply IsS67.drewN | apply IsS67.drew | apply IsS67.set_0 | apply IsS67.set_1 | (apply IsS67.far; rotate_left; exact NB268_260.out; rotate_right)) | exact HI268.out)) hb); have n2_ := Aside0.mk (below_step (by repeat (first | (with_reducible first | exact HB.out | apply below_alloc | apply pw_below_drewN | apply below_drew1 | refine below_set ?_ (IsS67.ge HI268.out) | refine below_set ?_ GE260.out) | exact HB.out)) hb); have n3_ := Aside0.mk (hbox); have n4_ := Aside0.mk ((by rw [hg]; exact (below_size (by repeat (first | (with_reducible first | exact HB.out | apply below_alloc | apply pw_below_drewN | apply below_drew1 | refine below_set ?_ (IsS67.ge HI268.out) | refine below_set ?_ GE260.out) | exact HB.out))) : w.heap.size ≤ gb277)); have n5_ := Aside0.mk ((by rw [hg]; exact (below_size (by repeat (first | (with_reducible first | exact HB.out | apply below_alloc | apply pw_below_drewN | apply below_drew1 | refine below_set ?_ (IsS67.ge HI268.out) | refine below_set ?_ GE260.out) | exact HB.out))) : w.heap.size ≤ gb277)); have n6_ := Aside0.mk ((by rw [hg]; exact Nat.ne_of_lt (blk_lt (g := gb260) (o := .cells #[.bool false, .func (.func 41) #[] #[]] 63 (0, 0)) (by (with_reducible repeat (first | refine blk_drewN ?_ _ | refine blk_drew ?_ | refine blk_alloc ?_ _)); exact BK260.out)) : gb260 ≠ gb277)); have n7_ := Aside0.mk ((by rw [hg]; exact Nat.ne_of_gt (blk_lt (g := gb260) (o := .cells #[.bool false, .func (.func 41) #[] #[]] 63 (0, 0)) (by (with_reducible repeat (first | refine blk_drewN ?_ _ | refine blk_drew ?_ | refine blk_alloc ?_ _)); exact BK260.out)) : gb277 ≠ gb260)); have n8_ := Aside0.mk ((by rw [hg]; exact Nat.ne_of_lt (IsS67.lt (show IsS67 w _ gb268 t275 false from by repeat (first | (with_reducible first | exact HI268.out | apply IsS67.alloc | apply IsS67.drewN | apply IsS67.drew | apply IsS67.set_0 | apply IsS67.set_1 | (apply IsS67.far; rotate_left; exact NB268_260.out; rotate_right)) | exact HI268.out))) : gb268 ≠ gb277)); have n9_ := Aside0.mk ((by rw [hg]; exact Nat.ne_of_gt (IsS67.lt (show IsS67 w _ gb268 t275 false from by repeat (first | (with_reducible first | exact HI268.out | apply IsS67.alloc | apply IsS67.drewN | apply IsS67.drew | apply IsS67.set_0 | apply IsS67.set_1 | (apply IsS67.far; rotate_left; exact NB268_260.out; rotate_right)) | exact HI268.out))) : gb277 ≠ gb268)); clear BK260; clear HI268; clear HB; have BK260 := n0_; have HI268 := n1_; have HB := n2_; have BK277 := n3_; have GW277 := n4_; have GE277 := n5_; have NB260_277 := n6_; have NB277_260 := n7_; have NB268_277 := n8_; have NB277_268 := n9_; clear n0_ n1_ n2_ n3_ n4_ n5_ n6_ n7_ n8_ n9_; clear hb hbox hg; have hnb47 := NB277_260.out; have hnc47 := NB260_277.out; have hnb48 := NB277_268.out; have hnc48 := NB268_277.out; have hcz49_0 : w46.cell? ⟨gb277, 0, none⟩ = some (.int .i64 0) := (blk_cell BK277.out 0).trans rfl; have hcz49_1 : w46.cell? ⟨gb277, 1, none⟩ = some (.int .i64 0) := (blk_cell BK277.out 1).trans rfl; have hcz49_2 : w46.cell? ⟨gb277, 2, none⟩ = some (.int .i64 0) := (blk_cell BK277.out 2).trans rfl; have hcz49_3 : w46.cell? ⟨gb277, 3, none⟩ = some (.int .i64 0) := (blk_cell BK277.out 3).trans rfl; have hfz49_0 := blk_frozen BK277.out 0; have hfz49_1 := blk_frozen BK277.out 1; have hfz49_2 := blk_frozen BK277.out 2; have hfz49_3 := blk_frozen BK277.out 3) | ((with_reducible refine gate_callee (f := 10) rfl ?_); refine goesL_ (some 50) rfl rfl Try.func10 (by kernel_rfl) rfl #[.int .i64 t271, .int .i64 t272, .int .i64 t273] rfl (by (try simp only [List.map_toArray, List.map_cons, List.map_nil]); first | done | rfl | (simp only [List.length_drop, List.length_take]; rfl)) ?_; (with_reducible refine (date_Days.calls kj11 t271 t272 t273 t278 t279 _ A23.out).mono ?_); rintro e w' ⟨rfl, ⟨nd, rfl⟩⟩; refine ⟨_, rfl, ?_⟩; obtain ⟨HGz50, hgz50⟩ := HI268.out; have hcz50_0 := cellS67_0 HGz50; have hcz50_1 := cellS67_1 HGz50; have hfz50_0 := blk_frozen HGz50 0; have hfz50_1 := blk_frozen HGz50 1; clear HGz50 hgz50) | (go_at_call 16; (with_reducible refine (date_Weekday.calls t278 t280 _ A38.out).mono ?_); rintro e w' ⟨rfl, ⟨nd, rfl⟩⟩))
                go_ret2
                exact ⟨by first | rfl | (simp [errW_none, errW_some] <;> rfl) | (simp [*, errW_none, errW_some] <;> rfl), by repeat (first | (with_reducible first | exact HB.out | apply below_alloc | apply pw_below_drewN | apply below_drew1 | refine below_set ?_ (IsS67.ge HI268.out) | refine below_set ?_ GE260.out | refine below_set ?_ GE277.out) | exact HB.out)⟩
               ·rw [if_neg c39] at H
                have c39b0 : (t280 == x20_2) = false := beq_eq_false_iff_ne.mpr c39
                have c39b1 : (t280 != x20_2) = true := bne_iff_ne.mpr c39
                have H' := Aside0.mk H
                clear H
                go_wp2_with (first | ((with_reducible refine gate_dst (N := 31) rfl ?_); refine box_event ?hg (N := 31) ?hd (cs := #[.string a0, .bool false]) (t := 67) ?hr ?_; (case hd => rfl); (case hg => rfl); (case hr => first | (go_simp; done) | (go_simp; rfl)); intro gb268 hg w51 hbox hb; have n0_ := Aside0.mk (blk_below (g := gb260) (o := .cells #[.bool false, .func (.func 41) #[] #[]] 63 (0, 0)) (by (with_reducible repeat (first | refine blk_drewN ?_ _ | refine blk_drew ?_ | refine blk_alloc ?_ _)); exact BK260.out) hb); have n1_ := Aside0.mk (below_step (by repeat (first | (with_reducible first | exact HB.out | apply below_alloc | apply pw_below_drewN | apply below_drew1 | refine below_set ?_ GE260.out) | exact HB.out)) hb); have n2_ := Aside0.mk ((show IsS67 w w51 gb268 a0 false from ⟨hbox, (by rw [hg]; exact (below_size (by repeat (first | (with_reducible first | exact HB.out | apply below_alloc | apply pw_below_drewN | apply below_drew1 | refine below_set ?_ GE260.out) | exact HB.out))))⟩)); have n3_ := Aside0.mk ((by rw [hg]; exact (below_size (by repeat (first | (with_reducible first | exact HB.out | apply below_alloc | apply pw_below_drewN | apply below_drew1 | refine below_set ?_ GE260.out) | exact HB.out))) : w.heap.size ≤ gb268)); have n4_ := Aside0.mk ((by rw [hg]; exact (below_size (by repeat (first | (with_reducible first | exact HB.out | apply below_alloc | apply pw_below_drewN | apply below_drew1 | refine below_set ?_ GE260.out) | exact HB.out))) : w.heap.size ≤ gb268)); have n5_ := Aside0.mk ((by rw [hg]; exact Nat.ne_of_lt (blk_lt (g := gb260) (o := .cells #[.bool false, .func (.func 41) #[] #[]] 63 (0, 0)) (by (with_reducible repeat (first | refine blk_drewN ?_ _ | refine blk_drew ?_ | refine blk_alloc ?_ _)); exact BK260.out)) : gb260 ≠ gb268)); have n6_ := Aside0.mk ((by rw [hg]; exact Nat.ne_of_gt (blk_lt (g := gb260) (o := .cells #[.bool false, .func (.func 41) #[] #[]] 63 (0, 0)) (by (with_reducible repeat (first | refine blk_drewN ?_ _ | refine blk_drew ?_ | refine blk_alloc ?_ _)); exact BK260.out)) : gb268 ≠ gb260)); clear BK260; clear HB; have BK260 := n0_; have HB := n1_; have HI268 := n2_; have GW268 := n3_; have GE268 := n4_; have NB260_268 := n5_; have NB268_260 := n6_; clear n0_ n1_ n2_ n3_ n4_ n5_ n6_; clear hb hbox hg) | ((with_reducible refine gate_callee (f := 44) rfl ?_); refine goesL_ (some 34) rfl rfl Try.func44 (by kernel_rfl) rfl #[.pointer (some ⟨gb268, 0, none⟩), .string x7_11] rfl (by (try simp only [List.map_toArray, List.map_cons, List.map_nil]); first | done | rfl | (simp only [List.length_drop, List.length_take]; rfl)) ?_; (with_reducible refine (date_scan_word.calls gb268 a0 false x7_11 t269 false w _ ?side1 ?side2 A17.out).mono ?_); (case side1 => repeat (first | (with_reducible first | exact HI268.out | apply IsS67.alloc | apply IsS67.drewN | apply IsS67.drew | apply IsS67.set_0 | apply IsS67.set_1 | (apply IsS67.far; rotate_left; exact NB268_260.out; rotate_right)) | exact HI268.out)); (case side2 => repeat (first | (with_reducible first | exact HB.out | apply below_alloc | apply pw_below_drewN | apply below_drew1 | refine below_set ?_ (IsS67.ge HI268.out) | refine below_set ?_ GE260.out) | exact HB.out)); rintro e w52 ⟨rfl, hi, hb, hk⟩; refine ⟨_, rfl, ?_⟩; have n0_ := Aside0.mk (KeepBut.blk hk (g' := gb260) (o := .cells #[.bool false, .func (.func 41) #[] #[]] 63 (0, 0)) (by (with_reducible repeat (first | refine blk_drewN ?_ _ | refine blk_drew ?_ | refine blk_alloc ?_ _)); exact BK260.out) NB260_268.out (by simp)); have n1_ := Aside0.mk (hb); have n2_ := Aside0.mk (hi); clear BK260; clear HB; clear HI268; have BK260 := n0_; have HB := n1_; have HI268 := n2_; clear n0_ n1_ n2_; (try clear hb); (try clear hb2); (try clear hk); (try clear hi); obtain ⟨HGz53, hgz53⟩ := HI268.out; have hcz53_0 := cellS67_0 HGz53; have hcz53_1 := cellS67_1 HGz53; have hfz53_0 := blk_frozen HGz53 0; have hfz53_1 := blk_frozen HGz53 1; clear HGz53 hgz53; have hnb54 := NB260_268.out; have hnc54 := NB268_260.out; have hcz55_0 : w52.cell? ⟨gb260, 0, none⟩ = some (.bool false) := (blk_cell BK260.out 0).trans rfl; have hcz55_1 : w52.cell? ⟨gb260, 1, none⟩ = some (.func (.func 41) #[] #[]) := (blk_cell BK260.out 1).trans rfl; have hfz55_0 := blk_frozen BK260.out 0; have hfz55_1 := blk_frozen BK260.out 1) | ((with_reducible refine gate_calleeV (x := .tmp 40) rfl ?_); refine goesV_ (.tmp 40) (some 42) rfl rfl Try.func41 (by kernel_rfl) rfl #[.pointer (some ⟨gb268, 0, none⟩)] rfl rfl (by (try simp only [List.map_toArray, List.map_cons, List.map_nil]); first | done | rfl) ?_; (with_reducible refine (date_first.calls kj11 gb268 t269 false t271 t272 t273 t274 t275 false w _ ?side1 ?side2 A22.out).mono ?_); (case side1 => repeat (first | (with_reducible first | exact HI268.out | apply IsS67.alloc | apply IsS67.drewN | apply IsS67.drew | apply IsS67.set_0 | apply IsS67.set_1 | (apply IsS67.far; rotate_left; exact NB268_260.out; rotate_right)) | exact HI268.out)); (case side2 => repeat (first | (with_reducible first | exact HB.out | apply below_alloc | apply pw_below_drewN | apply below_drew1 | refine below_set ?_ (IsS67.ge HI268.out) | refine below_set ?_ GE260.out) | exact HB.out)); rintro e w56 ⟨rfl, hi, hb, hk⟩; refine ⟨_, rfl, ?_⟩; have n0_ := Aside0.mk (KeepBut.blk hk (g' := gb260) (o := .cells #[.bool false, .func (.func 41) #[] #[]] 63 (0, 0)) (by (with_reducible repeat (first | refine blk_drewN ?_ _ | refine blk_drew ?_ | refine blk_alloc ?_ _)); exact BK260.out) NB260_268.out (by simp)); have n1_ := Aside0.mk (hb); have n2_ := Aside0.mk (hi); clear BK260; clear HB; clear HI268; have BK260 := n0_; have HB := n1_; have HI268 := n2_; clear n0_ n1_ n2_; (try clear hb); (try clear hb2); (try clear hk); (try clear hi)) | ((with_reducible refine gate_dst (N := 9) rfl ?_); refine box_event ?hg (N := 9) ?hd (cs := #[.int .i64 0, .int .i64 0, .int .i64 0, .int .i64 0]) (t := 70) ?hr ?_; (case hd => rfl); (case hg => rfl); (case hr => first | (go_simp; done) | (go_simp; rfl)); intro gb277 hg w57 hbox hb; have n0_ := Aside0.mk (blk_below (g := gb260) (o := .cells #[.bool false, .func (.func 41) #[] #[]] 63 (0, 0)) (by (with_reducible repeat (first | refine blk_drewN ?_ _ | refine blk_drew ?_ | refine blk_alloc ?_ _)); exact BK260.out) hb); have n1_ := Aside0.mk (IsS67.below (by repeat (first | (with_reducible first | exact HI268.out | apply IsS67.alloc | apply IsS67.drewN | apply IsS67.drew | apply IsS67.set_0 | apply IsS67.set_1 | (apply IsS67.far; rotate_left; exact NB268_260.out; rotate_right)) | exact HI268.out)) hb); have n2_ := Aside0.mk (below_step (by repeat (first | (with_reducible first | exact HB.out | apply below_alloc | apply pw_below_drewN | apply below_drew1 | refine below_set ?_ (IsS67.ge HI268.out) | refine below_set ?_ GE260.out) | exact HB.out)) hb); have n3_ := Aside0.mk (hbox); have n4_ := Aside0.mk ((by rw [hg]; exact (below_size (by repeat (first | (with_reducible first | exact HB.out | apply below_alloc | apply pw_below_drewN | apply below_drew1 | refine below_set ?_ (IsS67.ge HI268.out) | refine below_set ?_ GE260.out) | exact HB.out))) : w.heap.size ≤ gb277)); have n5_ := Aside0.mk ((by rw [hg]; exact (below_size (by repeat (first | (with_reducible first | exact HB.out | apply below_alloc | apply pw_below_drewN | apply below_drew1 | refine below_set ?_ (IsS67.ge HI268.out) | refine below_set ?_ GE260.out) | exact HB.out))) : w.heap.size ≤ gb277)); have n6_ := Aside0.mk ((by rw [hg]; exact Nat.ne_of_lt (blk_lt (g := gb260) (o := .cells #[.bool false, .func (.func 41) #[] #[]] 63 (0, 0)) (by (with_reducible repeat (first | refine blk_drewN ?_ _ | refine blk_drew ?_ | refine blk_alloc ?_ _)); exact BK260.out)) : gb260 ≠ gb277)); have n7_ := Aside0.mk ((by rw [hg]; exact Nat.ne_of_gt (blk_lt (g := gb260) (o := .cells #[.bool false, .func (.func 41) #[] #[]] 63 (0, 0)) (by (with_reducible repeat (first | refine blk_drewN ?_ _ | refine blk_drew ?_ | refine blk_alloc ?_ _)); exact BK260.out)) : gb277 ≠ gb260)); have n8_ := Aside0.mk ((by rw [hg]; exact Nat.ne_of_lt (IsS67.lt (show IsS67 w _ gb268 t275 false from by repeat (first | (with_reducible first | exact HI268.out | apply IsS67.alloc | apply IsS67.drewN | apply IsS67.drew | apply IsS67.set_0 | apply IsS67.set_1 | (apply IsS67.far; rotate_left; exact NB268_260.out; rotate_right)) | exact HI268.out))) : gb268 ≠ gb277)); have n9_ := Aside0.mk ((by rw [hg]; exact Nat.ne_of_gt (IsS67.lt (show IsS67 w _ gb268 t275 false from by repeat (first | (with_reducible first | exact HI268.out | apply IsS67.alloc | apply IsS67.drewN | apply IsS67.drew | apply IsS67.set_0 | apply IsS67.set_1 | (apply IsS67.far; rotate_left; exact NB268_260.out; rotate_right)) | exact HI268.out))) : gb277 ≠ gb268)); clear BK260; clear HI268; clear HB; have BK260 := n0_; have HI268 := n1_; have HB := n2_; have BK277 := n3_; have GW277 := n4_; have GE277 := n5_; have NB260_277 := n6_; have NB277_260 := n7_; have NB268_277 := n8_; have NB277_268 := n9_; clear n0_ n1_ n2_ n3_ n4_ n5_ n6_ n7_ n8_ n9_; clear hb hbox hg; have hnb58 := NB277_260.out; have hnc58 := NB260_277.out; have hnb59 := NB277_268.out; have hnc59 := NB268_277.out; have hcz60_0 : w57.cell? ⟨gb277, 0, none⟩ = some (.int .i64 0) := (blk_cell BK277.out 0).trans rfl; have hcz60_1 : w57.cell? ⟨gb277, 1, none⟩ = some (.int .i64 0) := (blk_cell BK277.out 1).trans rfl; have hcz60_2 : w57.cell? ⟨gb277, 2, none⟩ = some (.int .i64 0) := (blk_cell BK277.out 2).trans rfl; have hcz60_3 : w57.cell? ⟨gb277, 3, none⟩ = some (.int .i64 0) := (blk_cell BK277.out 3).trans rfl; have hfz60_0 := blk_frozen BK277.out 0; have hfz60_1 := blk_frozen BK277.out 1; have hfz60_2 := blk_frozen BK277.out 2; have hfz60_3 := blk_frozen BK277.out 3) | ((with_reducible refine gate_callee (f := 10) rfl ?_); refine goesL_ (some 50) rfl rfl Try.func10 (by kernel_rfl) rfl #[.int .i64 t271, .int .i64 t272, .int .i64 t273] rfl (by (try simp only [List.map_toArray, List.map_cons, List.map_nil]); first | done | rfl | (simp only [List.length_drop, List.length_take]; rfl)) ?_; (with_reducible refine (date_Days.calls kj11 t271 t272 t273 t278 t279 _ A23.out).mono ?_); rintro e w' ⟨rfl, ⟨nd, rfl⟩⟩; refine ⟨_, rfl, ?_⟩; obtain ⟨HGz61, hgz61⟩ := HI268.out; have hcz61_0 := cellS67_0 HGz61; have hcz61_1 := cellS67_1 HGz61; have hfz61_0 := blk_frozen HGz61 0; have hfz61_1 := blk_frozen HGz61 1; clear HGz61 hgz61) | (go_at_call 16; (with_reducible refine (date_Weekday.calls t278 t280 _ A38.out).mono ?_); rintro e w' ⟨rfl, ⟨nd, rfl⟩⟩))
                go_roundg kj11
                case measure => have := HK1.out; have := HK2.out; have := HJ11.out; omega
                case rel => exact ⟨(wrap64 (x20_2 + 1)), (by first | rfl | (simp; done) | (simp [*]; done)), H', ⟨by have := HK1.out; have := HK2.out; have := HJ11.out; omega⟩, ⟨by (with_reducible repeat (first | refine blk_drewN ?_ _ | refine blk_drew ?_ | refine blk_alloc ?_ _)); refine blk_far ?_ NB260_277.out _; (with_reducible repeat (first | refine blk_drewN ?_ _ | refine blk_drew ?_ | refine blk_alloc ?_ _)); refine blk_far ?_ NB260_277.out _; (with_reducible repeat (first | refine blk_drewN ?_ _ | refine blk_drew ?_ | refine blk_alloc ?_ _)); refine blk_far ?_ NB260_277.out _; (with_reducible repeat (first | refine blk_drewN ?_ _ | refine blk_drew ?_ | refine blk_alloc ?_ _)); refine blk_far ?_ NB260_277.out _; (with_reducible repeat (first | refine blk_drewN ?_ _ | refine blk_drew ?_ | refine blk_alloc ?_ _)); exact BK260.out⟩, ⟨by repeat (first | (with_reducible first | exact HB.out | apply below_alloc | apply pw_below_drewN | apply below_drew1 | refine below_set ?_ (IsS67.ge HI268.out) | refine below_set ?_ GE260.out | refine below_set ?_ GE277.out) | exact HB.out)⟩⟩
              ·rw [if_neg c37] at H
               have c37b0 : (t279 == 0) = false := beq_eq_false_iff_ne.mpr c37
               have c37b1 : (t279 != 0) = true := bne_iff_ne.mpr c37
               have H' := Aside0.mk H
               clear H
               go_wp2_with (first | ((with_reducible refine gate_dst (N := 31) rfl ?_); refine box_event ?hg (N := 31) ?hd (cs := #[.string a0, .bool false]) (t := 67) ?hr ?_; (case hd => rfl); (case hg => rfl); (case hr => first | (go_simp; done) | (go_simp; rfl)); intro gb268 hg w62 hbox hb; have n0_ := Aside0.mk (blk_below (g := gb260) (o := .cells #[.bool false, .func (.func 41) #[] #[]] 63 (0, 0)) (by (with_reducible repeat (first | refine blk_drewN ?_ _ | refine blk_drew ?_ | refine blk_alloc ?_ _)); exact BK260.out) hb); have n1_ := Aside0.mk (below_step (by repeat (first | (with_reducible first | exact HB.out | apply below_alloc | apply pw_below_drewN | apply below_drew1 | refine below_set ?_ GE260.out) | exact HB.out)) hb); have n2_ := Aside0.mk ((show IsS67 w w62 gb268 a0 false from ⟨hbox, (by rw [hg]; exact (below_size (by repeat (first | (with_reducible first | exact HB.out | apply below_alloc | apply pw_below_drewN | apply below_drew1 | refine below_set ?_ GE260.out) | exact HB.out))))⟩)); have n3_ := Aside0.mk ((by rw [hg]; exact (below_size (by repeat (first | (with_reducible first | exact HB.out | apply below_alloc | apply pw_below_drewN | apply below_drew1 | refine below_set ?_ GE260.out) | exact HB.out))) : w.heap.size ≤ gb268)); have n4_ := Aside0.mk ((by rw [hg]; exact (below_size (by repeat (first | (with_reducible first | exact HB.out | apply below_alloc | apply pw_below_drewN | apply below_drew1 | refine below_set ?_ GE260.out) | exact HB.out))) : w.heap.size ≤ gb268)); have n5_ := Aside0.mk ((by rw [hg]; exact Nat.ne_of_lt (blk_lt (g := gb260) (o := .cells #[.bool false, .func (.func 41) #[] #[]] 63 (0, 0)) (by (with_reducible repeat (first | refine blk_drewN ?_ _ | refine blk_drew ?_ | refine blk_alloc ?_ _)); exact BK260.out)) : gb260 ≠ gb268)); have n6_ := Aside0.mk ((by rw [hg]; exact Nat.ne_of_gt (blk_lt (g := gb260) (o := .cells #[.bool false, .func (.func 41) #[] #[]] 63 (0, 0)) (by (with_reducible repeat (first | refine blk_drewN ?_ _ | refine blk_drew ?_ | refine blk_alloc ?_ _)); exact BK260.out)) : gb268 ≠ gb260)); clear BK260; clear HB; have BK260 := n0_; have HB := n1_; have HI268 := n2_; have GW268 := n3_; have GE268 := n4_; have NB260_268 := n5_; have NB268_260 := n6_; clear n0_ n1_ n2_ n3_ n4_ n5_ n6_; clear hb hbox hg) | ((with_reducible refine gate_callee (f := 44) rfl ?_); refine goesL_ (some 34) rfl rfl Try.func44 (by kernel_rfl) rfl #[.pointer (some ⟨gb268, 0, none⟩), .string x7_11] rfl (by (try simp only [List.map_toArray, List.map_cons, List.map_nil]); first | done | rfl | (simp only [List.length_drop, List.length_take]; rfl)) ?_; (with_reducible refine (date_scan_word.calls gb268 a0 false x7_11 t269 false w _ ?side1 ?side2 A17.out).mono ?_); (case side1 => repeat (first | (with_reducible first | exact HI268.out | apply IsS67.alloc | apply IsS67.drewN | apply IsS67.drew | apply IsS67.set_0 | apply IsS67.set_1 | (apply IsS67.far; rotate_left; exact NB268_260.out; rotate_right)) | exact HI268.out)); (case side2 => repeat (first | (with_reducible first | exact HB.out | apply below_alloc | apply pw_below_drewN | apply below_drew1 | refine below_set ?_ (IsS67.ge HI268.out) | refine below_set ?_ GE260.out) | exact HB.out)); rintro e w63 ⟨rfl, hi, hb, hk⟩; refine ⟨_, rfl, ?_⟩; have n0_ := Aside0.mk (KeepBut.blk hk (g' := gb260) (o := .cells #[.bool false, .func (.func 41) #[] #[]] 63 (0, 0)) (by (with_reducible repeat (first | refine blk_drewN ?_ _ | refine blk_drew ?_ | refine blk_alloc ?_ _)); exact BK260.out) NB260_268.out (by simp)); have n1_ := Aside0.mk (hb); have n2_ := Aside0.mk (hi); clear BK260; clear HB; clear HI268; have BK260 := n0_; have HB := n1_; have HI268 := n2_; clear n0_ n1_ n2_; (try clear hb); (try clear hb2); (try clear hk); (try clear hi); obtain ⟨HGz64, hgz64⟩ := HI268.out; have hcz64_0 := cellS67_0 HGz64; have hcz64_1 := cellS67_1 HGz64; have hfz64_0 := blk_frozen HGz64 0; have hfz64_1 := blk_frozen HGz64 1; clear HGz64 hgz64; have hnb65 := NB260_268.out; have hnc65 := NB268_260.out; have hcz66_0 : w63.cell? ⟨gb260, 0, none⟩ = some (.bool false) := (blk_cell BK260.out 0).trans rfl; have hcz66_1 : w63.cell? ⟨gb260, 1, none⟩ = some (.func (.func 41) #[] #[]) := (blk_cell BK260.out 1).trans rfl; have hfz66_0 := blk_frozen BK260.out 0; have hfz66_1 := blk_frozen BK260.out 1) | ((with_reducible refine gate_calleeV (x := .tmp 40) rfl ?_); refine goesV_ (.tmp 40) (some 42) rfl rfl Try.func41 (by kernel_rfl) rfl #[.pointer (some ⟨gb268, 0, none⟩)] rfl rfl (by (try simp only [List.map_toArray, List.map_cons, List.map_nil]); first | done | rfl) ?_; (with_reducible refine (date_first.calls kj11 gb268 t269 false t271 t272 t273 t274 t275 false w _ ?side1 ?side2 A22.out).mono ?_); (case side1 => repeat (first | (with_reducible first | exact HI268.out | apply IsS67.alloc | apply IsS67.drewN | apply IsS67.drew | apply IsS67.set_0 | apply IsS67.set_1 | (apply IsS67.far; rotate_left; exact NB268_260.out; rotate_right)) | exact HI268.out)); (case side2 => repeat (first | (with_reducible first | exact HB.out | apply below_alloc | apply pw_below_drewN | apply below_drew1 | refine below_set ?_ (IsS67.ge HI268.out) | refine below_set ?_ GE260.out) | exact HB.out)); rintro e w67 ⟨rfl, hi, hb, hk⟩; refine ⟨_, rfl, ?_⟩; have n0_ := Aside0.mk (KeepBut.blk hk (g' := gb260) (o := .cells #[.bool false, .func (.func 41) #[] #[]] 63 (0, 0)) (by (with_reducible repeat (first | refine blk_drewN ?_ _ | refine blk_drew ?_ | refine blk_alloc ?_ _)); exact BK260.out) NB260_268.out (by simp)); have n1_ := Aside0.mk (hb); have n2_ := Aside0.mk (hi); clear BK260; clear HB; clear HI268; have BK260 := n0_; have HB := n1_; have HI268 := n2_; clear n0_ n1_ n2_; (try clear hb); (try clear hb2); (try clear hk); (try clear hi)) | ((with_reducible refine gate_dst (N := 9) rfl ?_); refine box_event ?hg (N := 9) ?hd (cs := #[.int .i64 0, .int .i64 0, .int .i64 0, .int .i64 0]) (t := 70) ?hr ?_; (case hd => rfl); (case hg => rfl); (case hr => first | (go_simp; done) | (go_simp; rfl)); intro gb277 hg w68 hbox hb; have n0_ := Aside0.mk (blk_below (g := gb260) (o := .cells #[.bool false, .func (.func 41) #[] #[]] 63 (0, 0)) (by (with_reducible repeat (first | refine blk_drewN ?_ _ | refine blk_drew ?_ | refine blk_alloc ?_ _)); exact BK260.out) hb); have n1_ := Aside0.mk (IsS67.below (by repeat (first | (with_reducible first | exact HI268.out | apply IsS67.alloc | apply IsS67.drewN | apply IsS67.drew | apply IsS67.set_0 | apply IsS67.set_1 | (apply IsS67.far; rotate_left; exact NB268_260.out; rotate_right)) | exact HI268.out)) hb); have n2_ := Aside0.mk (below_step (by repeat (first | (with_reducible first | exact HB.out | apply below_alloc | apply pw_below_drewN | apply below_drew1 | refine below_set ?_ (IsS67.ge HI268.out) | refine below_set ?_ GE260.out) | exact HB.out)) hb); have n3_ := Aside0.mk (hbox); have n4_ := Aside0.mk ((by rw [hg]; exact (below_size (by repeat (first | (with_reducible first | exact HB.out | apply below_alloc | apply pw_below_drewN | apply below_drew1 | refine below_set ?_ (IsS67.ge HI268.out) | refine below_set ?_ GE260.out) | exact HB.out))) : w.heap.size ≤ gb277)); have n5_ := Aside0.mk ((by rw [hg]; exact (below_size (by repeat (first | (with_reducible first | exact HB.out | apply below_alloc | apply pw_below_drewN | apply below_drew1 | refine below_set ?_ (IsS67.ge HI268.out) | refine below_set ?_ GE260.out) | exact HB.out))) : w.heap.size ≤ gb277)); have n6_ := Aside0.mk ((by rw [hg]; exact Nat.ne_of_lt (blk_lt (g := gb260) (o := .cells #[.bool false, .func (.func 41) #[] #[]] 63 (0, 0)) (by (with_reducible repeat (first | refine blk_drewN ?_ _ | refine blk_drew ?_ | refine blk_alloc ?_ _)); exact BK260.out)) : gb260 ≠ gb277)); have n7_ := Aside0.mk ((by rw [hg]; exact Nat.ne_of_gt (blk_lt (g := gb260) (o := .cells #[.bool false, .func (.func 41) #[] #[]] 63 (0, 0)) (by (with_reducible repeat (first | refine blk_drewN ?_ _ | refine blk_drew ?_ | refine blk_alloc ?_ _)); exact BK260.out)) : gb277 ≠ gb260)); have n8_ := Aside0.mk ((by rw [hg]; exact Nat.ne_of_lt (IsS67.lt (show IsS67 w _ gb268 t275 false from by repeat (first | (with_reducible first | exact HI268.out | apply IsS67.alloc | apply IsS67.drewN | apply IsS67.drew | apply IsS67.set_0 | apply IsS67.set_1 | (apply IsS67.far; rotate_left; exact NB268_260.out; rotate_right)) | exact HI268.out))) : gb268 ≠ gb277)); have n9_ := Aside0.mk ((by rw [hg]; exact Nat.ne_of_gt (IsS67.lt (show IsS67 w _ gb268 t275 false from by repeat (first | (with_reducible first | exact HI268.out | apply IsS67.alloc | apply IsS67.drewN | apply IsS67.drew | apply IsS67.set_0 | apply IsS67.set_1 | (apply IsS67.far; rotate_left; exact NB268_260.out; rotate_right)) | exact HI268.out))) : gb277 ≠ gb268)); clear BK260; clear HI268; clear HB; have BK260 := n0_; have HI268 := n1_; have HB := n2_; have BK277 := n3_; have GW277 := n4_; have GE277 := n5_; have NB260_277 := n6_; have NB277_260 := n7_; have NB268_277 := n8_; have NB277_268 := n9_; clear n0_ n1_ n2_ n3_ n4_ n5_ n6_ n7_ n8_ n9_; clear hb hbox hg; have hnb69 := NB277_260.out; have hnc69 := NB260_277.out; have hnb70 := NB277_268.out; have hnc70 := NB268_277.out; have hcz71_0 : w68.cell? ⟨gb277, 0, none⟩ = some (.int .i64 0) := (blk_cell BK277.out 0).trans rfl; have hcz71_1 : w68.cell? ⟨gb277, 1, none⟩ = some (.int .i64 0) := (blk_cell BK277.out 1).trans rfl; have hcz71_2 : w68.cell? ⟨gb277, 2, none⟩ = some (.int .i64 0) := (blk_cell BK277.out 2).trans rfl; have hcz71_3 : w68.cell? ⟨gb277, 3, none⟩ = some (.int .i64 0) := (blk_cell BK277.out 3).trans rfl; have hfz71_0 := blk_frozen BK277.out 0; have hfz71_1 := blk_frozen BK277.out 1; have hfz71_2 := blk_frozen BK277.out 2; have hfz71_3 := blk_frozen BK277.out 3) | ((with_reducible refine gate_callee (f := 10) rfl ?_); refine goesL_ (some 50) rfl rfl Try.func10 (by kernel_rfl) rfl #[.int .i64 t271, .int .i64 t272, .int .i64 t273] rfl (by (try simp only [List.map_toArray, List.map_cons, List.map_nil]); first | done | rfl | (simp only [List.length_drop, List.length_take]; rfl)) ?_; (with_reducible refine (date_Days.calls kj11 t271 t272 t273 t278 t279 _ A23.out).mono ?_); rintro e w' ⟨rfl, ⟨nd, rfl⟩⟩; refine ⟨_, rfl, ?_⟩; obtain ⟨HGz72, hgz72⟩ := HI268.out; have hcz72_0 := cellS67_0 HGz72; have hcz72_1 := cellS67_1 HGz72; have hfz72_0 := blk_frozen HGz72 0; have hfz72_1 := blk_frozen HGz72 1; clear HGz72 hgz72))
               go_roundg kj11
               case measure => have := HK1.out; have := HK2.out; have := HJ11.out; omega
               case rel => exact ⟨(wrap64 (x20_2 + 1)), (by first | rfl | (simp; done) | (simp [*]; done)), H', ⟨by have := HK1.out; have := HK2.out; have := HJ11.out; omega⟩, ⟨by (with_reducible repeat (first | refine blk_drewN ?_ _ | refine blk_drew ?_ | refine blk_alloc ?_ _)); refine blk_far ?_ NB260_277.out _; (with_reducible repeat (first | refine blk_drewN ?_ _ | refine blk_drew ?_ | refine blk_alloc ?_ _)); refine blk_far ?_ NB260_277.out _; (with_reducible repeat (first | refine blk_drewN ?_ _ | refine blk_drew ?_ | refine blk_alloc ?_ _)); refine blk_far ?_ NB260_277.out _; (with_reducible repeat (first | refine blk_drewN ?_ _ | refine blk_drew ?_ | refine blk_alloc ?_ _)); refine blk_far ?_ NB260_277.out _; (with_reducible repeat (first | refine blk_drewN ?_ _ | refine blk_drew ?_ | refine blk_alloc ?_ _)); exact BK260.out⟩, ⟨by repeat (first | (with_reducible first | exact HB.out | apply below_alloc | apply pw_below_drewN | apply below_drew1 | refine below_set ?_ (IsS67.ge HI268.out) | refine below_set ?_ GE260.out | refine below_set ?_ GE277.out) | exact HB.out)⟩⟩
             ·rw [if_neg c36] at H
              have c36b0 : (t275.toList == ([] : List UInt8)) = false := beq_eq_false_iff_ne.mpr c36
              have c36b1 : (t275.toList != ([] : List UInt8)) = true := bne_iff_ne.mpr c36
              have H' := Aside0.mk H
              clear H
              go_wp2_with (first | ((with_reducible refine gate_dst (N := 31) rfl ?_); refine box_event ?hg (N := 31) ?hd (cs := #[.string a0, .bool false]) (t := 67) ?hr ?_; (case hd => rfl); (case hg => rfl); (case hr => first | (go_simp; done) | (go_simp; rfl)); intro gb268 hg w73 hbox hb; have n0_ := Aside0.mk (blk_below (g := gb260) (o := .cells #[.bool false, .func (.func 41) #[] #[]] 63 (0, 0)) (by (with_reducible repeat (first | refine blk_drewN ?_ _ | refine blk_drew ?_ | refine blk_alloc ?_ _)); exact BK260.out) hb); have n1_ := Aside0.mk (below_step (by repeat (first | (with_reducible first | exact HB.out | apply below_alloc | apply pw_below_drewN | apply below_drew1 | refine below_set ?_ GE260.out) | exact HB.out)) hb); have n2_ := Aside0.mk ((show IsS67 w w73 gb268 a0 false from ⟨hbox, (by rw [hg]; exact (below_size (by repeat (first | (with_reducible first | exact HB.out | apply below_alloc | apply pw_below_drewN | apply below_drew1 | refine below_set ?_ GE260.out) | exact HB.out))))⟩)); have n3_ := Aside0.mk ((by rw [hg]; exact (below_size (by repeat (first | (with_reducible first | exact HB.out | apply below_alloc | apply pw_below_drewN | apply below_drew1 | refine below_set ?_ GE260.out) | exact HB.out))) : w.heap.size ≤ gb268)); have n4_ := Aside0.mk ((by rw [hg]; exact (below_size (by repeat (first | (with_reducible first | exact HB.out | apply below_alloc | apply pw_below_drewN | apply below_drew1 | refine below_set ?_ GE260.out) | exact HB.out))) : w.heap.size ≤ gb268)); have n5_ := Aside0.mk ((by rw [hg]; exact Nat.ne_of_lt (blk_lt (g := gb260) (o := .cells #[.bool false, .func (.func 41) #[] #[]] 63 (0, 0)) (by (with_reducible repeat (first | refine blk_drewN ?_ _ | refine blk_drew ?_ | refine blk_alloc ?_ _)); exact BK260.out)) : gb260 ≠ gb268)); have n6_ := Aside0.mk ((by rw [hg]; exact Nat.ne_of_gt (blk_lt (g := gb260) (o := .cells #[.bool false, .func (.func 41) #[] #[]] 63 (0, 0)) (by (with_reducible repeat (first | refine blk_drewN ?_ _ | refine blk_drew ?_ | refine blk_alloc ?_ _)); exact BK260.out)) : gb268 ≠ gb260)); clear BK260; clear HB; have BK260 := n0_; have HB := n1_; have HI268 := n2_; have GW268 := n3_; have GE268 := n4_; have NB260_268 := n5_; have NB268_260 := n6_; clear n0_ n1_ n2_ n3_ n4_ n5_ n6_; clear hb hbox hg) | ((with_reducible refine gate_callee (f := 44) rfl ?_); refine goesL_ (some 34) rfl rfl Try.func44 (by kernel_rfl) rfl #[.pointer (some ⟨gb268, 0, none⟩), .string x7_11] rfl (by (try simp only [List.map_toArray, List.map_cons, List.map_nil]); first | done | rfl | (simp only [List.length_drop, List.length_take]; rfl)) ?_; (with_reducible refine (date_scan_word.calls gb268 a0 false x7_11 t269 false w _ ?side1 ?side2 A17.out).mono ?_); (case side1 => repeat (first | (with_reducible first | exact HI268.out | apply IsS67.alloc | apply IsS67.drewN | apply IsS67.drew | apply IsS67.set_0 | apply IsS67.set_1 | (apply IsS67.far; rotate_left; exact NB268_260.out; rotate_right)) | exact HI268.out)); (case side2 => repeat (first | (with_reducible first | exact HB.out | apply below_alloc | apply pw_below_drewN | apply below_drew1 | refine below_set ?_ (IsS67.ge HI268.out) | refine below_set ?_ GE260.out) | exact HB.out)); rintro e w74 ⟨rfl, hi, hb, hk⟩; refine ⟨_, rfl, ?_⟩; have n0_ := Aside0.mk (KeepBut.blk hk (g' := gb260) (o := .cells #[.bool false, .func (.func 41) #[] #[]] 63 (0, 0)) (by (with_reducible repeat (first | refine blk_drewN ?_ _ | refine blk_drew ?_ | refine blk_alloc ?_ _)); exact BK260.out) NB260_268.out (by simp)); have n1_ := Aside0.mk (hb); have n2_ := Aside0.mk (hi); clear BK260; clear HB; clear HI268; have BK260 := n0_; have HB := n1_; have HI268 := n2_; clear n0_ n1_ n2_; (try clear hb); (try clear hb2); (try clear hk); (try clear hi); obtain ⟨HGz75, hgz75⟩ := HI268.out; have hcz75_0 := cellS67_0 HGz75; have hcz75_1 := cellS67_1 HGz75; have hfz75_0 := blk_frozen HGz75 0; have hfz75_1 := blk_frozen HGz75 1; clear HGz75 hgz75; have hnb76 := NB260_268.out; have hnc76 := NB268_260.out; have hcz77_0 : w74.cell? ⟨gb260, 0, none⟩ = some (.bool false) := (blk_cell BK260.out 0).trans rfl; have hcz77_1 : w74.cell? ⟨gb260, 1, none⟩ = some (.func (.func 41) #[] #[]) := (blk_cell BK260.out 1).trans rfl; have hfz77_0 := blk_frozen BK260.out 0; have hfz77_1 := blk_frozen BK260.out 1) | ((with_reducible refine gate_calleeV (x := .tmp 40) rfl ?_); refine goesV_ (.tmp 40) (some 42) rfl rfl Try.func41 (by kernel_rfl) rfl #[.pointer (some ⟨gb268, 0, none⟩)] rfl rfl (by (try simp only [List.map_toArray, List.map_cons, List.map_nil]); first | done | rfl) ?_; (with_reducible refine (date_first.calls kj11 gb268 t269 false t271 t272 t273 t274 t275 false w _ ?side1 ?side2 A22.out).mono ?_); (case side1 => repeat (first | (with_reducible first | exact HI268.out | apply IsS67.alloc | apply IsS67.drewN | apply IsS67.drew | apply IsS67.set_0 | apply IsS67.set_1 | (apply IsS67.far; rotate_left; exact NB268_260.out; rotate_right)) | exact HI268.out)); (case side2 => repeat (first | (with_reducible first | exact HB.out | apply below_alloc | apply pw_below_drewN | apply below_drew1 | refine below_set ?_ (IsS67.ge HI268.out) | refine below_set ?_ GE260.out) | exact HB.out)); rintro e w78 ⟨rfl, hi, hb, hk⟩; refine ⟨_, rfl, ?_⟩; have n0_ := Aside0.mk (KeepBut.blk hk (g' := gb260) (o := .cells #[.bool false, .func (.func 41) #[] #[]] 63 (0, 0)) (by (with_reducible repeat (first | refine blk_drewN ?_ _ | refine blk_drew ?_ | refine blk_alloc ?_ _)); exact BK260.out) NB260_268.out (by simp)); have n1_ := Aside0.mk (hb); have n2_ := Aside0.mk (hi); clear BK260; clear HB; clear HI268; have BK260 := n0_; have HB := n1_; have HI268 := n2_; clear n0_ n1_ n2_; (try clear hb); (try clear hb2); (try clear hk); (try clear hi)) | ((with_reducible refine gate_dst (N := 9) rfl ?_); refine box_event ?hg (N := 9) ?hd (cs := #[.int .i64 0, .int .i64 0, .int .i64 0, .int .i64 0]) (t := 70) ?hr ?_; (case hd => rfl); (case hg => rfl); (case hr => first | (go_simp; done) | (go_simp; rfl)); intro gb277 hg w79 hbox hb; have n0_ := Aside0.mk (blk_below (g := gb260) (o := .cells #[.bool false, .func (.func 41) #[] #[]] 63 (0, 0)) (by (with_reducible repeat (first | refine blk_drewN ?_ _ | refine blk_drew ?_ | refine blk_alloc ?_ _)); exact BK260.out) hb); have n1_ := Aside0.mk (IsS67.below (by repeat (first | (with_reducible first | exact HI268.out | apply IsS67.alloc | apply IsS67.drewN | apply IsS67.drew | apply IsS67.set_0 | apply IsS67.set_1 | (apply IsS67.far; rotate_left; exact NB268_260.out; rotate_right)) | exact HI268.out)) hb); have n2_ := Aside0.mk (below_step (by repeat (first | (with_reducible first | exact HB.out | apply below_alloc | apply pw_below_drewN | apply below_drew1 | refine below_set ?_ (IsS67.ge HI268.out) | refine below_set ?_ GE260.out) | exact HB.out)) hb); have n3_ := Aside0.mk (hbox); have n4_ := Aside0.mk ((by rw [hg]; exact (below_size (by repeat (first | (with_reducible first | exact HB.out | apply below_alloc | apply pw_below_drewN | apply below_drew1 | refine below_set ?_ (IsS67.ge HI268.out) | refine below_set ?_ GE260.out) | exact HB.out))) : w.heap.size ≤ gb277)); have n5_ := Aside0.mk ((by rw [hg]; exact (below_size (by repeat (first | (with_reducible first | exact HB.out | apply below_alloc | apply pw_below_drewN | apply below_drew1 | refine below_set ?_ (IsS67.ge HI268.out) | refine below_set ?_ GE260.out) | exact HB.out))) : w.heap.size ≤ gb277)); have n6_ := Aside0.mk ((by rw [hg]; exact Nat.ne_of_lt (blk_lt (g := gb260) (o := .cells #[.bool false, .func (.func 41) #[] #[]] 63 (0, 0)) (by (with_reducible repeat (first | refine blk_drewN ?_ _ | refine blk_drew ?_ | refine blk_alloc ?_ _)); exact BK260.out)) : gb260 ≠ gb277)); have n7_ := Aside0.mk ((by rw [hg]; exact Nat.ne_of_gt (blk_lt (g := gb260) (o := .cells #[.bool false, .func (.func 41) #[] #[]] 63 (0, 0)) (by (with_reducible repeat (first | refine blk_drewN ?_ _ | refine blk_drew ?_ | refine blk_alloc ?_ _)); exact BK260.out)) : gb277 ≠ gb260)); have n8_ := Aside0.mk ((by rw [hg]; exact Nat.ne_of_lt (IsS67.lt (show IsS67 w _ gb268 t275 false from by repeat (first | (with_reducible first | exact HI268.out | apply IsS67.alloc | apply IsS67.drewN | apply IsS67.drew | apply IsS67.set_0 | apply IsS67.set_1 | (apply IsS67.far; rotate_left; exact NB268_260.out; rotate_right)) | exact HI268.out))) : gb268 ≠ gb277)); have n9_ := Aside0.mk ((by rw [hg]; exact Nat.ne_of_gt (IsS67.lt (show IsS67 w _ gb268 t275 false from by repeat (first | (with_reducible first | exact HI268.out | apply IsS67.alloc | apply IsS67.drewN | apply IsS67.drew | apply IsS67.set_0 | apply IsS67.set_1 | (apply IsS67.far; rotate_left; exact NB268_260.out; rotate_right)) | exact HI268.out))) : gb277 ≠ gb268)); clear BK260; clear HI268; clear HB; have BK260 := n0_; have HI268 := n1_; have HB := n2_; have BK277 := n3_; have GW277 := n4_; have GE277 := n5_; have NB260_277 := n6_; have NB277_260 := n7_; have NB268_277 := n8_; have NB277_268 := n9_; clear n0_ n1_ n2_ n3_ n4_ n5_ n6_ n7_ n8_ n9_; clear hb hbox hg; have hnb80 := NB277_260.out; have hnc80 := NB260_277.out; have hnb81 := NB277_268.out; have hnc81 := NB268_277.out; have hcz82_0 : w79.cell? ⟨gb277, 0, none⟩ = some (.int .i64 0) := (blk_cell BK277.out 0).trans rfl; have hcz82_1 : w79.cell? ⟨gb277, 1, none⟩ = some (.int .i64 0) := (blk_cell BK277.out 1).trans rfl; have hcz82_2 : w79.cell? ⟨gb277, 2, none⟩ = some (.int .i64 0) := (blk_cell BK277.out 2).trans rfl; have hcz82_3 : w79.cell? ⟨gb277, 3, none⟩ = some (.int .i64 0) := (blk_cell BK277.out 3).trans rfl; have hfz82_0 := blk_frozen BK277.out 0; have hfz82_1 := blk_frozen BK277.out 1; have hfz82_2 := blk_frozen BK277.out 2; have hfz82_3 := blk_frozen BK277.out 3) | ((with_reducible refine gate_callee (f := 10) rfl ?_); refine goesL_ (some 50) rfl rfl Try.func10 (by kernel_rfl) rfl #[.int .i64 t271, .int .i64 t272, .int .i64 t273] rfl (by (try simp only [List.map_toArray, List.map_cons, List.map_nil]); first | done | rfl | (simp only [List.length_drop, List.length_take]; rfl)) ?_; (with_reducible refine (date_Days.calls kj11 t271 t272 t273 t278 t279 _ A23.out).mono ?_); rintro e w' ⟨rfl, ⟨nd, rfl⟩⟩; refine ⟨_, rfl, ?_⟩; obtain ⟨HGz83, hgz83⟩ := HI268.out; have hcz83_0 := cellS67_0 HGz83; have hcz83_1 := cellS67_1 HGz83; have hfz83_0 := blk_frozen HGz83 0; have hfz83_1 := blk_frozen HGz83 1; clear HGz83 hgz83))
              go_roundg kj11
              case measure => have := HK1.out; have := HK2.out; have := HJ11.out; omega
              case rel => exact ⟨(wrap64 (x20_2 + 1)), (by first | rfl | (simp; done) | (simp [*]; done)), H', ⟨by have := HK1.out; have := HK2.out; have := HJ11.out; omega⟩, ⟨by (with_reducible repeat (first | refine blk_drewN ?_ _ | refine blk_drew ?_ | refine blk_alloc ?_ _)); refine blk_far ?_ NB260_277.out _; (with_reducible repeat (first | refine blk_drewN ?_ _ | refine blk_drew ?_ | refine blk_alloc ?_ _)); refine blk_far ?_ NB260_277.out _; (with_reducible repeat (first | refine blk_drewN ?_ _ | refine blk_drew ?_ | refine blk_alloc ?_ _)); refine blk_far ?_ NB260_277.out _; (with_reducible repeat (first | refine blk_drewN ?_ _ | refine blk_drew ?_ | refine blk_alloc ?_ _)); refine blk_far ?_ NB260_277.out _; (with_reducible repeat (first | refine blk_drewN ?_ _ | refine blk_drew ?_ | refine blk_alloc ?_ _)); exact BK260.out⟩, ⟨by repeat (first | (with_reducible first | exact HB.out | apply below_alloc | apply pw_below_drewN | apply below_drew1 | refine below_set ?_ (IsS67.ge HI268.out) | refine below_set ?_ GE260.out | refine below_set ?_ GE277.out) | exact HB.out)⟩⟩
        ·rw [if_neg c10] at H
         exact absurd H (by simp)
       ·rw [if_neg c9] at H
        have c9b0 : decide (x20_2 < 7) = false := decide_eq_false c9
        clear c9
        have H' := Aside0.mk H
        clear H
        go_wp2
        go_roundg k2
        case measure => have := HK1.out; have := HK2.out; omega
        case rel => exact ⟨(wrap64 (x16_1 + 1)), (by first | rfl | (simp; done) | (simp [*]; done)), H', ⟨by have := HK1.out; have := HK2.out; omega⟩, ⟨by repeat (first | (with_reducible first | exact HB.out | apply below_alloc | apply pw_below_drewN | apply below_drew1 | refine below_set ?_ GE260.out) | exact HB.out)⟩⟩
    ·rw [if_neg c3] at H
     have c3b0 : (x16_1 == 0) = false := beq_eq_false_iff_ne.mpr c3
     have c3b1 : (x16_1 != 0) = true := bne_iff_ne.mpr c3
     by_cases c84 : x16_1 = 1
     ·rw [if_pos c84] at H
      have c84b0 : (x16_1 == 1) = true := beq_iff_eq.mpr c84
      have c84b1 : (x16_1 != 1) = false := bne_eq_false_iff_eq.mpr c84
      clear c84
      replace H := Option.bind_eq_some_iff.mp H
      obtain ⟨⟨t282, t283, t284, t285, t286, t287, t288⟩, A860, H⟩ := H
      replace H : (date_Parse.l2 k1 a0 x16_1 0 false true false t282 t283 t284 t285 t286 t287 t288 true) = some (r1, r2) := H
      have A86 := Aside0.mk A860
      clear A860
      have H' := Aside0.mk H
      clear H
      have hix85 : ∀ (v0_ v1_ v2_ v3_ v4_ v5_ : Value) (W : World), (Instr.index 64 (.agg #[v0_, v1_, v2_, v3_, v4_, v5_]) (.int .i64 x16_1)).run Try.prog W = .ok (.agg #[v2_, v3_]) W := by
       have h_ : (x16_1 : Int) = 1 := beq_iff_eq.mp (by assumption)
       rw [h_]
       intros; rfl
      go_wp2_with (first | ((with_reducible refine gate_dst (N := 5) rfl ?_); refine box_event ?hg (N := 5) ?hd (cs := #[.bool false, .nilFunc]) (t := 63) ?hr ?_; (case hd => rfl); (case hg => rfl); (case hr => first | (go_simp; done) | (go_simp; rfl)); intro gb281 hg w87 hbox hb; have n0_ := Aside0.mk (below_step (by repeat (first | (with_reducible first | exact HB.out | apply below_alloc | apply pw_below_drewN | apply below_drew1) | exact HB.out)) hb); have n1_ := Aside0.mk (hbox); have n2_ := Aside0.mk ((by rw [hg]; exact (below_size (by repeat (first | (with_reducible first | exact HB.out | apply below_alloc | apply pw_below_drewN | apply below_drew1) | exact HB.out))) : w.heap.size ≤ gb281)); have n3_ := Aside0.mk ((by rw [hg]; exact (below_size (by repeat (first | (with_reducible first | exact HB.out | apply below_alloc | apply pw_below_drewN | apply below_drew1) | exact HB.out))) : w.heap.size ≤ gb281)); clear HB; have HB := n0_; have BK281 := n1_; have GW281 := n2_; have GE281 := n3_; clear n0_ n1_ n2_ n3_; clear hb hbox hg; have hcz88_0 : w87.cell? ⟨gb281, 0, none⟩ = some (.bool false) := (blk_cell BK281.out 0).trans rfl; have hcz88_1 : w87.cell? ⟨gb281, 1, none⟩ = some (.nilFunc) := (blk_cell BK281.out 1).trans rfl; have hfz88_0 := blk_frozen BK281.out 0; have hfz88_1 := blk_frozen BK281.out 1) | ((with_reducible refine gate_callee (f := 38) rfl ?_); refine goesL_ (some 19) rfl rfl Try.func38 (by kernel_rfl) rfl #[] rfl (by (try simp only [List.map_toArray, List.map_cons, List.map_nil]); first | done | rfl | (simp only [List.length_drop, List.length_take]; rfl)) ?_; (with_reducible refine (date_weekdays.calls  t282 t283 t284 t285 t286 t287 t288 _ A86.out).mono ?_); rintro e w89 ⟨rfl, hb⟩; refine ⟨_, rfl, ?_⟩; have n0_ := Aside0.mk (blk_below (g := gb281) (o := .cells #[.bool true, .func (.func 42) #[] #[]] 63 (0, 0)) (by (with_reducible repeat (first | refine blk_drewN ?_ _ | refine blk_drew ?_ | refine blk_alloc ?_ _)); refine blk_put (cs := #[.bool true, .nilFunc]) ?_ 1 _ rfl; (with_reducible repeat (first | refine blk_drewN ?_ _ | refine blk_drew ?_ | refine blk_alloc ?_ _)); refine blk_put (cs := #[.bool false, .nilFunc]) ?_ 0 _ rfl; (with_reducible repeat (first | refine blk_drewN ?_ _ | refine blk_drew ?_ | refine blk_alloc ?_ _)); exact BK281.out) hb); have n1_ := Aside0.mk (below_step (by repeat (first | (with_reducible first | exact HB.out | apply below_alloc | apply pw_below_drewN | apply below_drew1 | refine below_set ?_ GE281.out) | exact HB.out)) hb); clear BK281; clear HB; have BK281 := n0_; have HB := n1_; clear n0_ n1_; (try clear hb); (try clear hb2); (try clear hk); (try clear hi)))
      go_loopg [20] k1 (fun kq v20 w' => ∃ (x20_2 : Int), v20 = .int .i64 x20_2 ∧ Aside0 (date_Parse.l2 kq a0 x16_1 x20_2 false true false t282 t283 t284 t285 t286 t287 t288 true = some (r1, r2)) ∧ Aside0 (kq ≤ k1) ∧ Aside0 (w'.heap[gb281]? = some (.cells #[.bool true, (.func (.func 42) #[] #[])] 63 (0, 0))) ∧ Aside0 (Below w.heap.size w w'))
      case atStart => exact ⟨(0), (by first | rfl | (simp; done) | (simp [*]; done)), H', ⟨Nat.le_refl _⟩, ⟨by (with_reducible repeat (first | refine blk_drewN ?_ _ | refine blk_drew ?_ | refine blk_alloc ?_ _)); exact BK281.out⟩, ⟨by repeat (first | (with_reducible first | exact HB.out | apply below_alloc | apply pw_below_drewN | apply below_drew1 | refine below_set ?_ GE281.out) | exact HB.out)⟩⟩
      case round =>
       clear H'
       try clear c1
       try clear p1
       try clear q1
       try clear c2
       try clear c2b0
       try clear p2
       try clear c3
       try clear c3b0
       try clear c3b1
       try clear c4
       try clear c5
       try clear c6
       try clear p6
       try clear c7
       try clear c8
       try clear c9
       try clear c9b0
       try clear c10
       try clear c10b0
       try clear p11
       try clear q11
       try clear c14
       try clear c15
       try clear c15b0
       try clear c15b1
       try clear c16
       try clear c16b0
       try clear c16b1
       try clear c18
       try clear c24
       try clear c28
       try clear c32
       try clear c33
       try clear c36
       try clear c36b0
       try clear c36b1
       try clear c37
       try clear c37b0
       try clear c37b1
       try clear c38
       try clear c39
       try clear c39b0
       try clear c39b1
       try clear c41
       try clear c43
       try clear c44
       try clear c47
       try clear c48
       try clear c54
       try clear c58
       try clear c59
       try clear p64
       try clear c65
       try clear c69
       try clear c70
       try clear c76
       try clear c80
       try clear c81
       try clear c84
       try clear c84b0
       try clear c84b1
       try clear hcz13_0
       try clear hcz13_1
       try clear hcz21_0
       try clear hcz21_1
       try clear hcz27_0
       try clear hcz27_1
       try clear hcz29_0
       try clear hcz29_1
       try clear hcz34_0
       try clear hcz34_1
       try clear hcz34_2
       try clear hcz34_3
       try clear hcz35_0
       try clear hcz35_1
       try clear hcz42_0
       try clear hcz42_1
       try clear hcz44_0
       try clear hcz44_1
       try clear hcz49_0
       try clear hcz49_1
       try clear hcz49_2
       try clear hcz49_3
       try clear hcz50_0
       try clear hcz50_1
       try clear hcz53_0
       try clear hcz53_1
       try clear hcz55_0
       try clear hcz55_1
       try clear hcz60_0
       try clear hcz60_1
       try clear hcz60_2
       try clear hcz60_3
       try clear hcz61_0
       try clear hcz61_1
       try clear hcz64_0
       try clear hcz64_1
       try clear hcz66_0
       try clear hcz66_1
       try clear hcz71_0
       try clear hcz71_1
       try clear hcz71_2
       try clear hcz71_3
       try clear hcz72_0
       try clear hcz72_1
       try clear hcz75_0
       try clear hcz75_1
       try clear hcz77_0
       try clear hcz77_1
       try clear hcz7_0
       try clear hcz7_1
       try clear hcz82_0
       try clear hcz82_1
       try clear hcz82_2
       try clear hcz82_3
       try clear hcz83_0
       try clear hcz83_1
       try clear hcz88_0
       try clear hcz88_1
       try clear hfz13_0
       try clear hfz13_1
       try clear hfz21_0
       try clear hfz21_1
       try clear hfz27_0
       try clear hfz27_1
       try clear hfz29_0
       try clear hfz29_1
       try clear hfz34_0
       try clear hfz34_1
       try clear hfz34_2
       try clear hfz34_3
       try clear hfz35_0
       try clear hfz35_1
       try clear hfz42_0
       try clear hfz42_1
       try clear hfz44_0
       try clear hfz44_1
       try clear hfz49_0
       try clear hfz49_1
       try clear hfz49_2
       try clear hfz49_3
       try clear hfz50_0
       try clear hfz50_1
       try clear hfz53_0
       try clear hfz53_1
       try clear hfz55_0
       try clear hfz55_1
       try clear hfz60_0
       try clear hfz60_1
       try clear hfz60_2
       try clear hfz60_3
       try clear hfz61_0
       try clear hfz61_1
       try clear hfz64_0
       try clear hfz64_1
       try clear hfz66_0
       try clear hfz66_1
       try clear hfz71_0
       try clear hfz71_1
       try clear hfz71_2
       try clear hfz71_3
       try clear hfz72_0
       try clear hfz72_1
       try clear hfz75_0
       try clear hfz75_1
       try clear hfz77_0
       try clear hfz77_1
       try clear hfz7_0
       try clear hfz7_1
       try clear hfz82_0
       try clear hfz82_1
       try clear hfz82_2
       try clear hfz82_3
       try clear hfz83_0
       try clear hfz83_1
       try clear hfz88_0
       try clear hfz88_1
       try clear p1
       try clear p11
       try clear p2
       try clear q1
       try clear q11
       obtain ⟨x20_2, rfl, HA, HK2, BK281, HB⟩ := hrel
       cases gk with
       | zero => exact absurd HA.out (by simp [date_Parse.l2])
       | succ k2 =>
        have H := HA.out
        clear HA
        simp only [date_Parse.l2] at H
        by_cases c90 : x20_2 < 7
        ·rw [if_pos c90] at H
         have c90b0 : decide (x20_2 < 7) = true := decide_eq_true c90
         clear c90
         by_cases c91 : 0 ≤ x20_2
         ·rw [if_pos c91] at H
          have c91b0 : decide (0 ≤ x20_2) = true := decide_eq_true c91
          clear c91
          have HC93 := Aside0.mk H
          clear H
          have p92 : 0 ≤ (x20_2 : Int) := of_decide_eq_true (by first | (with_reducible assumption) | assumption)
          have q92 : x20_2 < (7 : Int) := of_decide_eq_true (by first | (with_reducible assumption) | assumption)
          replace p92 := eq_true p92
          replace q92 := eq_true q92
          have hcz94_0 : wr.cell? ⟨gb281, 0, none⟩ = some (.bool true) := (blk_cell BK281.out 0).trans rfl
          have hcz94_1 : wr.cell? ⟨gb281, 1, none⟩ = some (.func (.func 42) #[] #[]) := (blk_cell BK281.out 1).trans rfl
          have hfz94_0 := blk_frozen BK281.out 0
          have hfz94_1 := blk_frozen BK281.out 1
          go_upto_if 26 with (fail)
          go_cut [7] (fun v7 wc => ∃ (kq : Nat) (x7_92 : ByteArray), v7 = .string x7_92 ∧ Aside0 (date_Parse.j4 kq a0 x20_2 x7_92 x16_1 x20_2 false true false t282 t283 t284 t285 t286 t287 t288 true = some (r1, r2)) ∧ Aside0 (kq ≤ k2) ∧ Aside0 (wc.heap[gb281]? = some (.cells #[.bool true, (.func (.func 42) #[] #[])] 63 (0, 0))) ∧ Aside0 (Below w.heap.size w wc))
          case first =>
           have H := HC93.out
           clear HC93
           have H1 : (date_Parse.j4 k2 a0 x20_2 (arrAt [t282, t283, t284, t285, t286, t287, t288] (⟨#[]⟩ : ByteArray) x20_2) x16_1 x20_2 false true false t282 t283 t284 t285 t286 t287 t288 true) = some (r1, r2) := by first | (rw [if_pos rfl] at H; exact H) | (rw [if_pos trivial] at H; exact H) | exact H
           clear H
           have H := H1
           clear H1
           have H' := Aside0.mk H
           clear H
           go_wp2
           go_meet
           case rel => exact ⟨_, (arrAt [t282, t283, t284, t285, t286, t287, t288] (⟨#[]⟩ : ByteArray) x20_2), (by first | rfl | (simp; done) | (simp [*]; done)), H', ⟨by have := HK1.out; have := HK2.out; first | omega | exact Nat.le_refl _⟩, ⟨by (with_reducible repeat (first | refine blk_drewN ?_ _ | refine blk_drew ?_ | refine blk_alloc ?_ _)); exact BK281.out⟩, ⟨by repeat (first | (with_reducible first | exact HB.out | apply below_alloc | apply pw_below_drewN | apply below_drew1 | refine below_set ?_ GE281.out) | exact HB.out)⟩⟩
          case rest =>
           clear HC93
           try clear c1
           try clear p1
           try clear q1
           try clear c2
           try clear c2b0
           try clear p2
           try clear c3
           try clear c3b0
           try clear c3b1
           try clear c4
           try clear c5
           try clear c6
           try clear p6
           try clear c7
           try clear c8
           try clear c9
           try clear c9b0
           try clear p9
           try clear q9
           try clear c10
           try clear c10b0
           try clear p11
           try clear q11
           try clear c14
           try clear c15
           try clear c15b0
           try clear c15b1
           try clear c16
           try clear c16b0
           try clear c16b1
           try clear c18
           try clear c24
           try clear c28
           try clear c32
           try clear c33
           try clear c36
           try clear c36b0
           try clear c36b1
           try clear c37
           try clear c37b0
           try clear c37b1
           try clear c38
           try clear c39
           try clear c39b0
           try clear c39b1
           try clear c41
           try clear c43
           try clear c44
           try clear c47
           try clear c48
           try clear c54
           try clear c58
           try clear c59
           try clear p64
           try clear c65
           try clear c69
           try clear c70
           try clear c76
           try clear c80
           try clear c81
           try clear c84
           try clear c84b0
           try clear c84b1
           try clear c90
           try clear c90b0
           try clear c91
           try clear c91b0
           try clear p92
           try clear q92
           try clear hcz13_0
           try clear hcz13_1
           try clear hcz21_0
           try clear hcz21_1
           try clear hcz27_0
           try clear hcz27_1
           try clear hcz29_0
           try clear hcz29_1
           try clear hcz34_0
           try clear hcz34_1
           try clear hcz34_2
           try clear hcz34_3
           try clear hcz35_0
           try clear hcz35_1
           try clear hcz42_0
           try clear hcz42_1
           try clear hcz44_0
           try clear hcz44_1
           try clear hcz49_0
           try clear hcz49_1
           try clear hcz49_2
           try clear hcz49_3
           try clear hcz50_0
           try clear hcz50_1
           try clear hcz53_0
           try clear hcz53_1
           try clear hcz55_0
           try clear hcz55_1
           try clear hcz60_0
           try clear hcz60_1
           try clear hcz60_2
           try clear hcz60_3
           try clear hcz61_0
           try clear hcz61_1
           try clear hcz64_0
           try clear hcz64_1
           try clear hcz66_0
           try clear hcz66_1
           try clear hcz71_0
           try clear hcz71_1
           try clear hcz71_2
           try clear hcz71_3
           try clear hcz72_0
           try clear hcz72_1
           try clear hcz75_0
           try clear hcz75_1
           try clear hcz77_0
           try clear hcz77_1
           try clear hcz7_0
           try clear hcz7_1
           try clear hcz82_0
           try clear hcz82_1
           try clear hcz82_2
           try clear hcz82_3
           try clear hcz83_0
           try clear hcz83_1
           try clear hcz88_0
           try clear hcz88_1
           try clear hcz94_0
           try clear hcz94_1
           try clear hfz13_0
           try clear hfz13_1
           try clear hfz21_0
           try clear hfz21_1
           try clear hfz27_0
           try clear hfz27_1
           try clear hfz29_0
           try clear hfz29_1
           try clear hfz34_0
           try clear hfz34_1
           try clear hfz34_2
           try clear hfz34_3
           try clear hfz35_0
           try clear hfz35_1
           try clear hfz42_0
           try clear hfz42_1
           try clear hfz44_0
           try clear hfz44_1
           try clear hfz49_0
           try clear hfz49_1
           try clear hfz49_2
           try clear hfz49_3
           try clear hfz50_0
           try clear hfz50_1
           try clear hfz53_0
           try clear hfz53_1
           try clear hfz55_0
           try clear hfz55_1
           try clear hfz60_0
           try clear hfz60_1
           try clear hfz60_2
           try clear hfz60_3
           try clear hfz61_0
           try clear hfz61_1
           try clear hfz64_0
           try clear hfz64_1
           try clear hfz66_0
           try clear hfz66_1
           try clear hfz71_0
           try clear hfz71_1
           try clear hfz71_2
           try clear hfz71_3
           try clear hfz72_0
           try clear hfz72_1
           try clear hfz75_0
           try clear hfz75_1
           try clear hfz77_0
           try clear hfz77_1
           try clear hfz7_0
           try clear hfz7_1
           try clear hfz82_0
           try clear hfz82_1
           try clear hfz82_2
           try clear hfz82_3
           try clear hfz83_0
           try clear hfz83_1
           try clear hfz88_0
           try clear hfz88_1
           try clear hfz94_0
           try clear hfz94_1
           try clear p1
           try clear p11
           try clear p2
           try clear p6
           try clear p64
           try clear p92
           try clear q1
           try clear q11
           try clear q92
           obtain ⟨kq, x7_92, rfl, HA, HJ92, BK281, HB⟩ := hcut
           cases kq with
           | zero => exact absurd HA.out (by simp [date_Parse.j4])
           | succ kj92 =>
            have H := HA.out
            clear HA
            simp only [date_Parse.j4] at H
            replace H := Option.bind_eq_some_iff.mp H
            obtain ⟨⟨t290, t291⟩, A960, H⟩ := H
            replace H : (if t291 = true then (date_Parse.l2 kj92 a0 x16_1 (wrap64 (x20_2 + 1)) false true false t282 t283 t284 t285 t286 t287 t288 true) else ((date_second.f kj92 t290 t291).bind fun bt292 => ((date_Days.f kj92 bt292.1 bt292.2.1 bt292.2.2.1).bind fun bt299 => (if bt292.2.2.2.2.2 = true then (date_Parse.l2 kj92 a0 x16_1 (wrap64 (x20_2 + 1)) false true false t282 t283 t284 t285 t286 t287 t288 true) else (if bt292.2.2.2.2.1.toList = ([] : List UInt8) then (if bt299.2 = 0 then ((date_Weekday.f bt299.1).bind fun t301 => (if t301 = x20_2 then (some (wrap64 ((wrap64 (bt299.1 * 86400)) + bt292.2.2.2.1), 0)) else (date_Parse.l2 kj92 a0 x16_1 (wrap64 (x20_2 + 1)) false true false t282 t283 t284 t285 t286 t287 t288 true))) else (date_Parse.l2 kj92 a0 x16_1 (wrap64 (x20_2 + 1)) false true false t282 t283 t284 t285 t286 t287 t288 true)) else (date_Parse.l2 kj92 a0 x16_1 (wrap64 (x20_2 + 1)) false true false t282 t283 t284 t285 t286 t287 t288 true)))))) = some (r1, r2) := H
            have A96 := Aside0.mk A960
            clear A960
            by_cases c97 : t291 = true
            ·subst c97
             have H1 : (date_Parse.l2 kj92 a0 x16_1 (wrap64 (x20_2 + 1)) false true false t282 t283 t284 t285 t286 t287 t288 true) = some (r1, r2) := by rw [if_pos rfl] at H; exact H
             clear H
             have H := H1
             clear H1
             have H' := Aside0.mk H
             clear H
             go_wp2_with (first | ((with_reducible refine gate_dst (N := 31) rfl ?_); refine box_event ?hg (N := 31) ?hd (cs := #[.string a0, .bool false]) (t := 67) ?hr ?_; (case hd => rfl); (case hg => rfl); (case hr => first | (go_simp; done) | (go_simp; rfl)); intro gb289 hg w98 hbox hb; have n0_ := Aside0.mk (blk_below (g := gb281) (o := .cells #[.bool true, .func (.func 42) #[] #[]] 63 (0, 0)) (by (with_reducible repeat (first | refine blk_drewN ?_ _ | refine blk_drew ?_ | refine blk_alloc ?_ _)); exact BK281.out) hb); have n1_ := Aside0.mk (below_step (by repeat (first | (with_reducible first | exact HB.out | apply below_alloc | apply pw_below_drewN | apply below_drew1 | refine below_set ?_ GE281.out) | exact HB.out)) hb); have n2_ := Aside0.mk ((show IsS67 w w98 gb289 a0 false from ⟨hbox, (by rw [hg]; exact (below_size (by repeat (first | (with_reducible first | exact HB.out | apply below_alloc | apply pw_below_drewN | apply below_drew1 | refine below_set ?_ GE281.out) | exact HB.out))))⟩)); have n3_ := Aside0.mk ((by rw [hg]; exact (below_size (by repeat (first | (with_reducible first | exact HB.out | apply below_alloc | apply pw_below_drewN | apply below_drew1 | refine below_set ?_ GE281.out) | exact HB.out))) : w.heap.size ≤ gb289)); have n4_ := Aside0.mk ((by rw [hg]; exact (below_size (by repeat (first | (with_reducible first | exact HB.out | apply below_alloc | apply pw_below_drewN | apply below_drew1 | refine below_set ?_ GE281.out) | exact HB.out))) : w.heap.size ≤ gb289)); have n5_ := Aside0.mk ((by rw [hg]; exact Nat.ne_of_lt (blk_lt (g := gb281) (o := .cells #[.bool true, .func (.func 42) #[] #[]] 63 (0, 0)) (by (with_reducible repeat (first | refine blk_drewN ?_ _ | refine blk_drew ?_ | refine blk_alloc ?_ _)); exact BK281.out)) : gb281 ≠ gb289)); have n6_ := Aside0.mk ((by rw [hg]; exact Nat.ne_of_gt (blk_lt (g := gb281) (o := .cells #[.bool true, .func (.func 42) #[] #[]] 63 (0, 0)) (by (with_reducible repeat (first | refine blk_drewN ?_ _ | refine blk_drew ?_ | refine blk_alloc ?_ _)); exact BK281.out)) : gb289 ≠ gb281)); clear BK281; clear HB; have BK281 := n0_; have HB := n1_; have HI289 := n2_; have GW289 := n3_; have GE289 := n4_; have NB281_289 := n5_; have NB289_281 := n6_; clear n0_ n1_ n2_ n3_ n4_ n5_ n6_; clear hb hbox hg) | ((with_reducible refine gate_callee (f := 44) rfl ?_); refine goesL_ (some 34) rfl rfl Try.func44 (by kernel_rfl) rfl #[.pointer (some ⟨gb289, 0, none⟩), .string x7_92] rfl (by (try simp only [List.map_toArray, List.map_cons, List.map_nil]); first | done | rfl | (simp only [List.length_drop, List.length_take]; rfl)) ?_; (with_reducible refine (date_scan_word.calls gb289 a0 false x7_92 t290 true w _ ?side1 ?side2 A96.out).mono ?_); (case side1 => repeat (first | (with_reducible first | exact HI289.out | apply IsS67.alloc | apply IsS67.drewN | apply IsS67.drew | apply IsS67.set_0 | apply IsS67.set_1 | (apply IsS67.far; rotate_left; exact NB289_281.out; rotate_right)) | exact HI289.out)); (case side2 => repeat (first | (with_reducible first | exact HB.out | apply below_alloc | apply pw_below_drewN | apply below_drew1 | refine below_set ?_ (IsS67.ge HI289.out) | refine below_set ?_ GE281.out) | exact HB.out)); rintro e w99 ⟨rfl, hi, hb, hk⟩; refine ⟨_, rfl, ?_⟩; have n0_ := Aside0.mk (KeepBut.blk hk (g' := gb281) (o := .cells #[.bool true, .func (.func 42) #[] #[]] 63 (0, 0)) (by (with_reducible repeat (first | refine blk_drewN ?_ _ | refine blk_drew ?_ | refine blk_alloc ?_ _)); exact BK281.out) NB281_289.out (by simp)); have n1_ := Aside0.mk (hb); have n2_ := Aside0.mk (hi); clear BK281; clear HB; clear HI289; have BK281 := n0_; have HB := n1_; have HI289 := n2_; clear n0_ n1_ n2_; (try clear hb); (try clear hb2); (try clear hk); (try clear hi); obtain ⟨HGz100, hgz100⟩ := HI289.out; have hcz100_0 := cellS67_0 HGz100; have hcz100_1 := cellS67_1 HGz100; have hfz100_0 := blk_frozen HGz100 0; have hfz100_1 := blk_frozen HGz100 1; clear HGz100 hgz100))
             go_roundg kj92
             case measure => have := HK1.out; have := HK2.out; have := HJ92.out; omega
             case rel => exact ⟨(wrap64 (x20_2 + 1)), (by first | rfl | (simp; done) | (simp [*]; done)), H', ⟨by have := HK1.out; have := HK2.out; have := HJ92.out; omega⟩, ⟨by (with_reducible repeat (first | refine blk_drewN ?_ _ | refine blk_drew ?_ | refine blk_alloc ?_ _)); exact BK281.out⟩, ⟨by repeat (first | (with_reducible first | exact HB.out | apply below_alloc | apply pw_below_drewN | apply below_drew1 | refine below_set ?_ (IsS67.ge HI289.out) | refine below_set ?_ GE281.out) | exact HB.out)⟩⟩
            ·replace c97 := Bool.eq_false_iff.mpr c97
             subst c97
             have H1 : ((date_second.f kj92 t290 false).bind fun bt292 => ((date_Days.f kj92 bt292.1 bt292.2.1 bt292.2.2.1).bind fun bt299 => (if bt292.2.2.2.2.2 = true then (date_Parse.l2 kj92 a0 x16_1 (wrap64 (x20_2 + 1)) false true false t282 t283 t284 t285 t286 t287 t288 true) else (if bt292.2.2.2.2.1.toList = ([] : List UInt8) then (if bt299.2 = 0 then ((date_Weekday.f bt299.1).bind fun t301 => (if t301 = x20_2 then (some (wrap64 ((wrap64 (bt299.1 * 86400)) + bt292.2.2.2.1), 0)) else (date_Parse.l2 kj92 a0 x16_1 (wrap64 (x20_2 + 1)) false true false t282 t283 t284 t285 t286 t287 t288 true))) else (date_Parse.l2 kj92 a0 x16_1 (wrap64 (x20_2 + 1)) false true false t282 t283 t284 t285 t286 t287 t288 true)) else (date_Parse.l2 kj92 a0 x16_1 (wrap64 (x20_2 + 1)) false true false t282 t283 t284 t285 t286 t287 t288 true))))) = some (r1, r2) := by rw [if_neg (show ¬ (false = true) by decide)] at H; exact H
             clear H
             have H := H1
             clear H1
             replace H := Option.bind_eq_some_iff.mp H
             obtain ⟨⟨t292, t293, t294, t295, t296, t297⟩, A1010, H⟩ := H
             replace H : ((date_Days.f kj92 t292 t293 t294).bind fun bt299 => (if t297 = true then (date_Parse.l2 kj92 a0 x16_1 (wrap64 (x20_2 + 1)) false true false t282 t283 t284 t285 t286 t287 t288 true) else (if t296.toList = ([] : List UInt8) then (if bt299.2 = 0 then ((date_Weekday.f bt299.1).bind fun t301 => (if t301 = x20_2 then (some (wrap64 ((wrap64 (bt299.1 * 86400)) + t295), 0)) else (date_Parse.l2 kj92 a0 x16_1 (wrap64 (x20_2 + 1)) false true false t282 t283 t284 t285 t286 t287 t288 true))) else (date_Parse.l2 kj92 a0 x16_1 (wrap64 (x20_2 + 1)) false true false t282 t283 t284 t285 t286 t287 t288 true)) else (date_Parse.l2 kj92 a0 x16_1 (wrap64 (x20_2 + 1)) false true false t282 t283 t284 t285 t286 t287 t288 true)))) = some (r1, r2) := H
             have A101 := Aside0.mk A1010
             clear A1010
             replace H := Option.bind_eq_some_iff.mp H
             obtain ⟨⟨t299, t300⟩, A1020, H⟩ := H
             replace H : (if t297 = true then (date_Parse.l2 kj92 a0 x16_1 (wrap64 (x20_2 + 1)) false true false t282 t283 t284 t285 t286 t287 t288 true) else (if t296.toList = ([] : List UInt8) then (if t300 = 0 then ((date_Weekday.f t299).bind fun t301 => (if t301 = x20_2 then (some (wrap64 ((wrap64 (t299 * 86400)) + t295), 0)) else (date_Parse.l2 kj92 a0 x16_1 (wrap64 (x20_2 + 1)) false true false t282 t283 t284 t285 t286 t287 t288 true))) else (date_Parse.l2 kj92 a0 x16_1 (wrap64 (x20_2 + 1)) false true false t282 t283 t284 t285 t286 t287 t288 true)) else (date_Parse.l2 kj92 a0 x16_1 (wrap64 (x20_2 + 1)) false true false t282 t283 t284 t285 t286 t287 t288 true))) = some (r1, r2) := H
             have A102 := Aside0.mk A1020
             clear A1020
             by_cases c103 : t297 = true
             ·subst c103
              have H1 : (date_Parse.l2 kj92 a0 x16_1 (wrap64 (x20_2 + 1)) false true false t282 t283 t284 t285 t286 t287 t288 true) = some (r1, r2) := by rw [if_pos rfl] at H; exact H
              clear H
              have H := H1
              clear H1
              have H' := Aside0.mk H
              clear H
              go_wp2_with (first | ((with_reducible refine gate_dst (N := 31) rfl ?_); refine box_event ?hg (N := 31) ?hd (cs := #[.string a0, .bool false]) (t := 67) ?hr ?_; (case hd => rfl); (case hg => rfl); (case hr => first | (go_simp; done) | (go_simp; rfl)); intro gb289 hg w104 hbox hb; have n0_ := Aside0.mk (blk_below (g := gb281) (o := .cells #[.bool true, .func (.func 42) #[] #[]] 63 (0, 0)) (by (with_reducible repeat (first | refine blk_drewN ?_ _ | refine blk_drew ?_ | refine blk_alloc ?_ _)); exact BK281.out) hb); have n1_ := Aside0.mk (below_step (by repeat (first | (with_reducible first | exact HB.out | apply below_alloc | apply pw_below_drewN | apply below_drew1 | refine below_set ?_ GE281.out) | exact HB.out)) hb); have n2_ := Aside0.mk ((show IsS67 w w104 gb289 a0 false from ⟨hbox, (by rw [hg]; exact (below_size (by repeat (first | (with_reducible first | exact HB.out | apply below_alloc | apply pw_below_drewN | apply below_drew1 | refine below_set ?_ GE281.out) | exact HB.out))))⟩)); have n3_ := Aside0.mk ((by rw [hg]; exact (below_size (by repeat (first | (with_reducible first | exact HB.out | apply below_alloc | apply pw_below_drewN | apply below_drew1 | refine below_set ?_ GE281.out) | exact HB.out))) : w.heap.size ≤ gb289)); have n4_ := Aside0.mk ((by rw [hg]; exact (below_size (by repeat (first | (with_reducible first | exact HB.out | apply below_alloc | apply pw_below_drewN | apply below_drew1 | refine below_set ?_ GE281.out) | exact HB.out))) : w.heap.size ≤ gb289)); have n5_ := Aside0.mk ((by rw [hg]; exact Nat.ne_of_lt (blk_lt (g := gb281) (o := .cells #[.bool true, .func (.func 42) #[] #[]] 63 (0, 0)) (by (with_reducible repeat (first | refine blk_drewN ?_ _ | refine blk_drew ?_ | refine blk_alloc ?_ _)); exact BK281.out)) : gb281 ≠ gb289)); have n6_ := Aside0.mk ((by rw [hg]; exact Nat.ne_of_gt (blk_lt (g := gb281) (o := .cells #[.bool true, .func (.func 42) #[] #[]] 63 (0, 0)) (by (with_reducible repeat (first | refine blk_drewN ?_ _ | refine blk_drew ?_ | refine blk_alloc ?_ _)); exact BK281.out)) : gb289 ≠ gb281)); clear BK281; clear HB; have BK281 := n0_; have HB := n1_; have HI289 := n2_; have GW289 := n3_; have GE289 := n4_; have NB281_289 := n5_; have NB289_281 := n6_; clear n0_ n1_ n2_ n3_ n4_ n5_ n6_; clear hb hbox hg) | ((with_reducible refine gate_callee (f := 44) rfl ?_); refine goesL_ (some 34) rfl rfl Try.func44 (by kernel_rfl) rfl #[.pointer (some ⟨gb289, 0, none⟩), .string x7_92] rfl (by (try simp only [List.map_toArray, List.map_cons, List.map_nil]); first | done | rfl | (simp only [List.length_drop, List.length_take]; rfl)) ?_; (with_reducible refine (date_scan_word.calls gb289 a0 false x7_92 t290 false w _ ?side1 ?side2 A96.out).mono ?_); (case side1 => repeat (first | (with_reducible first | exact HI289.out | apply IsS67.alloc | apply IsS67.drewN | apply IsS67.drew | apply IsS67.set_0 | apply IsS67.set_1 | (apply IsS67.far; rotate_left; exact NB289_281.out; rotate_right)) | exact HI289.out)); (case side2 => repeat (first | (with_reducible first | exact HB.out | apply below_alloc | apply pw_below_drewN | apply below_drew1 | refine below_set ?_ (IsS67.ge HI289.out) | refine below_set ?_ GE281.out) | exact HB.out)); rintro e w105 ⟨rfl, hi, hb, hk⟩; refine ⟨_, rfl, ?_⟩; have n0_ := Aside0.mk (KeepBut.blk hk (g' := gb281) (o := .cells #[.bool true, .func (.func 42) #[] #[]] 63 (0, 0)) (by (with_reducible repeat (first | refine blk_drewN ?_ _ | refine blk_drew ?_ | refine blk_alloc ?_ _)); exact BK281.out) NB281_289.out (by simp)); have n1_ := Aside0.mk (hb); have n2_ := Aside0.mk (hi); clear BK281; clear HB; clear HI289; have BK281 := n0_; have HB := n1_; have HI289 := n2_; clear n0_ n1_ n2_; (try clear hb); (try clear hb2); (try clear hk); (try clear hi); obtain ⟨HGz106, hgz106⟩ := HI289.out; have hcz106_0 := cellS67_0 HGz106; have hcz106_1 := cellS67_1 HGz106; have hfz106_0 := blk_frozen HGz106 0; have hfz106_1 := blk_frozen HGz106 1; clear HGz106 hgz106; have hnb107 := NB281_289.out; have hnc107 := NB289_281.out; have hcz108_0 : w105.cell? ⟨gb281, 0, none⟩ = some (.bool true) := (blk_cell BK281.out 0).trans rfl; have hcz108_1 : w105.cell? ⟨gb281, 1, none⟩ = some (.func (.func 42) #[] #[]) := (blk_cell BK281.out 1).trans rfl; have hfz108_0 := blk_frozen BK281.out 0; have hfz108_1 := blk_frozen BK281.out 1) | ((with_reducible refine gate_calleeV (x := .tmp 40) rfl ?_); refine goesV_ (.tmp 40) (some 42) rfl rfl Try.func42 (by kernel_rfl) rfl #[.pointer (some ⟨gb289, 0, none⟩)] rfl rfl (by (try simp only [List.map_toArray, List.map_cons, List.map_nil]); first | done | rfl) ?_; (with_reducible refine (date_second.calls kj92 gb289 t290 false t292 t293 t294 t295 t296 true w _ ?side1 ?side2 A101.out).mono ?_); (case side1 => repeat (first | (with_reducible first | exact HI289.out | apply IsS67.alloc | apply IsS67.drewN | apply IsS67.drew | apply IsS67.set_0 | apply IsS67.set_1 | (apply IsS67.far; rotate_left; exact NB289_281.out; rotate_right)) | exact HI289.out)); (case side2 => repeat (first | (with_reducible first | exact HB.out | apply below_alloc | apply pw_below_drewN | apply below_drew1 | refine below_set ?_ (IsS67.ge HI289.out) | refine below_set ?_ GE281.out) | exact HB.out)); rintro e w109 ⟨rfl, hi, hb, hk⟩; refine ⟨_, rfl, ?_⟩; have n0_ := Aside0.mk (KeepBut.blk hk (g' := gb281) (o := .cells #[.bool true, .func (.func 42) #[] #[]] 63 (0, 0)) (by (with_reducible repeat (first | refine blk_drewN ?_ _ | refine blk_drew ?_ | refine blk_alloc ?_ _)); exact BK281.out) NB281_289.out (by simp)); have n1_ := Aside0.mk (hb); have n2_ := Aside0.mk (hi); clear BK281; clear HB; clear HI289; have BK281 := n0_; have HB := n1_; have HI289 := n2_; clear n0_ n1_ n2_; (try clear hb); (try clear hb2); (try clear hk); (try clear hi)) | ((with_reducible refine gate_dst (N := 9) rfl ?_); refine box_event ?hg (N := 9) ?hd (cs := #[.int .i64 0, .int .i64 0, .int .i64 0, .int .i64 0]) (t := 70) ?hr ?_; (case hd => rfl); (case hg => rfl); (case hr => first | (go_simp; done) | (go_simp; rfl)); intro gb298 hg w110 hbox hb; have n0_ := Aside0.mk (blk_below (g := gb281) (o := .cells #[.bool true, .func (.func 42) #[] #[]] 63 (0, 0)) (by (with_reducible repeat (first | refine blk_drewN ?_ _ | refine blk_drew ?_ | refine blk_alloc ?_ _)); exact BK281.out) hb); have n1_ := Aside0.mk (IsS67.below (by repeat (first | (with_reducible first | exact HI289.out | apply IsS67.alloc | apply IsS67.drewN | apply IsS67.drew | apply IsS67.set_0 | apply IsS67.set_1 | (apply IsS67.far; rotate_left; exact NB289_281.out; rotate_right)) | exact HI289.out)) hb); have n2_ := Aside0.mk (below_step (by repeat (first | (with_reducible first | exact HB.out | apply below_alloc | apply pw_below_drewN | apply below_drew1 | refine below_set ?_ (IsS67.ge HI289.out) | refine below_set ?_ GE281.out) | exact HB.out)) hb); have n3_ := Aside0.mk (hbox); have n4_ := Aside0.mk ((by rw [hg]; exact (below_size (by repeat (first | (with_reducible first | exact HB.out | apply below_alloc | apply pw_below_drewN | apply below_drew1 | refine below_set ?_ (IsS67.ge HI289.out) | refine below_set ?_ GE281.out) | exact HB.out))) : w.heap.size ≤ gb298)); have n5_ := Aside0.mk ((by rw [hg]; exact (below_size (by repeat (first | (with_reducible first | exact HB.out | apply below_alloc | apply pw_below_drewN | apply below_drew1 | refine below_set ?_ (IsS67.ge HI289.out) | refine below_set ?_ GE281.out) | exact HB.out))) : w.heap.size ≤ gb298)); have n6_ := Aside0.mk ((by rw [hg]; exact Nat.ne_of_lt (blk_lt (g := gb281) (o := .cells #[.bool true, .func (.func 42) #[] #[]] 63 (0, 0)) (by (with_reducible repeat (first | refine blk_drewN ?_ _ | refine blk_drew ?_ | refine blk_alloc ?_ _)); exact BK281.out)) : gb281 ≠ gb298)); have n7_ := Aside0.mk ((by rw [hg]; exact Nat.ne_of_gt (blk_lt (g := gb281) (o := .cells #[.bool true, .func (.func 42) #[] #[]] 63 (0, 0)) (by (with_reducible repeat (first | refine blk_drewN ?_ _ | refine blk_drew ?_ | refine blk_alloc ?_ _)); exact BK281.out)) : gb298 ≠ gb281)); have n8_ := Aside0.mk ((by rw [hg]; exact Nat.ne_of_lt (IsS67.lt (show IsS67 w _ gb289 t296 true from by repeat (first | (with_reducible first | exact HI289.out | apply IsS67.alloc | apply IsS67.drewN | apply IsS67.drew | apply IsS67.set_0 | apply IsS67.set_1 | (apply IsS67.far; rotate_left; exact NB289_281.out; rotate_right)) | exact HI289.out))) : gb289 ≠ gb298)); have n9_ := Aside0.mk ((by rw [hg]; exact Nat.ne_of_gt (IsS67.lt (show IsS67 w _ gb289 t296 true from by repeat (first | (with_reducible first | exact HI289.out | apply IsS67.alloc | apply IsS67.drewN | apply IsS67.drew | apply IsS67.set_0 | apply IsS67.set_1 | (apply IsS67.far; rotate_left; exact NB289_281.out; rotate_right)) | exact HI289.out))) : gb298 ≠ gb289)); clear BK281; clear HI289; clear HB; have BK281 := n0_; have HI289 := n1_; have HB := n2_; have BK298 := n3_; have GW298 := n4_; have GE298 := n5_; have NB281_298 := n6_; have NB298_281 := n7_; have NB289_298 := n8_; have NB298_289 := n9_; clear n0_ n1_ n2_ n3_ n4_ n5_ n6_ n7_ n8_ n9_; clear hb hbox hg; have hnb111 := NB298_281.out; have hnc111 := NB281_298.out; have hnb112 := NB298_289.out; have hnc112 := NB289_298.out; have hcz113_0 : w110.cell? ⟨gb298, 0, none⟩ = some (.int .i64 0) := (blk_cell BK298.out 0).trans rfl; have hcz113_1 : w110.cell? ⟨gb298, 1, none⟩ = some (.int .i64 0) := (blk_cell BK298.out 1).trans rfl; have hcz113_2 : w110.cell? ⟨gb298, 2, none⟩ = some (.int .i64 0) := (blk_cell BK298.out 2).trans rfl; have hcz113_3 : w110.cell? ⟨gb298, 3, none⟩ = some (.int .i64 0) := (blk_cell BK298.out 3).trans rfl; have hfz113_0 := blk_frozen BK298.out 0; have hfz113_1 := blk_frozen BK298.out 1; have hfz113_2 := blk_frozen BK298.out 2; have hfz113_3 := blk_frozen BK298.out 3) | ((with_reducible refine gate_callee (f := 10) rfl ?_); refine goesL_ (some 50) rfl rfl Try.func10 (by kernel_rfl) rfl #[.int .i64 t292, .int .i64 t293, .int .i64 t294] rfl (by (try simp only [List.map_toArray, List.map_cons, List.map_nil]); first | done | rfl | (simp only [List.length_drop, List.length_take]; rfl)) ?_; (with_reducible refine (date_Days.calls kj92 t292 t293 t294 t299 t300 _ A102.out).mono ?_); rintro e w' ⟨rfl, ⟨nd, rfl⟩⟩; refine ⟨_, rfl, ?_⟩; obtain ⟨HGz114, hgz114⟩ := HI289.out; have hcz114_0 := cellS67_0 HGz114; have hcz114_1 := cellS67_1 HGz114; have hfz114_0 := blk_frozen HGz114 0; have hfz114_1 := blk_frozen HGz114 1; clear HGz114 hgz114))
              go_roundg kj92
              case measure => have := HK1.out; have := HK2.out; have := HJ92.out; omega
              case rel => exact ⟨(wrap64 (x20_2 + 1)), (by first | rfl | (simp; done) | (simp [*]; done)), H', ⟨by have := HK1.out; have := HK2.out; have := HJ92.out; omega⟩, ⟨by (with_reducible repeat (first | refine blk_drewN ?_ _ | refine blk_drew ?_ | refine blk_alloc ?_ _)); refine blk_far ?_ NB281_298.out _; (with_reducible repeat (first | refine blk_drewN ?_ _ | refine blk_drew ?_ | refine blk_alloc ?_ _)); refine blk_far ?_ NB281_298.out _; (with_reducible repeat (first | refine blk_drewN ?_ _ | refine blk_drew ?_ | refine blk_alloc ?_ _)); refine blk_far ?_ NB281_298.out _; (with_reducible repeat (first | refine blk_drewN ?_ _ | refine blk_drew ?_ | refine blk_alloc ?_ _)); refine blk_far ?_ NB281_298.out _; (with_reducible repeat (first | refine blk_drewN ?_ _ | refine blk_drew ?_ | refine blk_alloc ?_ _)); exact BK281.out⟩, ⟨by repeat (first | (with_reducible first | exact HB.out | apply below_alloc | apply pw_below_drewN | apply below_drew1 | refine below_set ?_ (IsS67.ge HI289.out) | refine below_set ?_ GE281.out | refine below_set ?_ GE298.out) | exact HB.out)⟩⟩
             ·replace c103 := Bool.eq_false_iff.mpr c103
              subst c103
              have H1 : (if t296.toList = ([] : List UInt8) then (if t300 = 0 then ((date_Weekday.f t299).bind fun t301 => (if t301 = x20_2 then (some (wrap64 ((wrap64 (t299 * 86400)) + t295), 0)) else (date_Parse.l2 kj92 a0 x16_1 (wrap64 (x20_2 + 1)) false true false t282 t283 t284 t285 t286 t287 t288 true))) else (date_Parse.l2 kj92 a0 x16_1 (wrap64 (x20_2 + 1)) false true false t282 t283 t284 t285 t286 t287 t288 true)) else (date_Parse.l2 kj92 a0 x16_1 (wrap64 (x20_2 + 1)) false true false t282 t283 t284 t285 t286 t287 t288 true)) = some (r1, r2) := by rw [if_neg (show ¬ (false = true) by decide)] at H; exact H
              clear H
              have H := H1
              clear H1
              by_cases c115 : t296.toList = ([] : List UInt8)
              ·rw [if_pos c115] at H
               have c115b0 : (t296.toList == ([] : List UInt8)) = true := beq_iff_eq.mpr c115
               have c115b1 : (t296.toList != ([] : List UInt8)) = false := bne_eq_false_iff_eq.mpr c115
               clear c115
               by_cases c116 : t300 = 0
               ·rw [if_pos c116] at H
                have c116b0 : (t300 == 0) = true := beq_iff_eq.mpr c116
                have c116b1 : (t300 != 0) = false := bne_eq_false_iff_eq.mpr c116
                clear c116
                replace H := Option.bind_eq_some_iff.mp H
                obtain ⟨t301, A1170, H⟩ := H
                have A117 := Aside0.mk A1170
                clear A1170
                by_cases c118 : t301 = x20_2
                ·rw [if_pos c118] at H
                 have c118b0 : (t301 == x20_2) = true := beq_iff_eq.mpr c118
                 have c118b1 : (t301 != x20_2) = false := bne_eq_false_iff_eq.mpr c118
                 clear c118
                 simp only [Option.some.injEq, Prod.mk.injEq] at H
                 obtain ⟨rfl, rfl⟩ := H
                 go_wp2_with (first | ((with_reducible refine gate_dst (N := 31) rfl ?_); refine box_event ?hg (N := 31) ?hd (cs := #[.string a0, .bool false]) (t := 67) ?hr ?_; (case hd => rfl); (case hg => rfl); (case hr => first | (go_simp; done) | (go_simp; rfl)); intro gb289 hg w119 hbox hb; have n0_ := Aside0.mk (blk_below (g := gb281) (o := .cells #[.bool true, .func (.func 42) #[] #[]] 63 (0, 0)) (by (with_reducible repeat (first | refine blk_drewN ?_ _ | refine blk_drew ?_ | refine blk_alloc ?_ _)); exact BK281.out) hb); have n1_ := Aside0.mk (below_step (by repeat (first | (with_reducible first | exact HB.out | apply below_alloc | apply pw_below_drewN | apply below_drew1 | refine below_set ?_ GE281.out) | exact HB.out)) hb); have n2_ := Aside0.mk ((show IsS67 w w119 gb289 a0 false from ⟨hbox, (by rw [hg]; exact (below_size (by repeat (first | (with_reducible first | exact HB.out | apply below_alloc | apply pw_below_drewN | apply below_drew1 | refine below_set ?_ GE281.out) | exact HB.out))))⟩)); have n3_ := Aside0.mk ((by rw [hg]; exact (below_size (by repeat (first | (with_reducible first | exact HB.out | apply below_alloc | apply pw_below_drewN | apply below_drew1 | refine below_set ?_ GE281.out) | exact HB.out))) : w.heap.size ≤ gb289)); have n4_ := Aside0.mk ((by rw [hg]; exact (below_size (by repeat (first | (with_reducible first | exact HB.out | apply below_alloc | apply pw_below_drewN | apply below_drew1 | refine below_set ?_ GE281.out) | exact HB.out))) : w.heap.size ≤ gb289)); have n5_ := Aside0.mk ((by rw [hg]; exact Nat.ne_of_lt (blk_lt (g := gb281) (o := .cells #[.bool true, .func (.func 42) #[] #[]] 63 (0, 0)) (by (with_reducible repeat (first | refine blk_drewN ?_ _ | refine blk_drew ?_ | refine blk_alloc ?_ _)); exact BK281.out)) : gb281 ≠ gb289)); have n6_ := Aside0.mk ((by rw [hg]; exact Nat.ne_of_gt (blk_lt (g := gb281) (o := .cells #[.bool true, .func (.func 42) #[] #[]] 63 (0, 0)) (by (with_reducible repeat (first | refine blk_drewN ?_ _ | refine blk_drew ?_ | refine blk_alloc ?_ _)); exact BK281.out)) : gb289 ≠ gb281)); clear BK281; clear HB; have BK281 := n0_; have HB := n1_; have HI289 := n2_; have GW289 := n3_; have GE289 := n4_; have NB281_289 := n5_; have NB289_281 := n6_; clear n0_ n1_ n2_ n3_ n4_ n5_ n6_; clear hb hbox hg) | ((with_reducible refine gate_callee (f := 44) rfl ?_); refine goesL_ (some 34) rfl rfl Try.func44 (by kernel_rfl) rfl #[.pointer (some ⟨gb289, 0, none⟩), .string x7_92] rfl (by (try simp only [List.map_toArray, List.map_cons, List.map_nil]); first | done | rfl | (simp only [List.length_drop, List.length_take]; rfl)) ?_; (with_reducible refine (date_scan_word.calls gb289 a0 false x7_92 t290 false w _ ?side1 ?side2 A96.out).mono ?_); (case side1 => repeat (first | (with_reducible first | exact HI289.out | apply IsS67.alloc | apply IsS67.drewN | apply IsS67.drew | apply IsS67.set_0 | apply IsS67.set_1 | (apply IsS67.far; rotate_left; exact NB289_281.out; rotate_right)) | exact HI289.out)); (case side2 => repeat (first | (with_reducible first | exact HB.out | apply below_alloc | apply pw_below_drewN | apply below_drew1 | refine below_set ?_ (IsS67.ge HI289.out) | refine below_set ?_ GE281.out) | exact HB.out)); rintro e w120 ⟨rfl, hi, hb, hk⟩; refine ⟨_, rfl, ?_⟩; have n0_ := Aside0.mk (KeepBut.blk hk (g' := gb281) (o := .cells #[.bool true, .func (.func 42) #[] #[]] 63 (0, 0)) (by (with_reducible repeat (first | refine blk_drewN ?_ _ | refine blk_drew ?_ | refine blk_alloc ?_ _)); exact BK281.out) NB281_289.out (by simp)); have n1_ := Aside0.mk (hb); have n2_ := Aside0.mk (hi); clear BK281; clear HB; clear HI289; have BK281 := n0_; have HB := n1_; have HI289 := n2_; clear n0_ n1_ n2_; (try clear hb); (try clear hb2); (try clear hk); (try clear hi); obtain ⟨HGz121, hgz121⟩ := HI289.out; have hcz121_0 := cellS67_0 HGz121; have hcz121_1 := cellS67_1 HGz121; have hfz121_0 := blk_frozen HGz121 0; have hfz121_1 := blk_frozen HGz121 1; clear HGz121 hgz121; have hnb122 := NB281_289.out; have hnc122 := NB289_281.out; have hcz123_0 : w120.cell? ⟨gb281, 0, none⟩ = some (.bool true) := (blk_cell BK281.out 0).trans rfl; have hcz123_1 : w120.cell? ⟨gb281, 1, none⟩ = some (.func (.func 42) #[] #[]) := (blk_cell BK281.out 1).trans rfl; have hfz123_0 := blk_frozen BK281.out 0; have hfz123_1 := blk_frozen BK281.out 1) | ((with_reducible refine gate_calleeV (x := .tmp 40) rfl ?_); refine goesV_ (.tmp 40) (some 42) rfl rfl Try.func42 (by kernel_rfl) rfl #[.pointer (some ⟨gb289, 0, none⟩)] rfl rfl (by (try simp only [List.map_toArray, List.map_cons, List.map_nil]); first | done | rfl) ?_; (with_reducible refine (date_second.calls kj92 gb289 t290 false t292 t293 t294 t295 t296 false w _ ?side1 ?side2 A101.out).mono ?_); (case side1 => repeat (first | (with_reducible first | exact HI289.out | apply IsS67.alloc | apply IsS67.drewN | apply IsS67.drew | apply IsS67.set_0 | apply IsS67.set_1 | (apply IsS67.far; rotate_left; exact NB289_281.out; rotate_right)) | exact HI289.out)); (case side2 => repeat (first | (with_reducible first | exact HB.out | apply below_alloc | apply pw_below_drewN | apply below_drew1 | refine below_set ?_ (IsS67.ge HI289.out) | refine below_set ?_ GE281.out) | exact HB.out)); rintro e w124 ⟨rfl, hi, hb, hk⟩; refine ⟨_, rfl, ?_⟩; have n0_ := Aside0.mk (KeepBut.blk hk (g' := gb281) (o := .cells #[.bool true, .func (.func 42) #[] #[]] 63 (0, 0)) (by (with_reducible repeat (first | refine blk_drewN ?_ _ | refine blk_drew ?_ | refine blk_alloc ?_ _)); exact BK281.out) NB281_289.out (by simp)); have n1_ := Aside0.mk (hb); have n2_ := Aside0.mk (hi); clear BK281; clear HB; clear HI289; have BK281 := n0_; have HB := n1_; have HI289 := n2_; clear n0_ n1_ n2_; (try clear hb); (try clear hb2); (try clear hk); (try clear hi)) | ((with_reducible refine gate_dst (N := 9) rfl ?_); refine box_event ?hg (N := 9) ?hd (cs := #[.int .i64 0, .int .i64 0, .int .i64 0, .int .i64 0]) (t := 70) ?hr ?_; (case hd => rfl); (case hg => rfl); (case hr => first | (go_simp; done) | (go_simp; rfl)); intro gb298 hg w125 hbox hb; have n0_ := Aside0.mk (blk_below (g := gb281) (o := .cells #[.bool true, .func (.func 42) #[] #[]] 63 (0, 0)) (by (with_reducible repeat (first | refine blk_drewN ?_ _ | refine blk_drew ?_ | refine blk_alloc ?_ _)); exact BK281.out) hb); have n1_ := Aside0.mk (IsS67.below (by repeat (first | (with_reducible first | exact HI289.out | apply IsS67.alloc | apply IsS67.drewN | apply IsS67.drew | apply IsS67.set_0 | apply IsS67.set_1 | (apply IsS67.far; rotate_left; exact NB289_281.out; rotate_right)) | exact HI289.out)) hb); have n2_ := Aside0.mk (below_step (by repeat (first | (with_reducible first | exact HB.out | apply below_alloc | apply pw_below_drewN | apply below_drew1 | refine below_set ?_ (IsS67.ge HI289.out) | refine below_set ?_ GE281.out) | exact HB.out)) hb); have n3_ := Aside0.mk (hbox); have n4_ := Aside0.mk ((by rw [hg]; exact (below_size (by repeat (first | (with_reducible first | exact HB.out | apply below_alloc | apply pw_below_drewN | apply below_drew1 | refine below_set ?_ (IsS67.ge HI289.out) | refine below_set ?_ GE281.out) | exact HB.out))) : w.heap.size ≤ gb298)); have n5_ := Aside0.mk ((by rw [hg]; exact (below_size (by repeat (first | (with_reducible first | exact HB.out | apply below_alloc | apply pw_below_drewN | apply below_drew1 | refine below_set ?_ (IsS67.ge HI289.out) | refine below_set ?_ GE281.out) | exact HB.out))) : w.heap.size ≤ gb298)); have n6_ := Aside0.mk ((by rw [hg]; exact Nat.ne_of_lt (blk_lt (g := gb281) (o := .cells #[.bool true, .func (.func 42) #[] #[]] 63 (0, 0)) (by (with_reducible repeat (first | refine blk_drewN ?_ _ | refine blk_drew ?_ | refine blk_alloc ?_ _)); exact BK281.out)) : gb281 ≠ gb298)); have n7_ := Aside0.mk ((by rw [hg]; exact Nat.ne_of_gt (blk_lt (g := gb281) (o := .cells #[.bool true, .func (.func 42) #[] #[]] 63 (0, 0)) (by (with_reducible repeat (first | refine blk_drewN ?_ _ | refine blk_drew ?_ | refine blk_alloc ?_ _)); exact BK281.out)) : gb298 ≠ gb281)); have n8_ := Aside0.mk ((by rw [hg]; exact Nat.ne_of_lt (IsS67.lt (show IsS67 w _ gb289 t296 false from by repeat (first | (with_reducible first | exact HI289.out | apply IsS67.alloc | apply IsS67.drewN | apply IsS67.drew | apply IsS67.set_0 | apply IsS67.set_1 | (apply IsS67.far; rotate_left; exact NB289_281.out; rotate_right)) | exact HI289.out))) : gb289 ≠ gb298)); have n9_ := Aside0.mk ((by rw [hg]; exact Nat.ne_of_gt (IsS67.lt (show IsS67 w _ gb289 t296 false from by repeat (first | (with_reducible first | exact HI289.out | apply IsS67.alloc | apply IsS67.drewN | apply IsS67.drew | apply IsS67.set_0 | apply IsS67.set_1 | (apply IsS67.far; rotate_left; exact NB289_281.out; rotate_right)) | exact HI289.out))) : gb298 ≠ gb289)); clear BK281; clear HI289; clear HB; have BK281 := n0_; have HI289 := n1_; have HB := n2_; have BK298 := n3_; have GW298 := n4_; have GE298 := n5_; have NB281_298 := n6_; have NB298_281 := n7_; have NB289_298 := n8_; have NB298_289 := n9_; clear n0_ n1_ n2_ n3_ n4_ n5_ n6_ n7_ n8_ n9_; clear hb hbox hg; have hnb126 := NB298_281.out; have hnc126 := NB281_298.out; have hnb127 := NB298_289.out; have hnc127 := NB289_298.out; have hcz128_0 : w125.cell? ⟨gb298, 0, none⟩ = some (.int .i64 0) := (blk_cell BK298.out 0).trans rfl; have hcz128_1 : w125.cell? ⟨gb298, 1, none⟩ = some (.int .i64 0) := (blk_cell BK298.out 1).trans rfl; have hcz128_2 : w125.cell? ⟨gb298, 2, none⟩ = some (.int .i64 0) := (blk_cell BK298.out 2).trans rfl; have hcz128_3 : w125.cell? ⟨gb298, 3, none⟩ = some (.int .i64 0) := (blk_cell BK298.out 3).trans rfl; have hfz128_0 := blk_frozen BK298.out 0; have hfz128_1 := blk_frozen BK298.out 1; have hfz128_2 := blk_frozen BK298.out 2; have hfz128_3 := blk_frozen BK298.out 3) | ((with_reducible refine gate_callee (f := 10) rfl ?_); refine goesL_ (some 50) rfl rfl Try.func10 (by kernel_rfl) rfl #[.int .i64 t292, .int .i64 t293, .int .i64 t294] rfl (by (try simp only [List.map_toArray, List.map_cons, List.map_nil]); first | done | rfl | (simp only [List.length_drop, List.length_take]; rfl)) ?_; (with_reducible refine (date_Days.calls kj92 t292 t293 t294 t299 t300 _ A102.out).mono ?_); rintro e w' ⟨rfl, ⟨nd, rfl⟩⟩; refine ⟨_, rfl, ?_⟩; obtain ⟨HGz129, hgz129⟩ := HI289.out; have hcz129_0 := cellS67_0 HGz129; have hcz129_1 := cellS67_1 HGz129; have hfz129_0 := blk_frozen HGz129 0; have hfz129_1 := blk_frozen HGz129 1; clear HGz129 hgz129) | (go_at_call 16; (with_reducible refine (date_Weekday.calls t299 t301 _ A117.out).mono ?_); rintro e w' ⟨rfl, ⟨nd, rfl⟩⟩))
                 go_ret2
                 exact ⟨by first | rfl | (simp [errW_none, errW_some] <;> rfl) | (simp [*, errW_none, errW_some] <;> rfl), by repeat (first | (with_reducible first | exact HB.out | apply below_alloc | apply pw_below_drewN | apply below_drew1 | refine below_set ?_ (IsS67.ge HI289.out) | refine below_set ?_ GE281.out | refine below_set ?_ GE298.out) | exact HB.out)⟩
                ·rw [if_neg c118] at H
                 have c118b0 : (t301 == x20_2) = false := beq_eq_false_iff_ne.mpr c118
                 have c118b1 : (t301 != x20_2) = true := bne_iff_ne.mpr c118
                 have H' := Aside0.mk H
                 clear H
                 go_wp2_with (first | ((with_reducible refine gate_dst (N := 31) rfl ?_); refine box_event ?hg (N := 31) ?hd (cs := #[.string a0, .bool false]) (t := 67) ?hr ?_; (case hd => rfl); (case hg => rfl); (case hr => first | (go_simp; done) | (go_simp; rfl)); intro gb289 hg w130 hbox hb; have n0_ := Aside0.mk (blk_below (g := gb281) (o := .cells #[.bool true, .func (.func 42) #[] #[]] 63 (0, 0)) (by (with_reducible repeat (first | refine blk_drewN ?_ _ | refine blk_drew ?_ | refine blk_alloc ?_ _)); exact BK281.out) hb); have n1_ := Aside0.mk (below_step (by repeat (first | (with_reducible first | exact HB.out | apply below_alloc | apply pw_below_drewN | apply below_drew1 | refine below_set ?_ GE281.out) | exact HB.out)) hb); have n2_ := Aside0.mk ((show IsS67 w w130 gb289 a0 false from ⟨hbox, (by rw [hg]; exact (below_size (by repeat (first | (with_reducible first | exact HB.out | apply below_alloc | apply pw_below_drewN | apply below_drew1 | refine below_set ?_ GE281.out) | exact HB.out))))⟩)); have n3_ := Aside0.mk ((by rw [hg]; exact (below_size (by repeat (first | (with_reducible first | exact HB.out | apply below_alloc | apply pw_below_drewN | apply below_drew1 | refine below_set ?_ GE281.out) | exact HB.out))) : w.heap.size ≤ gb289)); have n4_ := Aside0.mk ((by rw [hg]; exact (below_size (by repeat (first | (with_reducible first | exact HB.out | apply below_alloc | apply pw_below_drewN | apply below_drew1 | refine below_set ?_ GE281.out) | exact HB.out))) : w.heap.size ≤ gb289)); have n5_ := Aside0.mk ((by rw [hg]; exact Nat.ne_of_lt (blk_lt (g := gb281) (o := .cells #[.bool true, .func (.func 42) #[] #[]] 63 (0, 0)) (by (with_reducible repeat (first | refine blk_drewN ?_ _ | refine blk_drew ?_ | refine blk_alloc ?_ _)); exact BK281.out)) : gb281 ≠ gb289)); have n6_ := Aside0.mk ((by rw [hg]; exact Nat.ne_of_gt (blk_lt (g := gb281) (o := .cells #[.bool true, .func (.func 42) #[] #[]] 63 (0, 0)) (by (with_reducible repeat (first | refine blk_drewN ?_ _ | refine blk_drew ?_ | refine blk_alloc ?_ _)); exact BK281.out)) : gb289 ≠ gb281)); clear BK281; clear HB; have BK281 := n0_; have HB := n1_; have HI289 := n2_; have GW289 := n3_; have GE289 := n4_; have NB281_289 := n5_; have NB289_281 := n6_; clear n0_ n1_ n2_ n3_ n4_ n5_ n6_; clear hb hbox hg) | ((with_reducible refine gate_callee (f := 44) rfl ?_); refine goesL_ (some 34) rfl rfl Try.func44 (by kernel_rfl) rfl #[.pointer (some ⟨gb289, 0, none⟩), .string x7_92] rfl (by (try simp only [List.map_toArray, List.map_cons, List.map_nil]); first | done | rfl | (simp only [List.length_drop, List.length_take]; rfl)) ?_; (with_reducible refine (date_scan_word.calls gb289 a0 false x7_92 t290 false w _ ?side1 ?side2 A96.out).mono ?_); (case side1 => repeat (first | (with_reducible first | exact HI289.out | apply IsS67.alloc | apply IsS67.drewN | apply IsS67.drew | apply IsS67.set_0 | apply IsS67.set_1 | (apply IsS67.far; rotate_left; exact NB289_281.out; rotate_right)) | exact HI289.out)); (case side2 => repeat (first | (with_reducible first | exact HB.out | apply below_alloc | apply pw_below_drewN | apply below_drew1 | refine below_set ?_ (IsS67.ge HI289.out) | refine below_set ?_ GE281.out) | exact HB.out)); rintro e w131 ⟨rfl, hi, hb, hk⟩; refine ⟨_, rfl, ?_⟩; have n0_ := Aside0.mk (KeepBut.blk hk (g' := gb281) (o := .cells #[.bool true, .func (.func 42) #[] #[]] 63 (0, 0)) (by (with_reducible repeat (first | refine blk_drewN ?_ _ | refine blk_drew ?_ | refine blk_alloc ?_ _)); exact BK281.out) NB281_289.out (by simp)); have n1_ := Aside0.mk (hb); have n2_ := Aside0.mk (hi); clear BK281; clear HB; clear HI289; have BK281 := n0_; have HB := n1_; have HI289 := n2_; clear n0_ n1_ n2_; (try clear hb); (try clear hb2); (try clear hk); (try clear hi); obtain ⟨HGz132, hgz132⟩ := HI289.out; have hcz132_0 := cellS67_0 HGz132; have hcz132_1 := cellS67_1 HGz132; have hfz132_0 := blk_frozen HGz132 0; have hfz132_1 := blk_frozen HGz132 1; clear HGz132 hgz132; have hnb133 := NB281_289.out; have hnc133 := NB289_281.out; have hcz134_0 : w131.cell? ⟨gb281, 0, none⟩ = some (.bool true) := (blk_cell BK281.out 0).trans rfl; have hcz134_1 : w131.cell? ⟨gb281, 1, none⟩ = some (.func (.func 42) #[] #[]) := (blk_cell BK281.out 1).trans rfl; have hfz134_0 := blk_frozen BK281.out 0; have hfz134_1 := blk_frozen BK281.out 1) | ((with_reducible refine gate_calleeV (x := .tmp 40) rfl ?_); refine goesV_ (.tmp 40) (some 42) rfl rfl Try.func42 (by kernel_rfl) rfl #[.pointer (some ⟨gb289, 0, none⟩)] rfl rfl (by (try simp only [List.map_toArray, List.map_cons, List.map_nil]); first | done | rfl) ?_; (with_reducible refine (date_second.calls kj92 gb289 t290 false t292 t293 t294 t295 t296 false w _ ?side1 ?side2 A101.out).mono ?_); (case side1 => repeat (first | (with_reducible first | exact HI289.out | apply IsS67.alloc | apply IsS67.drewN | apply IsS67.drew | apply IsS67.set_0 | apply IsS67.set_1 | (apply IsS67.far; rotate_left; exact NB289_281.out; rotate_right)) | exact HI289.out)); (case side2 => repeat (first | (with_reducible first | exact HB.out | apply below_alloc | apply pw_below_drewN | apply below_drew1 | refine below_set ?_ (IsS67.ge HI289.out) | refine below_set ?_ GE281.out) | exact HB.out)); rintro e w135 ⟨rfl, hi, hb, hk⟩; refine ⟨_, rfl, ?_⟩; have n0_ := Aside0.mk (KeepBut.blk hk (g' := gb281) (o := .cells #[.bool true, .func (.func 42) #[] #[]] 63 (0, 0)) (by (with_reducible repeat (first | refine blk_drewN ?_ _ | refine blk_drew ?_ | refine blk_alloc ?_ _)); exact BK281.out) NB281_289.out (by simp)); have n1_ := Aside0.mk (hb); have n2_ := Aside0.mk (hi); clear BK281; clear HB; clear HI289; have BK281 := n0_; have HB := n1_; have HI289 := n2_; clear n0_ n1_ n2_; (try clear hb); (try clear hb2); (try clear hk); (try clear hi)) | ((with_reducible refine gate_dst (N := 9) rfl ?_); refine box_event ?hg (N := 9) ?hd (cs := #[.int .i64 0, .int .i64 0, .int .i64 0, .int .i64 0]) (t := 70) ?hr ?_; (case hd => rfl); (case hg => rfl); (case hr => first | (go_simp; done) | (go_simp; rfl)); intro gb298 hg w136 hbox hb; have n0_ := Aside0.mk (blk_below (g := gb281) (o := .cells #[.bool true, .func (.func 42) #[] #[]] 63 (0, 0)) (by (with_reducible repeat (first | refine blk_drewN ?_ _ | refine blk_drew ?_ | refine blk_alloc ?_ _)); exact BK281.out) hb); have n1_ := Aside0.mk (IsS67.below (by repeat (first | (with_reducible first | exact HI289.out | apply IsS67.alloc | apply IsS67.drewN | apply IsS67.drew | apply IsS67.set_0 | apply IsS67.set_1 | (apply IsS67.far; rotate_left; exact NB289_281.out; rotate_right)) | exact HI289.out)) hb); have n2_ := Aside0.mk (below_step (by repeat (first | (with_reducible first | exact HB.out | apply below_alloc | apply pw_below_drewN | apply below_drew1 | refine below_set ?_ (IsS67.ge HI289.out) | refine below_set ?_ GE281.out) | exact HB.out)) hb); have n3_ := Aside0.mk (hbox); have n4_ := Aside0.mk ((by rw [hg]; exact (below_size (by repeat (first | (with_reducible first | exact HB.out | apply below_alloc | apply pw_below_drewN | apply below_drew1 | refine below_set ?_ (IsS67.ge HI289.out) | refine below_set ?_ GE281.out) | exact HB.out))) : w.heap.size ≤ gb298)); have n5_ := Aside0.mk ((by rw [hg]; exact (below_size (by repeat (first | (with_reducible first | exact HB.out | apply below_alloc | apply pw_below_drewN | apply below_drew1 | refine below_set ?_ (IsS67.ge HI289.out) | refine below_set ?_ GE281.out) | exact HB.out))) : w.heap.size ≤ gb298)); have n6_ := Aside0.mk ((by rw [hg]; exact Nat.ne_of_lt (blk_lt (g := gb281) (o := .cells #[.bool true, .func (.func 42) #[] #[]] 63 (0, 0)) (by (with_reducible repeat (first | refine blk_drewN ?_ _ | refine blk_drew ?_ | refine blk_alloc ?_ _)); exact BK281.out)) : gb281 ≠ gb298)); have n7_ := Aside0.mk ((by rw [hg]; exact Nat.ne_of_gt (blk_lt (g := gb281) (o := .cells #[.bool true, .func (.func 42) #[] #[]] 63 (0, 0)) (by (with_reducible repeat (first | refine blk_drewN ?_ _ | refine blk_drew ?_ | refine blk_alloc ?_ _)); exact BK281.out)) : gb298 ≠ gb281)); have n8_ := Aside0.mk ((by rw [hg]; exact Nat.ne_of_lt (IsS67.lt (show IsS67 w _ gb289 t296 false from by repeat (first | (with_reducible first | exact HI289.out | apply IsS67.alloc | apply IsS67.drewN | apply IsS67.drew | apply IsS67.set_0 | apply IsS67.set_1 | (apply IsS67.far; rotate_left; exact NB289_281.out; rotate_right)) | exact HI289.out))) : gb289 ≠ gb298)); have n9_ := Aside0.mk ((by rw [hg]; exact Nat.ne_of_gt (IsS67.lt (show IsS67 w _ gb289 t296 false from by repeat (first | (with_reducible first | exact HI289.out | apply IsS67.alloc | apply IsS67.drewN | apply IsS67.drew | apply IsS67.set_0 | apply IsS67.set_1 | (apply IsS67.far; rotate_left; exact NB289_281.out; rotate_right)) | exact HI289.out))) : gb298 ≠ gb289)); clear BK281; clear HI289; clear HB; have BK281 := n0_; have HI289 := n1_; have HB := n2_; have BK298 := n3_; have GW298 := n4_; have GE298 := n5_; have NB281_298 := n6_; have NB298_281 := n7_; have NB289_298 := n8_; have NB298_289 := n9_; clear n0_ n1_ n2_ n3_ n4_ n5_ n6_ n7_ n8_ n9_; clear hb hbox hg; have hnb137 := NB298_281.out; have hnc137 := NB281_298.out; have hnb138 := NB298_289.out; have hnc138 := NB289_298.out; have hcz139_0 : w136.cell? ⟨gb298, 0, none⟩ = some (.int .i64 0) := (blk_cell BK298.out 0).trans rfl; have hcz139_1 : w136.cell? ⟨gb298, 1, none⟩ = some (.int .i64 0) := (blk_cell BK298.out 1).trans rfl; have hcz139_2 : w136.cell? ⟨gb298, 2, none⟩ = some (.int .i64 0) := (blk_cell BK298.out 2).trans rfl; have hcz139_3 : w136.cell? ⟨gb298, 3, none⟩ = some (.int .i64 0) := (blk_cell BK298.out 3).trans rfl; have hfz139_0 := blk_frozen BK298.out 0; have hfz139_1 := blk_frozen BK298.out 1; have hfz139_2 := blk_frozen BK298.out 2; have hfz139_3 := blk_frozen BK298.out 3) | ((with_reducible refine gate_callee (f := 10) rfl ?_); refine goesL_ (some 50) rfl rfl Try.func10 (by kernel_rfl) rfl #[.int .i64 t292, .int .i64 t293, .int .i64 t294] rfl (by (try simp only [List.map_toArray, List.map_cons, List.map_nil]); first | done | rfl | (simp only [List.length_drop, List.length_take]; rfl)) ?_; (with_reducible refine (date_Days.calls kj92 t292 t293 t294 t299 t300 _ A102.out).mono ?_); rintro e w' ⟨rfl, ⟨nd, rfl⟩⟩; refine ⟨_, rfl, ?_⟩; obtain ⟨HGz140, hgz140⟩ := HI289.out; have hcz140_0 := cellS67_0 HGz140; have hcz140_1 := cellS67_1 HGz140; have hfz140_0 := blk_frozen HGz140 0; have hfz140_1 := blk_frozen HGz140 1; clear HGz140 hgz140) | (go_at_call 16; (with_reducible refine (date_Weekday.calls t299 t301 _ A117.out).mono ?_); rintro e w' ⟨rfl, ⟨nd, rfl⟩⟩))
                 go_roundg kj92
                 case measure => have := HK1.out; have := HK2.out; have := HJ92.out; omega
                 case rel => exact ⟨(wrap64 (x20_2 + 1)), (by first | rfl | (simp; done) | (simp [*]; done)), H', ⟨by have := HK1.out; have := HK2.out; have := HJ92.out; omega⟩, ⟨by (with_reducible repeat (first | refine blk_drewN ?_ _ | refine blk_drew ?_ | refine blk_alloc ?_ _)); refine blk_far ?_ NB281_298.out _; (with_reducible repeat (first | refine blk_drewN ?_ _ | refine blk_drew ?_ | refine blk_alloc ?_ _)); refine blk_far ?_ NB281_298.out _; (with_reducible repeat (first | refine blk_drewN ?_ _ | refine blk_drew ?_ | refine blk_alloc ?_ _)); refine blk_far ?_ NB281_298.out _; (with_reducible repeat (first | refine blk_drewN ?_ _ | refine blk_drew ?_ | refine blk_alloc ?_ _)); refine blk_far ?_ NB281_298.out _; (with_reducible repeat (first | refine blk_drewN ?_ _ | refine blk_drew ?_ | refine blk_alloc ?_ _)); exact BK281.out⟩, ⟨by repeat (first | (with_reducible first | exact HB.out | apply below_alloc | apply pw_below_drewN | apply below_drew1 | refine below_set ?_ (IsS67.ge HI289.out) | refine below_set ?_ GE281.out | refine below_set ?_ GE298.out) | exact HB.out)⟩⟩
               ·rw [if_neg c116] at H
                have c116b0 : (t300 == 0) = false := beq_eq_false_iff_ne.mpr c116
                have c116b1 : (t300 != 0) = true := bne_iff_ne.mpr c116
                have H' := Aside0.mk H
                clear H
                go_wp2_with (first | ((with_reducible refine gate_dst (N := 31) rfl ?_); refine box_event ?hg (N := 31) ?hd (cs := #[.string a0, .bool false]) (t := 67) ?hr ?_; (case hd => rfl); (case hg => rfl); (case hr => first | (go_simp; done) | (go_simp; rfl)); intro gb289 hg w141 hbox hb; have n0_ := Aside0.mk (blk_below (g := gb281) (o := .cells #[.bool true, .func (.func 42) #[] #[]] 63 (0, 0)) (by (with_reducible repeat (first | refine blk_drewN ?_ _ | refine blk_drew ?_ | refine blk_alloc ?_ _)); exact BK281.out) hb); have n1_ := Aside0.mk (below_step (by repeat (first | (with_reducible first | exact HB.out | apply below_alloc | apply pw_below_drewN | apply below_drew1 | refine below_set ?_ GE281.out) | exact HB.out)) hb); have n2_ := Aside0.mk ((show IsS67 w w141 gb289 a0 false from ⟨hbox, (by rw [hg]; exact (below_size (by repeat (first | (with_reducible first | exact HB.out | apply below_alloc | apply pw_below_drewN | apply below_drew1 | refine below_set ?_ GE281.out) | exact HB.out))))⟩)); have n3_ := Aside0.mk ((by rw [hg]; exact (below_size (by repeat (first | (with_reducible first | exact HB.out | apply below_alloc | apply pw_below_drewN | apply below_drew1 | refine below_set ?_ GE281.out) | exact HB.out))) : w.heap.size ≤ gb289)); have n4_ := Aside0.mk ((by rw [hg]; exact (below_size (by repeat (first | (with_reducible first | exact HB.out | apply below_alloc | apply pw_below_drewN | apply below_drew1 | refine below_set ?_ GE281.out) | exact HB.out))) : w.heap.size ≤ gb289)); have n5_ := Aside0.mk ((by rw [hg]; exact Nat.ne_of_lt (blk_lt (g := gb281) (o := .cells #[.bool true, .func (.func 42) #[] #[]] 63 (0, 0)) (by (with_reducible repeat (first | refine blk_drewN ?_ _ | refine blk_drew ?_ | refine blk_alloc ?_ _)); exact BK281.out)) : gb281 ≠ gb289)); have n6_ := Aside0.mk ((by rw [hg]; exact Nat.ne_of_gt (blk_lt (g := gb281) (o := .cells #[.bool true, .func (.func 42) #[] #[]] 63 (0, 0)) (by (with_reducible repeat (first | refine blk_drewN ?_ _ | refine blk_drew ?_ | refine blk_alloc ?_ _)); exact BK281.out)) : gb289 ≠ gb281)); clear BK281; clear HB; have BK281 := n0_; have HB := n1_; have HI289 := n2_; have GW289 := n3_; have GE289 := n4_; have NB281_289 := n5_; have NB289_281 := n6_; clear n0_ n1_ n2_ n3_ n4_ n5_ n6_; clear hb hbox hg) | ((with_reducible refine gate_callee (f := 44) rfl ?_); refine goesL_ (some 34) rfl rfl Try.func44 (by kernel_rfl) rfl #[.pointer (some ⟨gb289, 0, none⟩), .string x7_92] rfl (by (try simp only [List.map_toArray, List.map_cons, List.map_nil]); first | done | rfl | (simp only [List.length_drop, List.length_take]; rfl)) ?_; (with_reducible refine (date_scan_word.calls gb289 a0 false x7_92 t290 false w _ ?side1 ?side2 A96.out).mono ?_); (case side1 => repeat (first | (with_reducible first | exact HI289.out | apply IsS67.alloc | apply IsS67.drewN | apply IsS67.drew | apply IsS67.set_0 | apply IsS67.set_1 | (apply IsS67.far; rotate_left; exact NB289_281.out; rotate_right)) | exact HI289.out)); (case side2 => repeat (first | (with_reducible first | exact HB.out | apply below_alloc | apply pw_below_drewN | apply below_drew1 | refine below_set ?_ (IsS67.ge HI289.out) | refine below_set ?_ GE281.out) | exact HB.out)); rintro e w142 ⟨rfl, hi, hb, hk⟩; refine ⟨_, rfl, ?_⟩; have n0_ := Aside0.mk (KeepBut.blk hk (g' := gb281) (o := .cells #[.bool true, .func (.func 42) #[] #[]] 63 (0, 0)) (by (with_reducible repeat (first | refine blk_drewN ?_ _ | refine blk_drew ?_ | refine blk_alloc ?_ _)); exact BK281.out) NB281_289.out (by simp)); have n1_ := Aside0.mk (hb); have n2_ := Aside0.mk (hi); clear BK281; clear HB; clear HI289; have BK281 := n0_; have HB := n1_; have HI289 := n2_; clear n0_ n1_ n2_; (try clear hb); (try clear hb2); (try clear hk); (try clear hi); obtain ⟨HGz143, hgz143⟩ := HI289.out; have hcz143_0 := cellS67_0 HGz143; have hcz143_1 := cellS67_1 HGz143; have hfz143_0 := blk_frozen HGz143 0; have hfz143_1 := blk_frozen HGz143 1; clear HGz143 hgz143; have hnb144 := NB281_289.out; have hnc144 := NB289_281.out; have hcz145_0 : w142.cell? ⟨gb281, 0, none⟩ = some (.bool true) := (blk_cell BK281.out 0).trans rfl; have hcz145_1 : w142.cell? ⟨gb281, 1, none⟩ = some (.func (.func 42) #[] #[]) := (blk_cell BK281.out 1).trans rfl; have hfz145_0 := blk_frozen BK281.out 0; have hfz145_1 := blk_frozen BK281.out 1) | ((with_reducible refine gate_calleeV (x := .tmp 40) rfl ?_); refine goesV_ (.tmp 40) (some 42) rfl rfl Try.func42 (by kernel_rfl) rfl #[.pointer (some ⟨gb289, 0, none⟩)] rfl rfl (by (try simp only [List.map_toArray, List.map_cons, List.map_nil]); first | done | rfl) ?_; (with_reducible refine (date_second.calls kj92 gb289 t290 false t292 t293 t294 t295 t296 false w _ ?side1 ?side2 A101.out).mono ?_); (case side1 => repeat (first | (with_reducible first | exact HI289.out | apply IsS67.alloc | apply IsS67.drewN | apply IsS67.drew | apply IsS67.set_0 | apply IsS67.set_1 | (apply IsS67.far; rotate_left; exact NB289_281.out; rotate_right)) | exact HI289.out)); (case side2 => repeat (first | (with_reducible first | exact HB.out | apply below_alloc | apply pw_below_drewN | apply below_drew1 | refine below_set ?_ (IsS67.ge HI289.out) | refine below_set ?_ GE281.out) | exact HB.out)); rintro e w146 ⟨rfl, hi, hb, hk⟩; refine ⟨_, rfl, ?_⟩; have n0_ := Aside0.mk (KeepBut.blk hk (g' := gb281) (o := .cells #[.bool true, .func (.func 42) #[] #[]] 63 (0, 0)) (by (with_reducible repeat (first | refine blk_drewN ?_ _ | refine blk_drew ?_ | refine blk_alloc ?_ _)); exact BK281.out) NB281_289.out (by simp)); have n1_ := Aside0.mk (hb); have n2_ := Aside0.mk (hi); clear BK281; clear HB; clear HI289; have BK281 := n0_; have HB := n1_; have HI289 := n2_; clear n0_ n1_ n2_; (try clear hb); (try clear hb2); (try clear hk); (try clear hi)) | ((with_reducible refine gate_dst (N := 9) rfl ?_); refine box_event ?hg (N := 9) ?hd (cs := #[.int .i64 0, .int .i64 0, .int .i64 0, .int .i64 0]) (t := 70) ?hr ?_; (case hd => rfl); (case hg => rfl); (case hr => first | (go_simp; done) | (go_simp; rfl)); intro gb298 hg w147 hbox hb; have n0_ := Aside0.mk (blk_below (g := gb281) (o := .cells #[.bool true, .func (.func 42) #[] #[]] 63 (0, 0)) (by (with_reducible repeat (first | refine blk_drewN ?_ _ | refine blk_drew ?_ | refine blk_alloc ?_ _)); exact BK281.out) hb); have n1_ := Aside0.mk (IsS67.below (by repeat (first | (with_reducible first | exact HI289.out | apply IsS67.alloc | apply IsS67.drewN | apply IsS67.drew | apply IsS67.set_0 | apply IsS67.set_1 | (apply IsS67.far; rotate_left; exact NB289_281.out; rotate_right)) | exact HI289.out)) hb); have n2_ := Aside0.mk (below_step (by repeat (first | (with_reducible first | exact HB.out | apply below_alloc | apply pw_below_drewN | apply below_drew1 | refine below_set ?_ (IsS67.ge HI289.out) | refine below_set ?_ GE281.out) | exact HB.out)) hb); have n3_ := Aside0.mk (hbox); have n4_ := Aside0.mk ((by rw [hg]; exact (below_size (by repeat (first | (with_reducible first | exact HB.out | apply below_alloc | apply pw_below_drewN | apply below_drew1 | refine below_set ?_ (IsS67.ge HI289.out) | refine below_set ?_ GE281.out) | exact HB.out))) : w.heap.size ≤ gb298)); have n5_ := Aside0.mk ((by rw [hg]; exact (below_size (by repeat (first | (with_reducible first | exact HB.out | apply below_alloc | apply pw_below_drewN | apply below_drew1 | refine below_set ?_ (IsS67.ge HI289.out) | refine below_set ?_ GE281.out) | exact HB.out))) : w.heap.size ≤ gb298)); have n6_ := Aside0.mk ((by rw [hg]; exact Nat.ne_of_lt (blk_lt (g := gb281) (o := .cells #[.bool true, .func (.func 42) #[] #[]] 63 (0, 0)) (by (with_reducible repeat (first | refine blk_drewN ?_ _ | refine blk_drew ?_ | refine blk_alloc ?_ _)); exact BK281.out)) : gb281 ≠ gb298)); have n7_ := Aside0.mk ((by rw [hg]; exact Nat.ne_of_gt (blk_lt (g := gb281) (o := .cells #[.bool true, .func (.func 42) #[] #[]] 63 (0, 0)) (by (with_reducible repeat (first | refine blk_drewN ?_ _ | refine blk_drew ?_ | refine blk_alloc ?_ _)); exact BK281.out)) : gb298 ≠ gb281)); have n8_ := Aside0.mk ((by rw [hg]; exact Nat.ne_of_lt (IsS67.lt (show IsS67 w _ gb289 t296 false from by repeat (first | (with_reducible first | exact HI289.out | apply IsS67.alloc | apply IsS67.drewN | apply IsS67.drew | apply IsS67.set_0 | apply IsS67.set_1 | (apply IsS67.far; rotate_left; exact NB289_281.out; rotate_right)) | exact HI289.out))) : gb289 ≠ gb298)); have n9_ := Aside0.mk ((by rw [hg]; exact Nat.ne_of_gt (IsS67.lt (show IsS67 w _ gb289 t296 false from by repeat (first | (with_reducible first | exact HI289.out | apply IsS67.alloc | apply IsS67.drewN | apply IsS67.drew | apply IsS67.set_0 | apply IsS67.set_1 | (apply IsS67.far; rotate_left; exact NB289_281.out; rotate_right)) | exact HI289.out))) : gb298 ≠ gb289)); clear BK281; clear HI289; clear HB; have BK281 := n0_; have HI289 := n1_; have HB := n2_; have BK298 := n3_; have GW298 := n4_; have GE298 := n5_; have NB281_298 := n6_; have NB298_281 := n7_; have NB289_298 := n8_; have NB298_289 := n9_; clear n0_ n1_ n2_ n3_ n4_ n5_ n6_ n7_ n8_ n9_; clear hb hbox hg; have hnb148 := NB298_281.out; have hnc148 := NB281_298.out; have hnb149 := NB298_289.out; have hnc149 := NB289_298.out; have hcz150_0 : w147.cell? ⟨gb298, 0, none⟩ = some (.int .i64 0) := (blk_cell BK298.out 0).trans rfl; have hcz150_1 : w147.cell? ⟨gb298, 1, none⟩ = some (.int .i64 0) := (blk_cell BK298.out 1).trans rfl; have hcz150_2 : w147.cell? ⟨gb298, 2, none⟩ = some (.int .i64 0) := (blk_cell BK298.out 2).trans rfl; have hcz150_3 : w147.cell? ⟨gb298, 3, none⟩ = some (.int .i64 0) := (blk_cell BK298.out 3).trans rfl; have hfz150_0 := blk_frozen BK298.out 0; have hfz150_1 := blk_frozen BK298.out 1; have hfz150_2 := blk_frozen BK298.out 2; have hfz150_3 := blk_frozen BK298.out 3) | ((with_reducible refine gate_callee (f := 10) rfl ?_); refine goesL_ (some 50) rfl rfl Try.func10 (by kernel_rfl) rfl #[.int .i64 t292, .int .i64 t293, .int .i64 t294] rfl (by (try simp only [List.map_toArray, List.map_cons, List.map_nil]); first | done | rfl | (simp only [List.length_drop, List.length_take]; rfl)) ?_; (with_reducible refine (date_Days.calls kj92 t292 t293 t294 t299 t300 _ A102.out).mono ?_); rintro e w' ⟨rfl, ⟨nd, rfl⟩⟩; refine ⟨_, rfl, ?_⟩; obtain ⟨HGz151, hgz151⟩ := HI289.out; have hcz151_0 := cellS67_0 HGz151; have hcz151_1 := cellS67_1 HGz151; have hfz151_0 := blk_frozen HGz151 0; have hfz151_1 := blk_frozen HGz151 1; clear HGz151 hgz151))
                go_roundg kj92
                case measure => have := HK1.out; have := HK2.out; have := HJ92.out; omega
                case rel => exact ⟨(wrap64 (x20_2 + 1)), (by first | rfl | (simp; done) | (simp [*]; done)), H', ⟨by have := HK1.out; have := HK2.out; have := HJ92.out; omega⟩, ⟨by (with_reducible repeat (first | refine blk_drewN ?_ _ | refine blk_drew ?_ | refine blk_alloc ?_ _)); refine blk_far ?_ NB281_298.out _; (with_reducible repeat (first | refine blk_drewN ?_ _ | refine blk_drew ?_ | refine blk_alloc ?_ _)); refine blk_far ?_ NB281_298.out _; (with_reducible repeat (first | refine blk_drewN ?_ _ | refine blk_drew ?_ | refine blk_alloc ?_ _)); refine blk_far ?_ NB281_298.out _; (with_reducible repeat (first | refine blk_drewN ?_ _ | refine blk_drew ?_ | refine blk_alloc ?_ _)); refine blk_far ?_ NB281_298.out _; (with_reducible repeat (first | refine blk_drewN ?_ _ | refine blk_drew ?_ | refine blk_alloc ?_ _)); exact BK281.out⟩, ⟨by repeat (first | (with_reducible first | exact HB.out | apply below_alloc | apply pw_below_drewN | apply below_drew1 | refine below_set ?_ (IsS67.ge HI289.out) | refine below_set ?_ GE281.out | refine below_set ?_ GE298.out) | exact HB.out)⟩⟩
              ·rw [if_neg c115] at H
               have c115b0 : (t296.toList == ([] : List UInt8)) = false := beq_eq_false_iff_ne.mpr c115
               have c115b1 : (t296.toList != ([] : List UInt8)) = true := bne_iff_ne.mpr c115
               have H' := Aside0.mk H
               clear H
               go_wp2_with (first | ((with_reducible refine gate_dst (N := 31) rfl ?_); refine box_event ?hg (N := 31) ?hd (cs := #[.string a0, .bool false]) (t := 67) ?hr ?_; (case hd => rfl); (case hg => rfl); (case hr => first | (go_simp; done) | (go_simp; rfl)); intro gb289 hg w152 hbox hb; have n0_ := Aside0.mk (blk_below (g := gb281) (o := .cells #[.bool true, .func (.func 42) #[] #[]] 63 (0, 0)) (by (with_reducible repeat (first | refine blk_drewN ?_ _ | refine blk_drew ?_ | refine blk_alloc ?_ _)); exact BK281.out) hb); have n1_ := Aside0.mk (below_step (by repeat (first | (with_reducible first | exact HB.out | apply below_alloc | apply pw_below_drewN | apply below_drew1 | refine below_set ?_ GE281.out) | exact HB.out)) hb); have n2_ := Aside0.mk ((show IsS67 w w152 gb289 a0 false from ⟨hbox, (by rw [hg]; exact (below_size (by repeat (first | (with_reducible first | exact HB.out | apply below_alloc | apply pw_below_drewN | apply below_drew1 | refine below_set ?_ GE281.out) | exact HB.out))))⟩)); have n3_ := Aside0.mk ((by rw [hg]; exact (below_size (by repeat (first | (with_reducible first | exact HB.out | apply below_alloc | apply pw_below_drewN | apply below_drew1 | refine below_set ?_ GE281.out) | exact HB.out))) : w.heap.size ≤ gb289)); have n4_ := Aside0.mk ((by rw [hg]; exact (below_size (by repeat (first | (with_reducible first | exact HB.out | apply below_alloc | apply pw_below_drewN | apply below_drew1 | refine below_set ?_ GE281.out) | exact HB.out))) : w.heap.size ≤ gb289)); have n5_ := Aside0.mk ((by rw [hg]; exact Nat.ne_of_lt (blk_lt (g := gb281) (o := .cells #[.bool true, .func (.func 42) #[] #[]] 63 (0, 0)) (by (with_reducible repeat (first | refine blk_drewN ?_ _ | refine blk_drew ?_ | refine blk_alloc ?_ _)); exact BK281.out)) : gb281 ≠ gb289)); have n6_ := Aside0.mk ((by rw [hg]; exact Nat.ne_of_gt (blk_lt (g := gb281) (o := .cells #[.bool true, .func (.func 42) #[] #[]] 63 (0, 0)) (by (with_reducible repeat (first | refine blk_drewN ?_ _ | refine blk_drew ?_ | refine blk_alloc ?_ _)); exact BK281.out)) : gb289 ≠ gb281)); clear BK281; clear HB; have BK281 := n0_; have HB := n1_; have HI289 := n2_; have GW289 := n3_; have GE289 := n4_; have NB281_289 := n5_; have NB289_281 := n6_; clear n0_ n1_ n2_ n3_ n4_ n5_ n6_; clear hb hbox hg) | ((with_reducible refine gate_callee (f := 44) rfl ?_); refine goesL_ (some 34) rfl rfl Try.func44 (by kernel_rfl) rfl #[.pointer (some ⟨gb289, 0, none⟩), .string x7_92] rfl (by (try simp only [List.map_toArray, List.map_cons, List.map_nil]); first | done | rfl | (simp only [List.length_drop, List.length_take]; rfl)) ?_; (with_reducible refine (date_scan_word.calls gb289 a0 false x7_92 t290 false w _ ?side1 ?side2 A96.out).mono ?_); (case side1 => repeat (first | (with_reducible first | exact HI289.out | apply IsS67.alloc | apply IsS67.drewN | apply IsS67.drew | apply IsS67.set_0 | apply IsS67.set_1 | (apply IsS67.far; rotate_left; exact NB289_281.out; rotate_right)) | exact HI289.out)); (case side2 => repeat (first | (with_reducible first | exact HB.out | apply below_alloc | apply pw_below_drewN | apply below_drew1 | refine below_set ?_ (IsS67.ge HI289.out) | refine below_set ?_ GE281.out) | exact HB.out)); rintro e w153 ⟨rfl, hi, hb, hk⟩; refine ⟨_, rfl, ?_⟩; have n0_ := Aside0.mk (KeepBut.blk hk (g' := gb281) (o := .cells #[.bool true, .func (.func 42) #[] #[]] 63 (0, 0)) (by (with_reducible repeat (first | refine blk_drewN ?_ _ | refine blk_drew ?_ | refine blk_alloc ?_ _)); exact BK281.out) NB281_289.out (by simp)); have n1_ := Aside0.mk (hb); have n2_ := Aside0.mk (hi); clear BK281; clear HB; clear HI289; have BK281 := n0_; have HB := n1_; have HI289 := n2_; clear n0_ n1_ n2_; (try clear hb); (try clear hb2); (try clear hk); (try clear hi); obtain ⟨HGz154, hgz154⟩ := HI289.out; have hcz154_0 := cellS67_0 HGz154; have hcz154_1 := cellS67_1 HGz154; have hfz154_0 := blk_frozen HGz154 0; have hfz154_1 := blk_frozen HGz154 1; clear HGz154 hgz154; have hnb155 := NB281_289.out; have hnc155 := NB289_281.out; have hcz156_0 : w153.cell? ⟨gb281, 0, none⟩ = some (.bool true) := (blk_cell BK281.out 0).trans rfl; have hcz156_1 : w153.cell? ⟨gb281, 1, none⟩ = some (.func (.func 42) #[] #[]) := (blk_cell BK281.out 1).trans rfl; have hfz156_0 := blk_frozen BK281.out 0; have hfz156_1 := blk_frozen BK281.out 1) | ((with_reducible refine gate_calleeV (x := .tmp 40) rfl ?_); refine goesV_ (.tmp 40) (some 42) rfl rfl Try.func42 (by kernel_rfl) rfl #[.pointer (some ⟨gb289, 0, none⟩)] rfl rfl (by (try simp only [List.map_toArray, List.map_cons, List.map_nil]); first | done | rfl) ?_; (with_reducible refine (date_second.calls kj92 gb289 t290 false t292 t293 t294 t295 t296 false w _ ?side1 ?side2 A101.out).mono ?_); (case side1 => repeat (first | (with_reducible first | exact HI289.out | apply IsS67.alloc | apply IsS67.drewN | apply IsS67.drew | apply IsS67.set_0 | apply IsS67.set_1 | (apply IsS67.far; rotate_left; exact NB289_281.out; rotate_right)) | exact HI289.out)); (case side2 => repeat (first | (with_reducible first | exact HB.out | apply below_alloc | apply pw_below_drewN | apply below_drew1 | refine below_set ?_ (IsS67.ge HI289.out) | refine below_set ?_ GE281.out) | exact HB.out)); rintro e w157 ⟨rfl, hi, hb, hk⟩; refine ⟨_, rfl, ?_⟩; have n0_ := Aside0.mk (KeepBut.blk hk (g' := gb281) (o := .cells #[.bool true, .func (.func 42) #[] #[]] 63 (0, 0)) (by (with_reducible repeat (first | refine blk_drewN ?_ _ | refine blk_drew ?_ | refine blk_alloc ?_ _)); exact BK281.out) NB281_289.out (by simp)); have n1_ := Aside0.mk (hb); have n2_ := Aside0.mk (hi); clear BK281; clear HB; clear HI289; have BK281 := n0_; have HB := n1_; have HI289 := n2_; clear n0_ n1_ n2_; (try clear hb); (try clear hb2); (try clear hk); (try clear hi)) | ((with_reducible refine gate_dst (N := 9) rfl ?_); refine box_event ?hg (N := 9) ?hd (cs := #[.int .i64 0, .int .i64 0, .int .i64 0, .int .i64 0]) (t := 70) ?hr ?_; (case hd => rfl); (case hg => rfl); (case hr => first | (go_simp; done) | (go_simp; rfl)); intro gb298 hg w158 hbox hb; have n0_ := Aside0.mk (blk_below (g := gb281) (o := .cells #[.bool true, .func (.func 42) #[] #[]] 63 (0, 0)) (by (with_reducible repeat (first | refine blk_drewN ?_ _ | refine blk_drew ?_ | refine blk_alloc ?_ _)); exact BK281.out) hb); have n1_ := Aside0.mk (IsS67.below (by repeat (first | (with_reducible first | exact HI289.out | apply IsS67.alloc | apply IsS67.drewN | apply IsS67.drew | apply IsS67.set_0 | apply IsS67.set_1 | (apply IsS67.far; rotate_left; exact NB289_281.out; rotate_right)) | exact HI289.out)) hb); have n2_ := Aside0.mk (below_step (by repeat (first | (with_reducible first | exact HB.out | apply below_alloc | apply pw_below_drewN | apply below_drew1 | refine below_set ?_ (IsS67.ge HI289.out) | refine below_set ?_ GE281.out) | exact HB.out)) hb); have n3_ := Aside0.mk (hbox); have n4_ := Aside0.mk ((by rw [hg]; exact (below_size (by repeat (first | (with_reducible first | exact HB.out | apply below_alloc | apply pw_below_drewN | apply below_drew1 | refine below_set ?_ (IsS67.ge HI289.out) | refine below_set ?_ GE281.out) | exact HB.out))) : w.heap.size ≤ gb298)); have n5_ := Aside0.mk ((by rw [hg]; exact (below_size (by repeat (first | (with_reducible first | exact HB.out | apply below_alloc | apply pw_below_drewN | apply below_drew1 | refine below_set ?_ (IsS67.ge HI289.out) | refine below_set ?_ GE281.out) | exact HB.out))) : w.heap.size ≤ gb298)); have n6_ := Aside0.mk ((by rw [hg]; exact Nat.ne_of_lt (blk_lt (g := gb281) (o := .cells #[.bool true, .func (.func 42) #[] #[]] 63 (0, 0)) (by (with_reducible repeat (first | refine blk_drewN ?_ _ | refine blk_drew ?_ | refine blk_alloc ?_ _)); exact BK281.out)) : gb281 ≠ gb298)); have n7_ := Aside0.mk ((by rw [hg]; exact Nat.ne_of_gt (blk_lt (g := gb281) (o := .cells #[.bool true, .func (.func 42) #[] #[]] 63 (0, 0)) (by (with_reducible repeat (first | refine blk_drewN ?_ _ | refine blk_drew ?_ | refine blk_alloc ?_ _)); exact BK281.out)) : gb298 ≠ gb281)); have n8_ := Aside0.mk ((by rw [hg]; exact Nat.ne_of_lt (IsS67.lt (show IsS67 w _ gb289 t296 false from by repeat (first | (with_reducible first | exact HI289.out | apply IsS67.alloc | apply IsS67.drewN | apply IsS67.drew | apply IsS67.set_0 | apply IsS67.set_1 | (apply IsS67.far; rotate_left; exact NB289_281.out; rotate_right)) | exact HI289.out))) : gb289 ≠ gb298)); have n9_ := Aside0.mk ((by rw [hg]; exact Nat.ne_of_gt (IsS67.lt (show IsS67 w _ gb289 t296 false from by repeat (first | (with_reducible first | exact HI289.out | apply IsS67.alloc | apply IsS67.drewN | apply IsS67.drew | apply IsS67.set_0 | apply IsS67.set_1 | (apply IsS67.far; rotate_left; exact NB289_281.out; rotate_right)) | exact HI289.out))) : gb298 ≠ gb289)); clear BK281; clear HI289; clear HB; have BK281 := n0_; have HI289 := n1_; have HB := n2_; have BK298 := n3_; have GW298 := n4_; have GE298 := n5_; have NB281_298 := n6_; have NB298_281 := n7_; have NB289_298 := n8_; have NB298_289 := n9_; clear n0_ n1_ n2_ n3_ n4_ n5_ n6_ n7_ n8_ n9_; clear hb hbox hg; have hnb159 := NB298_281.out; have hnc159 := NB281_298.out; have hnb160 := NB298_289.out; have hnc160 := NB289_298.out; have hcz161_0 : w158.cell? ⟨gb298, 0, none⟩ = some (.int .i64 0) := (blk_cell BK298.out 0).trans rfl; have hcz161_1 : w158.cell? ⟨gb298, 1, none⟩ = some (.int .i64 0) := (blk_cell BK298.out 1).trans rfl; have hcz161_2 : w158.cell? ⟨gb298, 2, none⟩ = some (.int .i64 0) := (blk_cell BK298.out 2).trans rfl; have hcz161_3 : w158.cell? ⟨gb298, 3, none⟩ = some (.int .i64 0) := (blk_cell BK298.out 3).trans rfl; have hfz161_0 := blk_frozen BK298.out 0; have hfz161_1 := blk_frozen BK298.out 1; have hfz161_2 := blk_frozen BK298.out 2; have hfz161_3 := blk_frozen BK298.out 3) | ((with_reducible refine gate_callee (f := 10) rfl ?_); refine goesL_ (some 50) rfl rfl Try.func10 (by kernel_rfl) rfl #[.int .i64 t292, .int .i64 t293, .int .i64 t294] rfl (by (try simp only [List.map_toArray, List.map_cons, List.map_nil]); first | done | rfl | (simp only [List.length_drop, List.length_take]; rfl)) ?_; (with_reducible refine (date_Days.calls kj92 t292 t293 t294 t299 t300 _ A102.out).mono ?_); rintro e w' ⟨rfl, ⟨nd, rfl⟩⟩; refine ⟨_, rfl, ?_⟩; obtain ⟨HGz162, hgz162⟩ := HI289.out; have hcz162_0 := cellS67_0 HGz162; have hcz162_1 := cellS67_1 HGz162; have hfz162_0 := blk_frozen HGz162 0; have hfz162_1 := blk_frozen HGz162 1; clear HGz162 hgz162))
               go_roundg kj92
               case measure => have := HK1.out; have := HK2.out; have := HJ92.out; omega
               case rel => exact ⟨(wrap64 (x20_2 + 1)), (by first | rfl | (simp; done) | (simp [*]; done)), H', ⟨by have := HK1.out; have := HK2.out; have := HJ92.out; omega⟩, ⟨by (with_reducible repeat (first | refine blk_drewN ?_ _ | refine blk_drew ?_ | refine blk_alloc ?_ _)); refine blk_far ?_ NB281_298.out _; (with_reducible repeat (first | refine blk_drewN ?_ _ | refine blk_drew ?_ | refine blk_alloc ?_ _)); refine blk_far ?_ NB281_298.out _; (with_reducible repeat (first | refine blk_drewN ?_ _ | refine blk_drew ?_ | refine blk_alloc ?_ _)); refine blk_far ?_ NB281_298.out _; (with_reducible repeat (first | refine blk_drewN ?_ _ | refine blk_drew ?_ | refine blk_alloc ?_ _)); refine blk_far ?_ NB281_298.out _; (with_reducible repeat (first | refine blk_drewN ?_ _ | refine blk_drew ?_ | refine blk_alloc ?_ _)); exact BK281.out⟩, ⟨by repeat (first | (with_reducible first | exact HB.out | apply below_alloc | apply pw_below_drewN | apply below_drew1 | refine below_set ?_ (IsS67.ge HI289.out) | refine below_set ?_ GE281.out | refine below_set ?_ GE298.out) | exact HB.out)⟩⟩
         ·rw [if_neg c91] at H
          exact absurd H (by simp)
        ·rw [if_neg c90] at H
         have c90b0 : decide (x20_2 < 7) = false := decide_eq_false c90
         clear c90
         have H' := Aside0.mk H
         clear H
         go_wp2
         go_roundg k2
         case measure => have := HK1.out; have := HK2.out; omega
         case rel => exact ⟨(wrap64 (x16_1 + 1)), (by first | rfl | (simp; done) | (simp [*]; done)), H', ⟨by have := HK1.out; have := HK2.out; omega⟩, ⟨by repeat (first | (with_reducible first | exact HB.out | apply below_alloc | apply pw_below_drewN | apply below_drew1 | refine below_set ?_ GE281.out) | exact HB.out)⟩⟩
     ·rw [if_neg c84] at H
      have c84b0 : (x16_1 == 1) = false := beq_eq_false_iff_ne.mpr c84
      have c84b1 : (x16_1 != 1) = true := bne_iff_ne.mpr c84
      by_cases c163 : x16_1 = 2
      ·rw [if_pos c163] at H
       have c163b0 : (x16_1 == 2) = true := beq_iff_eq.mpr c163
       have c163b1 : (x16_1 != 2) = false := bne_eq_false_iff_eq.mpr c163
       clear c163
       replace H := Option.bind_eq_some_iff.mp H
       obtain ⟨⟨t303, t304, t305, t306, t307, t308, t309⟩, A1650, H⟩ := H
       replace H : (date_Parse.l3 k1 a0 x16_1 0 false true false t303 t304 t305 t306 t307 t308 t309 false) = some (r1, r2) := H
       have A165 := Aside0.mk A1650
       clear A1650
       have H' := Aside0.mk H
       clear H
       have hix164 : ∀ (v0_ v1_ v2_ v3_ v4_ v5_ : Value) (W : World), (Instr.index 64 (.agg #[v0_, v1_, v2_, v3_, v4_, v5_]) (.int .i64 x16_1)).run Try.prog W = .ok (.agg #[v4_, v5_]) W := by
        have h_ : (x16_1 : Int) = 2 := beq_iff_eq.mp (by assumption)
        rw [h_]
        intros; rfl
       go_wp2_with (first | ((with_reducible refine gate_dst (N := 5) rfl ?_); refine box_event ?hg (N := 5) ?hd (cs := #[.bool false, .nilFunc]) (t := 63) ?hr ?_; (case hd => rfl); (case hg => rfl); (case hr => first | (go_simp; done) | (go_simp; rfl)); intro gb302 hg w166 hbox hb; have n0_ := Aside0.mk (below_step (by repeat (first | (with_reducible first | exact HB.out | apply below_alloc | apply pw_below_drewN | apply below_drew1) | exact HB.out)) hb); have n1_ := Aside0.mk (hbox); have n2_ := Aside0.mk ((by rw [hg]; exact (below_size (by repeat (first | (with_reducible first | exact HB.out | apply below_alloc | apply pw_below_drewN | apply below_drew1) | exact HB.out))) : w.heap.size ≤ gb302)); have n3_ := Aside0.mk ((by rw [hg]; exact (below_size (by repeat (first | (with_reducible first | exact HB.out | apply below_alloc | apply pw_below_drewN | apply below_drew1) | exact HB.out))) : w.heap.size ≤ gb302)); clear HB; have HB := n0_; have BK302 := n1_; have GW302 := n2_; have GE302 := n3_; clear n0_ n1_ n2_ n3_; clear hb hbox hg; have hcz167_0 : w166.cell? ⟨gb302, 0, none⟩ = some (.bool false) := (blk_cell BK302.out 0).trans rfl; have hcz167_1 : w166.cell? ⟨gb302, 1, none⟩ = some (.nilFunc) := (blk_cell BK302.out 1).trans rfl; have hfz167_0 := blk_frozen BK302.out 0; have hfz167_1 := blk_frozen BK302.out 1) | ((with_reducible refine gate_callee (f := 38) rfl ?_); refine goesL_ (some 19) rfl rfl Try.func38 (by kernel_rfl) rfl #[] rfl (by (try simp only [List.map_toArray, List.map_cons, List.map_nil]); first | done | rfl | (simp only [List.length_drop, List.length_take]; rfl)) ?_; (with_reducible refine (date_weekdays.calls  t303 t304 t305 t306 t307 t308 t309 _ A165.out).mono ?_); rintro e w168 ⟨rfl, hb⟩; refine ⟨_, rfl, ?_⟩; have n0_ := Aside0.mk (blk_below (g := gb302) (o := .cells #[.bool false, .func (.func 43) #[] #[]] 63 (0, 0)) (by (with_reducible repeat (first | refine blk_drewN ?_ _ | refine blk_drew ?_ | refine blk_alloc ?_ _)); refine blk_put (cs := #[.bool false, .nilFunc]) ?_ 1 _ rfl; (with_reducible repeat (first | refine blk_drewN ?_ _ | refine blk_drew ?_ | refine blk_alloc ?_ _)); refine blk_put (cs := #[.bool false, .nilFunc]) ?_ 0 _ rfl; (with_reducible repeat (first | refine blk_drewN ?_ _ | refine blk_drew ?_ | refine blk_alloc ?_ _)); exact BK302.out) hb); have n1_ := Aside0.mk (below_step (by repeat (first | (with_reducible first | exact HB.out | apply below_alloc | apply pw_below_drewN | apply below_drew1 | refine below_set ?_ GE302.out) | exact HB.out)) hb); clear BK302; clear HB; have BK302 := n0_; have HB := n1_; clear n0_ n1_; (try clear hb); (try clear hb2); (try clear hk); (try clear hi)))
       go_loopg [20] k1 (fun kq v20 w' => ∃ (x20_2 : Int), v20 = .int .i64 x20_2 ∧ Aside0 (date_Parse.l3 kq a0 x16_1 x20_2 false true false t303 t304 t305 t306 t307 t308 t309 false = some (r1, r2)) ∧ Aside0 (kq ≤ k1) ∧ Aside0 (w'.heap[gb302]? = some (.cells #[.bool false, (.func (.func 43) #[] #[])] 63 (0, 0))) ∧ Aside0 (Below w.heap.size w w'))
       case atStart => exact ⟨(0), (by first | rfl | (simp; done) | (simp [*]; done)), H', ⟨Nat.le_refl _⟩, ⟨by (with_reducible repeat (first | refine blk_drewN ?_ _ | refine blk_drew ?_ | refine blk_alloc ?_ _)); exact BK302.out⟩, ⟨by repeat (first | (with_reducible first | exact HB.out | apply below_alloc | apply pw_below_drewN | apply below_drew1 | refine below_set ?_ GE302.out) | exact HB.out)⟩⟩
       case round =>
        clear H'
        try clear c1
        try clear p1
        try clear q1
        try clear c2
        try clear c2b0
        try clear p2
        try clear c3
        try clear c3b0
        try clear c3b1
        try clear c4
        try clear c5
        try clear c6
        try clear p6
        try clear c7
        try clear c8
        try clear c9
        try clear c9b0
        try clear p9
        try clear q9
        try clear c10
        try clear c10b0
        try clear c11
        try clear p11
        try clear q11
        try clear c12
        try clear c13
        try clear c14
        try clear c15
        try clear c15b0
        try clear c15b1
        try clear c16
        try clear c16b0
        try clear c16b1
        try clear c18
        try clear c24
        try clear c28
        try clear c32
        try clear c33
        try clear c36
        try clear c36b0
        try clear c36b1
        try clear c37
        try clear c37b0
        try clear c37b1
        try clear c38
        try clear c39
        try clear c39b0
        try clear c39b1
        try clear c41
        try clear c42
        try clear c43
        try clear c44
        try clear c47
        try clear c48
        try clear c54
        try clear c58
        try clear c59
        try clear p64
        try clear c65
        try clear c69
        try clear c70
        try clear c76
        try clear c80
        try clear c81
        try clear c84
        try clear c84b0
        try clear c84b1
        try clear c90
        try clear c90b0
        try clear c91
        try clear c91b0
        try clear p92
        try clear q92
        try clear c97
        try clear c103
        try clear c107
        try clear c111
        try clear c112
        try clear c115
        try clear c115b0
        try clear c115b1
        try clear c116
        try clear c116b0
        try clear c116b1
        try clear c118
        try clear c118b0
        try clear c118b1
        try clear c122
        try clear c126
        try clear c127
        try clear c133
        try clear c137
        try clear c138
        try clear c144
        try clear c148
        try clear c149
        try clear c155
        try clear c159
        try clear c160
        try clear c163
        try clear c163b0
        try clear c163b1
        try clear hcz100_0
        try clear hcz100_1
        try clear hcz106_0
        try clear hcz106_1
        try clear hcz108_0
        try clear hcz108_1
        try clear hcz113_0
        try clear hcz113_1
        try clear hcz113_2
        try clear hcz113_3
        try clear hcz114_0
        try clear hcz114_1
        try clear hcz121_0
        try clear hcz121_1
        try clear hcz123_0
        try clear hcz123_1
        try clear hcz128_0
        try clear hcz128_1
        try clear hcz128_2
        try clear hcz128_3
        try clear hcz129_0
        try clear hcz129_1
        try clear hcz132_0
        try clear hcz132_1
        try clear hcz134_0
        try clear hcz134_1
        try clear hcz139_0
        try clear hcz139_1
        try clear hcz139_2
        try clear hcz139_3
        try clear hcz13_0
        try clear hcz13_1
        try clear hcz140_0
        try clear hcz140_1
        try clear hcz143_0
        try clear hcz143_1
        try clear hcz145_0
        try clear hcz145_1
        try clear hcz150_0
        try clear hcz150_1
        try clear hcz150_2
        try clear hcz150_3
        try clear hcz151_0
        try clear hcz151_1
        try clear hcz154_0
        try clear hcz154_1
        try clear hcz156_0
        try clear hcz156_1
        try clear hcz161_0
        try clear hcz161_1
        try clear hcz161_2
        try clear hcz161_3
        try clear hcz162_0
        try clear hcz162_1
        try clear hcz167_0
        try clear hcz167_1
        try clear hcz21_0
        try clear hcz21_1
        try clear hcz27_0
        try clear hcz27_1
        try clear hcz29_0
        try clear hcz29_1
        try clear hcz34_0
        try clear hcz34_1
        try clear hcz34_2
        try clear hcz34_3
        try clear hcz35_0
        try clear hcz35_1
        try clear hcz42_0
        try clear hcz42_1
        try clear hcz44_0
        try clear hcz44_1
        try clear hcz49_0
        try clear hcz49_1
        try clear hcz49_2
        try clear hcz49_3
        try clear hcz50_0
        try clear hcz50_1
        try clear hcz53_0
        try clear hcz53_1
        try clear hcz55_0
        try clear hcz55_1
        try clear hcz60_0
        try clear hcz60_1
        try clear hcz60_2
        try clear hcz60_3
        try clear hcz61_0
        try clear hcz61_1
        try clear hcz64_0
        try clear hcz64_1
        try clear hcz66_0
        try clear hcz66_1
        try clear hcz71_0
        try clear hcz71_1
        try clear hcz71_2
        try clear hcz71_3
        try clear hcz72_0
        try clear hcz72_1
        try clear hcz75_0
        try clear hcz75_1
        try clear hcz77_0
        try clear hcz77_1
        try clear hcz7_0
        try clear hcz7_1
        try clear hcz82_0
        try clear hcz82_1
        try clear hcz82_2
        try clear hcz82_3
        try clear hcz83_0
        try clear hcz83_1
        try clear hcz88_0
        try clear hcz88_1
        try clear hcz94_0
        try clear hcz94_1
        try clear hfz100_0
        try clear hfz100_1
        try clear hfz106_0
        try clear hfz106_1
        try clear hfz108_0
        try clear hfz108_1
        try clear hfz113_0
        try clear hfz113_1
        try clear hfz113_2
        try clear hfz113_3
        try clear hfz114_0
        try clear hfz114_1
        try clear hfz121_0
        try clear hfz121_1
        try clear hfz123_0
        try clear hfz123_1
        try clear hfz128_0
        try clear hfz128_1
        try clear hfz128_2
        try clear hfz128_3
        try clear hfz129_0
        try clear hfz129_1
        try clear hfz132_0
        try clear hfz132_1
        try clear hfz134_0
        try clear hfz134_1
        try clear hfz139_0
        try clear hfz139_1
        try clear hfz139_2
        try clear hfz139_3
        try clear hfz13_0
        try clear hfz13_1
        try clear hfz140_0
        try clear hfz140_1
        try clear hfz143_0
        try clear hfz143_1
        try clear hfz145_0
        try clear hfz145_1
        try clear hfz150_0
        try clear hfz150_1
        try clear hfz150_2
        try clear hfz150_3
        try clear hfz151_0
        try clear hfz151_1
        try clear hfz154_0
        try clear hfz154_1
        try clear hfz156_0
        try clear hfz156_1
        try clear hfz161_0
        try clear hfz161_1
        try clear hfz161_2
        try clear hfz161_3
        try clear hfz162_0
        try clear hfz162_1
        try clear hfz167_0
        try clear hfz167_1
        try clear hfz21_0
        try clear hfz21_1
        try clear hfz27_0
        try clear hfz27_1
        try clear hfz29_0
        try clear hfz29_1
        try clear hfz34_0
        try clear hfz34_1
        try clear hfz34_2
        try clear hfz34_3
        try clear hfz35_0
        try clear hfz35_1
        try clear hfz42_0
        try clear hfz42_1
        try clear hfz44_0
        try clear hfz44_1
        try clear hfz49_0
        try clear hfz49_1
        try clear hfz49_2
        try clear hfz49_3
        try clear hfz50_0
        try clear hfz50_1
        try clear hfz53_0
        try clear hfz53_1
        try clear hfz55_0
        try clear hfz55_1
        try clear hfz60_0
        try clear hfz60_1
        try clear hfz60_2
        try clear hfz60_3
        try clear hfz61_0
        try clear hfz61_1
        try clear hfz64_0
        try clear hfz64_1
        try clear hfz66_0
        try clear hfz66_1
        try clear hfz71_0
        try clear hfz71_1
        try clear hfz71_2
        try clear hfz71_3
        try clear hfz72_0
        try clear hfz72_1
        try clear hfz75_0
        try clear hfz75_1
        try clear hfz77_0
        try clear hfz77_1
        try clear hfz7_0
        try clear hfz7_1
        try clear hfz82_0
        try clear hfz82_1
        try clear hfz82_2
        try clear hfz82_3
        try clear hfz83_0
        try clear hfz83_1
        try clear hfz88_0
        try clear hfz88_1
        try clear hfz94_0
        try clear hfz94_1
        try clear p1
        try clear p11
        try clear p2
        try clear p6
        try clear p64
        try clear p9
        try clear p92
        try clear q1
        try clear q11
        try clear q9
        try clear q92
        obtain ⟨x20_2, rfl, HA, HK2, BK302, HB⟩ := hrel
        cases gk with
        | zero => exact absurd HA.out (by simp [date_Parse.l3])
        | succ k2 =>
         have H := HA.out
         clear HA
         simp only [date_Parse.l3] at H
         by_cases c169 : x20_2 < 7
         ·rw [if_pos c169] at H
          have c169b0 : decide (x20_2 < 7) = true := decide_eq_true c169
          clear c169
          by_cases c170 : 0 ≤ x20_2
          ·rw [if_pos c170] at H
           have c170b0 : decide (0 ≤ x20_2) = true := decide_eq_true c170
           clear c170
           have HC172 := Aside0.mk H
           clear H
           have p171 : 0 ≤ (x20_2 : Int) := of_decide_eq_true (by first | (with_reducible assumption) | assumption)
           have q171 : x20_2 < (7 : Int) := of_decide_eq_true (by first | (with_reducible assumption) | assumption)
           replace p171 := eq_true p171
           replace q171 := eq_true q171
           have hcz173_0 : wr.cell? ⟨gb302, 0, none⟩ = some (.bool false) := (blk_cell BK302.out 0).trans rfl
           have hcz173_1 : wr.cell? ⟨gb302, 1, none⟩ = some (.func (.func 43) #[] #[]) := (blk_cell BK302.out 1).trans rfl
           have hfz173_0 := blk_frozen BK302.out 0
           have hfz173_1 := blk_frozen BK302.out 1
           go_upto_if 26 with (fail)
           go_cut [7] (fun v7 wc => ∃ (kq : Nat) (x7_171 : ByteArray), v7 = .string x7_171 ∧ Aside0 (date_Parse.j6 kq a0 x20_2 x7_171 x16_1 x20_2 false true false t303 t304 t305 t306 t307 t308 t309 false = some (r1, r2)) ∧ Aside0 (kq ≤ k2) ∧ Aside0 (wc.heap[gb302]? = some (.cells #[.bool false, (.func (.func 43) #[] #[])] 63 (0, 0))) ∧ Aside0 (Below w.heap.size w wc))
           case first =>
            have H := HC172.out
            clear HC172
            have H1 : (if 0 ≤ 3 then (if 3 ≤ ((arrAt [t303, t304, t305, t306, t307, t308, t309] (⟨#[]⟩ : ByteArray) x20_2).size : Int) then (date_Parse.j6 k2 a0 x20_2 ((arrAt [t303, t304, t305, t306, t307, t308, t309] (⟨#[]⟩ : ByteArray) x20_2).extract 0 3) x16_1 x20_2 false true false t303 t304 t305 t306 t307 t308 t309 false) else (none)) else (none)) = some (r1, r2) := by first | (rw [if_neg (show ¬ (false = true) by decide)] at H; exact H) | (rw [if_neg (show ¬ False from fun h_ => h_)] at H; exact H) | exact H
            clear H
            have H := H1
            clear H1
            by_cases c175 : 0 ≤ 3
            ·rw [if_pos c175] at H
             have c175b0 := eq_true c175
             have c175b1 : decide (0 ≤ 3) = true := decide_eq_true c175
             clear c175
             by_cases c176 : 3 ≤ ((arrAt [t303, t304, t305, t306, t307, t308, t309] (⟨#[]⟩ : ByteArray) x20_2).size : Int)
             ·rw [if_pos c176] at H
              have c176b0 := eq_true c176
              have c176b1 : decide (3 ≤ ((arrAt [t303, t304, t305, t306, t307, t308, t309] (⟨#[]⟩ : ByteArray) x20_2).size : Int)) = true := decide_eq_true c176
              clear c176
              have H' := Aside0.mk H
              clear H
              go_wp2
              go_meet
              case rel => exact ⟨_, ((arrAt [t303, t304, t305, t306, t307, t308, t309] (⟨#[]⟩ : ByteArray) x20_2).extract 0 3), (by first | rfl | (simp; done) | (simp [*]; done)), H', ⟨by have := HK1.out; have := HK2.out; first | omega | exact Nat.le_refl _⟩, ⟨by (with_reducible repeat (first | refine blk_drewN ?_ _ | refine blk_drew ?_ | refine blk_alloc ?_ _)); exact BK302.out⟩, ⟨by repeat (first | (with_reducible first | exact HB.out | apply below_alloc | apply pw_below_drewN | apply below_drew1 | refine below_set ?_ GE302.out) | exact HB.out)⟩⟩
             ·rw [if_neg c176] at H
              exact absurd H (by simp)
            ·rw [if_neg c175] at H
             exact absurd H (by simp)
           case rest =>
            clear HC172
            try clear c1
            try clear p1
            try clear q1
            try clear c2
            try clear c2b0
            try clear p2
            try clear c3
            try clear c3b0
            try clear c3b1
            try clear c4
            try clear c5
            try clear c6
            try clear p6
            try clear c7
            try clear c8
            try clear c9
            try clear c9b0
            try clear p9
            try clear q9
            try clear c10
            try clear c10b0
            try clear c11
            try clear p11
            try clear q11
            try clear c12
            try clear c13
            try clear c14
            try clear c15
            try clear c15b0
            try clear c15b1
            try clear c16
            try clear c16b0
            try clear c16b1
            try clear c17
            try clear p17
            try clear q17
            try clear c18
            try clear c24
            try clear c28
            try clear c32
            try clear c33
            try clear c36
            try clear c36b0
            try clear c36b1
            try clear c37
            try clear c37b0
            try clear c37b1
            try clear c38
            try clear c39
            try clear c39b0
            try clear c39b1
            try clear c41
            try clear c42
            try clear c43
            try clear c44
            try clear c47
            try clear c48
            try clear c54
            try clear c58
            try clear c59
            try clear p64
            try clear c65
            try clear c69
            try clear c70
            try clear c76
            try clear c80
            try clear c81
            try clear c84
            try clear c84b0
            try clear c84b1
            try clear c90
            try clear c90b0
            try clear c91
            try clear c91b0
            try clear p92
            try clear q92
            try clear c97
            try clear c103
            try clear c107
            try clear c111
            try clear c112
            try clear c115
            try clear c115b0
            try clear c115b1
            try clear c116
            try clear c116b0
            try clear c116b1
            try clear c118
            try clear c118b0
            try clear c118b1
            try clear c122
            try clear c126
            try clear c127
            try clear c133
            try clear c137
            try clear c138
            try clear c144
            try clear c148
            try clear c149
            try clear c155
            try clear c159
            try clear c160
            try clear c163
            try clear c163b0
            try clear c163b1
            try clear c169
            try clear c169b0
            try clear c170
            try clear c170b0
            try clear p171
            try clear q171
            try clear c175
            try clear c175b0
            try clear c175b1
            try clear c176
            try clear c176b0
            try clear c176b1
            try clear hcz100_0
            try clear hcz100_1
            try clear hcz106_0
            try clear hcz106_1
            try clear hcz108_0
            try clear hcz108_1
            try clear hcz113_0
            try clear hcz113_1
            try clear hcz113_2
            try clear hcz113_3
            try clear hcz114_0
            try clear hcz114_1
            try clear hcz121_0
            try clear hcz121_1
            try clear hcz123_0
            try clear hcz123_1
            try clear hcz128_0
            try clear hcz128_1
            try clear hcz128_2
            try clear hcz128_3
            try clear hcz129_0
            try clear hcz129_1
            try clear hcz132_0
            try clear hcz132_1
            try clear hcz134_0
            try clear hcz134_1
            try clear hcz139_0
            try clear hcz139_1
            try clear hcz139_2
            try clear hcz139_3
            try clear hcz13_0
            try clear hcz13_1
            try clear hcz140_0
            try clear hcz140_1
            try clear hcz143_0
            try clear hcz143_1
            try clear hcz145_0
            try clear hcz145_1
            try clear hcz150_0
            try clear hcz150_1
            try clear hcz150_2
            try clear hcz150_3
            try clear hcz151_0
            try clear hcz151_1
            try clear hcz154_0
            try clear hcz154_1
            try clear hcz156_0
            try clear hcz156_1
            try clear hcz161_0
            try clear hcz161_1
            try clear hcz161_2
            try clear hcz161_3
            try clear hcz162_0
            try clear hcz162_1
            try clear hcz167_0
            try clear hcz167_1
            try clear hcz173_0
            try clear hcz173_1
            try clear hcz21_0
            try clear hcz21_1
            try clear hcz27_0
            try clear hcz27_1
            try clear hcz29_0
            try clear hcz29_1
            try clear hcz34_0
            try clear hcz34_1
            try clear hcz34_2
            try clear hcz34_3
            try clear hcz35_0
            try clear hcz35_1
            try clear hcz42_0
            try clear hcz42_1
            try clear hcz44_0
            try clear hcz44_1
            try clear hcz49_0
            try clear hcz49_1
            try clear hcz49_2
            try clear hcz49_3
            try clear hcz50_0
            try clear hcz50_1
            try clear hcz53_0
            try clear hcz53_1
            try clear hcz55_0
            try clear hcz55_1
            try clear hcz60_0
            try clear hcz60_1
            try clear hcz60_2
            try clear hcz60_3
            try clear hcz61_0
            try clear hcz61_1
            try clear hcz64_0
            try clear hcz64_1
            try clear hcz66_0
            try clear hcz66_1
            try clear hcz71_0
            try clear hcz71_1
            try clear hcz71_2
            try clear hcz71_3
            try clear hcz72_0
            try clear hcz72_1
            try clear hcz75_0
            try clear hcz75_1
            try clear hcz77_0
            try clear hcz77_1
            try clear hcz7_0
            try clear hcz7_1
            try clear hcz82_0
            try clear hcz82_1
            try clear hcz82_2
            try clear hcz82_3
            try clear hcz83_0
            try clear hcz83_1
            try clear hcz88_0
            try clear hcz88_1
            try clear hcz94_0
            try clear hcz94_1
            try clear hfz100_0
            try clear hfz100_1
            try clear hfz106_0
            try clear hfz106_1
            try clear hfz108_0
            try clear hfz108_1
            try clear hfz113_0
            try clear hfz113_1
            try clear hfz113_2
            try clear hfz113_3
            try clear hfz114_0
            try clear hfz114_1
            try clear hfz121_0
            try clear hfz121_1
            try clear hfz123_0
            try clear hfz123_1
            try clear hfz128_0
            try clear hfz128_1
            try clear hfz128_2
            try clear hfz128_3
            try clear hfz129_0
            try clear hfz129_1
            try clear hfz132_0
            try clear hfz132_1
            try clear hfz134_0
            try clear hfz134_1
            try clear hfz139_0
            try clear hfz139_1
            try clear hfz139_2
            try clear hfz139_3
            try clear hfz13_0
            try clear hfz13_1
            try clear hfz140_0
            try clear hfz140_1
            try clear hfz143_0
            try clear hfz143_1
            try clear hfz145_0
            try clear hfz145_1
            try clear hfz150_0
            try clear hfz150_1
            try clear hfz150_2
            try clear hfz150_3
            try clear hfz151_0
            try clear hfz151_1
            try clear hfz154_0
            try clear hfz154_1
            try clear hfz156_0
            try clear hfz156_1
            try clear hfz161_0
            try clear hfz161_1
            try clear hfz161_2
            try clear hfz161_3
            try clear hfz162_0
            try clear hfz162_1
            try clear hfz167_0
            try clear hfz167_1
            try clear hfz173_0
            try clear hfz173_1
            try clear hfz21_0
            try clear hfz21_1
            try clear hfz27_0
            try clear hfz27_1
            try clear hfz29_0
            try clear hfz29_1
            try clear hfz34_0
            try clear hfz34_1
            try clear hfz34_2
            try clear hfz34_3
            try clear hfz35_0
            try clear hfz35_1
            try clear hfz42_0
            try clear hfz42_1
            try clear hfz44_0
            try clear hfz44_1
            try clear hfz49_0
            try clear hfz49_1
            try clear hfz49_2
            try clear hfz49_3
            try clear hfz50_0
            try clear hfz50_1
            try clear hfz53_0
            try clear hfz53_1
            try clear hfz55_0
            try clear hfz55_1
            try clear hfz60_0
            try clear hfz60_1
            try clear hfz60_2
            try clear hfz60_3
            try clear hfz61_0
            try clear hfz61_1
            try clear hfz64_0
            try clear hfz64_1
            try clear hfz66_0
            try clear hfz66_1
            try clear hfz71_0
            try clear hfz71_1
            try clear hfz71_2
            try clear hfz71_3
            try clear hfz72_0
            try clear hfz72_1
            try clear hfz75_0
            try clear hfz75_1
            try clear hfz77_0
            try clear hfz77_1
            try clear hfz7_0
            try clear hfz7_1
            try clear hfz82_0
            try clear hfz82_1
            try clear hfz82_2
            try clear hfz82_3
            try clear hfz83_0
            try clear hfz83_1
            try clear hfz88_0
            try clear hfz88_1
            try clear hfz94_0
            try clear hfz94_1
            try clear p1
            try clear p11
            try clear p171
            try clear p2
            try clear p6
            try clear p64
            try clear p9
            try clear p92
            try clear q1
            try clear q11
            try clear q171
            try clear q9
            try clear q92
            obtain ⟨kq, x7_171, rfl, HA, HJ171, BK302, HB⟩ := hcut
            cases kq with
            | zero => exact absurd HA.out (by simp [date_Parse.j6])
            | succ kj171 =>
             have H := HA.out
             clear HA
             simp only [date_Parse.j6] at H
             replace H := Option.bind_eq_some_iff.mp H
             obtain ⟨⟨t311, t312⟩, A1770, H⟩ := H
             replace H : (if t312 = true then (date_Parse.l3 kj171 a0 x16_1 (wrap64 (x20_2 + 1)) false true false t303 t304 t305 t306 t307 t308 t309 false) else ((date_third.f kj171 t311 t312).bind fun bt313 => ((date_Days.f kj171 bt313.1 bt313.2.1 bt313.2.2.1).bind fun bt320 => (if bt313.2.2.2.2.2 = true then (date_Parse.l3 kj171 a0 x16_1 (wrap64 (x20_2 + 1)) false true false t303 t304 t305 t306 t307 t308 t309 false) else (if bt313.2.2.2.2.1.toList = ([] : List UInt8) then (if bt320.2 = 0 then ((date_Weekday.f bt320.1).bind fun t322 => (if t322 = x20_2 then (some (wrap64 ((wrap64 (bt320.1 * 86400)) + bt313.2.2.2.1), 0)) else (date_Parse.l3 kj171 a0 x16_1 (wrap64 (x20_2 + 1)) false true false t303 t304 t305 t306 t307 t308 t309 false))) else (date_Parse.l3 kj171 a0 x16_1 (wrap64 (x20_2 + 1)) false true false t303 t304 t305 t306 t307 t308 t309 false)) else (date_Parse.l3 kj171 a0 x16_1 (wrap64 (x20_2 + 1)) false true false t303 t304 t305 t306 t307 t308 t309 false)))))) = some (r1, r2) := H
             have A177 := Aside0.mk A1770
             clear A1770
             by_cases c178 : t312 = true
             ·subst c178
              have H1 : (date_Parse.l3 kj171 a0 x16_1 (wrap64 (x20_2 + 1)) false true false t303 t304 t305 t306 t307 t308 t309 false) = some (r1, r2) := by rw [if_pos rfl] at H; exact H
              clear H
              have H := H1
              clear H1
              have H' := Aside0.mk H
              clear H
              go_wp2_with (first | ((with_reducible refine gate_dst (N := 31) rfl ?_); refine box_event ?hg (N := 31) ?hd (cs := #[.string a0, .bool false]) (t := 67) ?hr ?_; (case hd => rfl); (case hg => rfl); (case hr => first | (go_simp; done) | (go_simp; rfl)); intro gb310 hg w179 hbox hb; have n0_ := Aside0.mk (blk_below (g := gb302) (o := .cells #[.bool false, .func (.func 43) #[] #[]] 63 (0, 0)) (by (with_reducible repeat (first | refine blk_drewN ?_ _ | refine blk_drew ?_ | refine blk_alloc ?_ _)); exact BK302.out) hb); have n1_ := Aside0.mk (below_step (by repeat (first | (with_reducible first | exact HB.out | apply below_alloc | apply pw_below_drewN | apply below_drew1 | refine below_set ?_ GE302.out) | exact HB.out)) hb); have n2_ := Aside0.mk ((show IsS67 w w179 gb310 a0 false from ⟨hbox, (by rw [hg]; exact (below_size (by repeat (first | (with_reducible first | exact HB.out | apply below_alloc | apply pw_below_drewN | apply below_drew1 | refine below_set ?_ GE302.out) | exact HB.out))))⟩)); have n3_ := Aside0.mk ((by rw [hg]; exact (below_size (by repeat (first | (with_reducible first | exact HB.out | apply below_alloc | apply pw_below_drewN | apply below_drew1 | refine below_set ?_ GE302.out) | exact HB.out))) : w.heap.size ≤ gb310)); have n4_ := Aside0.mk ((by rw [hg]; exact (below_size (by repeat (first | (with_reducible first | exact HB.out | apply below_alloc | apply pw_below_drewN | apply below_drew1 | refine below_set ?_ GE302.out) | exact HB.out))) : w.heap.size ≤ gb310)); have n5_ := Aside0.mk ((by rw [hg]; exact Nat.ne_of_lt (blk_lt (g := gb302) (o := .cells #[.bool false, .func (.func 43) #[] #[]] 63 (0, 0)) (by (with_reducible repeat (first | refine blk_drewN ?_ _ | refine blk_drew ?_ | refine blk_alloc ?_ _)); exact BK302.out)) : gb302 ≠ gb310)); have n6_ := Aside0.mk ((by rw [hg]; exact Nat.ne_of_gt (blk_lt (g := gb302) (o := .cells #[.bool false, .func (.func 43) #[] #[]] 63 (0, 0)) (by (with_reducible repeat (first | refine blk_drewN ?_ _ | refine blk_drew ?_ | refine blk_alloc ?_ _)); exact BK302.out)) : gb310 ≠ gb302)); clear BK302; clear HB; have BK302 := n0_; have HB := n1_; have HI310 := n2_; have GW310 := n3_; have GE310 := n4_; have NB302_310 := n5_; have NB310_302 := n6_; clear n0_ n1_ n2_ n3_ n4_ n5_ n6_; clear hb hbox hg) | ((with_reducible refine gate_callee (f := 44) rfl ?_); refine goesL_ (some 34) rfl rfl Try.func44 (by kernel_rfl) rfl #[.pointer (some ⟨gb310, 0, none⟩), .string x7_171] rfl (by (try simp only [List.map_toArray, List.map_cons, List.map_nil]); first | done | rfl | (simp only [List.length_drop, List.length_take]; rfl)) ?_; (with_reducible refine (date_scan_word.calls gb310 a0 false x7_171 t311 true w _ ?side1 ?side2 A177.out).mono ?_); (case side1 => repeat (first | (with_reducible first | exact HI310.out | apply IsS67.alloc | apply IsS67.drewN | apply IsS67.drew | apply IsS67.set_0 | apply IsS67.set_1 | (apply IsS67.far; rotate_left; exact NB310_302.out; rotate_right)) | exact HI310.out)); (case side2 => repeat (first | (with_reducible first | exact HB.out | apply below_alloc | apply pw_below_drewN | apply below_drew1 | refine below_set ?_ (IsS67.ge HI310.out) | refine below_set ?_ GE302.out) | exact HB.out)); rintro e w180 ⟨rfl, hi, hb, hk⟩; refine ⟨_, rfl, ?_⟩; have n0_ := Aside0.mk (KeepBut.blk hk (g' := gb302) (o := .cells #[.bool false, .func (.func 43) #[] #[]] 63 (0, 0)) (by (with_reducible repeat (first | refine blk_drewN ?_ _ | refine blk_drew ?_ | refine blk_alloc ?_ _)); exact BK302.out) NB302_310.out (by simp)); have n1_ := Aside0.mk (hb); have n2_ := Aside0.mk (hi); clear BK302; clear HB; clear HI310; have BK302 := n0_; have HB := n1_; have HI310 := n2_; clear n0_ n1_ n2_; (try clear hb); (try clear hb2); (try clear hk); (try clear hi); obtain ⟨HGz181, hgz181⟩ := HI310.out; have hcz181_0 := cellS67_0 HGz181; have hcz181_1 := cellS67_1 HGz181; have hfz181_0 := blk_frozen HGz181 0; have hfz181_1 := blk_frozen HGz181 1; clear HGz181 hgz181))
              go_roundg kj171
              case measure => have := HK1.out; have := HK2.out; have := HJ171.out; omega
              case rel => exact ⟨(wrap64 (x20_2 + 1)), (by first | rfl | (simp; done) | (simp [*]; done)), H', ⟨by have := HK1.out; have := HK2.out; have := HJ171.out; omega⟩, ⟨by (with_reducible repeat (first | refine blk_drewN ?_ _ | refine blk_drew ?_ | refine blk_alloc ?_ _)); exact BK302.out⟩, ⟨by repeat (first | (with_reducible first | exact HB.out | apply below_alloc | apply pw_below_drewN | apply below_drew1 | refine below_set ?_ (IsS67.ge HI310.out) | refine below_set ?_ GE302.out) | exact HB.out)⟩⟩
             ·replace c178 := Bool.eq_false_iff.mpr c178
              subst c178
              have H1 : ((date_third.f kj171 t311 false).bind fun bt313 => ((date_Days.f kj171 bt313.1 bt313.2.1 bt313.2.2.1).bind fun bt320 => (if bt313.2.2.2.2.2 = true then (date_Parse.l3 kj171 a0 x16_1 (wrap64 (x20_2 + 1)) false true false t303 t304 t305 t306 t307 t308 t309 false) else (if bt313.2.2.2.2.1.toList = ([] : List UInt8) then (if bt320.2 = 0 then ((date_Weekday.f bt320.1).bind fun t322 => (if t322 = x20_2 then (some (wrap64 ((wrap64 (bt320.1 * 86400)) + bt313.2.2.2.1), 0)) else (date_Parse.l3 kj171 a0 x16_1 (wrap64 (x20_2 + 1)) false true false t303 t304 t305 t306 t307 t308 t309 false))) else (date_Parse.l3 kj171 a0 x16_1 (wrap64 (x20_2 + 1)) false true false t303 t304 t305 t306 t307 t308 t309 false)) else (date_Parse.l3 kj171 a0 x16_1 (wrap64 (x20_2 + 1)) false true false t303 t304 t305 t306 t307 t308 t309 false))))) = some (r1, r2) := by rw [if_neg (show ¬ (false = true) by decide)] at H; exact H
              clear H
              have H := H1
              clear H1
              replace H := Option.bind_eq_some_iff.mp H
              obtain ⟨⟨t313, t314, t315, t316, t317, t318⟩, A1820, H⟩ := H
              replace H : ((date_Days.f kj171 t313 t314 t315).bind fun bt320 => (if t318 = true then (date_Parse.l3 kj171 a0 x16_1 (wrap64 (x20_2 + 1)) false true false t303 t304 t305 t306 t307 t308 t309 false) else (if t317.toList = ([] : List UInt8) then (if bt320.2 = 0 then ((date_Weekday.f bt320.1).bind fun t322 => (if t322 = x20_2 then (some (wrap64 ((wrap64 (bt320.1 * 86400)) + t316), 0)) else (date_Parse.l3 kj171 a0 x16_1 (wrap64 (x20_2 + 1)) false true false t303 t304 t305 t306 t307 t308 t309 false))) else (date_Parse.l3 kj171 a0 x16_1 (wrap64 (x20_2 + 1)) false true false t303 t304 t305 t306 t307 t308 t309 false)) else (date_Parse.l3 kj171 a0 x16_1 (wrap64 (x20_2 + 1)) false true false t303 t304 t305 t306 t307 t308 t309 false)))) = some (r1, r2) := H
              have A182 := Aside0.mk A1820
              clear A1820
              replace H := Option.bind_eq_some_iff.mp H
              obtain ⟨⟨t320, t321⟩, A1830, H⟩ := H
              replace H : (if t318 = true then (date_Parse.l3 kj171 a0 x16_1 (wrap64 (x20_2 + 1)) false true false t303 t304 t305 t306 t307 t308 t309 false) else (if t317.toList = ([] : List UInt8) then (if t321 = 0 then ((date_Weekday.f t320).bind fun t322 => (if t322 = x20_2 then (some (wrap64 ((wrap64 (t320 * 86400)) + t316), 0)) else (date_Parse.l3 kj171 a0 x16_1 (wrap64 (x20_2 + 1)) false true false t303 t304 t305 t306 t307 t308 t309 false))) else (date_Parse.l3 kj171 a0 x16_1 (wrap64 (x20_2 + 1)) false true false t303 t304 t305 t306 t307 t308 t309 false)) else (date_Parse.l3 kj171 a0 x16_1 (wrap64 (x20_2 + 1)) false true false t303 t304 t305 t306 t307 t308 t309 false))) = some (r1, r2) := H
              have A183 := Aside0.mk A1830
              clear A1830
              by_cases c184 : t318 = true
              ·subst c184
               have H1 : (date_Parse.l3 kj171 a0 x16_1 (wrap64 (x20_2 + 1)) false true false t303 t304 t305 t306 t307 t308 t309 false) = some (r1, r2) := by rw [if_pos rfl] at H; exact H
               clear H
               have H := H1
               clear H1
               have H' := Aside0.mk H
               clear H
               go_wp2_with (first | ((with_reducible refine gate_dst (N := 31) rfl ?_); refine box_event ?hg (N := 31) ?hd (cs := #[.string a0, .bool false]) (t := 67) ?hr ?_; (case hd => rfl); (case hg => rfl); (case hr => first | (go_simp; done) | (go_simp; rfl)); intro gb310 hg w185 hbox hb; have n0_ := Aside0.mk (blk_below (g := gb302) (o := .cells #[.bool false, .func (.func 43) #[] #[]] 63 (0, 0)) (by (with_reducible repeat (first | refine blk_drewN ?_ _ | refine blk_drew ?_ | refine blk_alloc ?_ _)); exact BK302.out) hb); have n1_ := Aside0.mk (below_step (by repeat (first | (with_reducible first | exact HB.out | apply below_alloc | apply pw_below_drewN | apply below_drew1 | refine below_set ?_ GE302.out) | exact HB.out)) hb); have n2_ := Aside0.mk ((show IsS67 w w185 gb310 a0 false from ⟨hbox, (by rw [hg]; exact (below_size (by repeat (first | (with_reducible first | exact HB.out | apply below_alloc | apply pw_below_drewN | apply below_drew1 | refine below_set ?_ GE302.out) | exact HB.out))))⟩)); have n3_ := Aside0.mk ((by rw [hg]; exact (below_size (by repeat (first | (with_reducible first | exact HB.out | apply below_alloc | apply pw_below_drewN | apply below_drew1 | refine below_set ?_ GE302.out) | exact HB.out))) : w.heap.size ≤ gb310)); have n4_ := Aside0.mk ((by rw [hg]; exact (below_size (by repeat (first | (with_reducible first | exact HB.out | apply below_alloc | apply pw_below_drewN | apply below_drew1 | refine below_set ?_ GE302.out) | exact HB.out))) : w.heap.size ≤ gb310)); have n5_ := Aside0.mk ((by rw [hg]; exact Nat.ne_of_lt (blk_lt (g := gb302) (o := .cells #[.bool false, .func (.func 43) #[] #[]] 63 (0, 0)) (by (with_reducible repeat (first | refine blk_drewN ?_ _ | refine blk_drew ?_ | refine blk_alloc ?_ _)); exact BK302.out)) : gb302 ≠ gb310)); have n6_ := Aside0.mk ((by rw [hg]; exact Nat.ne_of_gt (blk_lt (g := gb302) (o := .cells #[.bool false, .func (.func 43) #[] #[]] 63 (0, 0)) (by (with_reducible repeat (first | refine blk_drewN ?_ _ | refine blk_drew ?_ | refine blk_alloc ?_ _)); exact BK302.out)) : gb310 ≠ gb302)); clear BK302; clear HB; have BK302 := n0_; have HB := n1_; have HI310 := n2_; have GW310 := n3_; have GE310 := n4_; have NB302_310 := n5_; have NB310_302 := n6_; clear n0_ n1_ n2_ n3_ n4_ n5_ n6_; clear hb hbox hg) | ((with_reducible refine gate_callee (f := 44) rfl ?_); refine goesL_ (some 34) rfl rfl Try.func44 (by kernel_rfl) rfl #[.pointer (some ⟨gb310, 0, none⟩), .string x7_171] rfl (by (try simp only [List.map_toArray, List.map_cons, List.map_nil]); first | done | rfl | (simp only [List.length_drop, List.length_take]; rfl)) ?_; (with_reducible refine (date_scan_word.calls gb310 a0 false x7_171 t311 false w _ ?side1 ?side2 A177.out).mono ?_); (case side1 => repeat (first | (with_reducible first | exact HI310.out | apply IsS67.alloc | apply IsS67.drewN | apply IsS67.drew | apply IsS67.set_0 | apply IsS67.set_1 | (apply IsS67.far; rotate_left; exact NB310_302.out; rotate_right)) | exact HI310.out)); (case side2 => repeat (first | (with_reducible first | exact HB.out | apply below_alloc | apply pw_below_drewN | apply below_drew1 | refine below_set ?_ (IsS67.ge HI310.out) | refine below_set ?_ GE302.out) | exact HB.out)); rintro e w186 ⟨rfl, hi, hb, hk⟩; refine ⟨_, rfl, ?_⟩; have n0_ := Aside0.mk (KeepBut.blk hk (g' := gb302) (o := .cells #[.bool false, .func (.func 43) #[] #[]] 63 (0, 0)) (by (with_reducible repeat (first | refine blk_drewN ?_ _ | refine blk_drew ?_ | refine blk_alloc ?_ _)); exact BK302.out) NB302_310.out (by simp)); have n1_ := Aside0.mk (hb); have n2_ := Aside0.mk (hi); clear BK302; clear HB; clear HI310; have BK302 := n0_; have HB := n1_; have HI310 := n2_; clear n0_ n1_ n2_; (try clear hb); (try clear hb2); (try clear hk); (try clear hi); obtain ⟨HGz187, hgz187⟩ := HI310.out; have hcz187_0 := cellS67_0 HGz187; have hcz187_1 := cellS67_1 HGz187; have hfz187_0 := blk_frozen HGz187 0; have hfz187_1 := blk_frozen HGz187 1; clear HGz187 hgz187; have hnb188 := NB302_310.out; have hnc188 := NB310_302.out; have hcz189_0 : w186.cell? ⟨gb302, 0, none⟩ = some (.bool false) := (blk_cell BK302.out 0).trans rfl; have hcz189_1 : w186.cell? ⟨gb302, 1, none⟩ = some (.func (.func 43) #[] #[]) := (blk_cell BK302.out 1).trans rfl; have hfz189_0 := blk_frozen BK302.out 0; have hfz189_1 := blk_frozen BK302.out 1) | ((with_reducible refine gate_calleeV (x := .tmp 40) rfl ?_); refine goesV_ (.tmp 40) (some 42) rfl rfl Try.func43 (by kernel_rfl) rfl #[.pointer (some ⟨gb310, 0, none⟩)] rfl rfl (by (try simp only [List.map_toArray, List.map_cons, List.map_nil]); first | done | rfl) ?_; (with_reducible refine (date_third.calls kj171 gb310 t311 false t313 t314 t315 t316 t317 true w _ ?side1 ?side2 A182.out).mono ?_); (case side1 => repeat (first | (with_reducible first | exact HI310.out | apply IsS67.alloc | apply IsS67.drewN | apply IsS67.drew | apply IsS67.set_0 | apply IsS67.set_1 | (apply IsS67.far; rotate_left; exact NB310_302.out; rotate_right)) | exact HI310.out)); (case side2 => repeat (first | (with_reducible first | exact HB.out | apply below_alloc | apply pw_below_drewN | apply below_drew1 | refine below_set ?_ (IsS67.ge HI310.out) | refine below_set ?_ GE302.out) | exact HB.out)); rintro e w190 ⟨rfl, hi, hb, hk⟩; refine ⟨_, rfl, ?_⟩; have n0_ := Aside0.mk (KeepBut.blk hk (g' := gb302) (o := .cells #[.bool false, .func (.func 43) #[] #[]] 63 (0, 0)) (by (with_reducible repeat (first | refine blk_drewN ?_ _ | refine blk_drew ?_ | refine blk_alloc ?_ _)); exact BK302.out) NB302_310.out (by simp)); have n1_ := Aside0.mk (hb); have n2_ := Aside0.mk (hi); clear BK302; clear HB; clear HI310; have BK302 := n0_; have HB := n1_; have HI310 := n2_; clear n0_ n1_ n2_; (try clear hb); (try clear hb2); (try clear hk); (try clear hi)) | ((with_reducible refine gate_dst (N := 9) rfl ?_); refine box_event ?hg (N := 9) ?hd (cs := #[.int .i64 0, .int .i64 0, .int .i64 0, .int .i64 0]) (t := 70) ?hr ?_; (case hd => rfl); (case hg => rfl); (case hr => first | (go_simp; done) | (go_simp; rfl)); intro gb319 hg w191 hbox hb; have n0_ := Aside0.mk (blk_below (g := gb302) (o := .cells #[.bool false, .func (.func 43) #[] #[]] 63 (0, 0)) (by (with_reducible repeat (first | refine blk_drewN ?_ _ | refine blk_drew ?_ | refine blk_alloc ?_ _)); exact BK302.out) hb); have n1_ := Aside0.mk (IsS67.below (by repeat (first | (with_reducible first | exact HI310.out | apply IsS67.alloc | apply IsS67.drewN | apply IsS67.drew | apply IsS67.set_0 | apply IsS67.set_1 | (apply IsS67.far; rotate_left; exact NB310_302.out; rotate_right)) | exact HI310.out)) hb); have n2_ := Aside0.mk (below_step (by repeat (first | (with_reducible first | exact HB.out | apply below_alloc | apply pw_below_drewN | apply below_drew1 | refine below_set ?_ (IsS67.ge HI310.out) | refine below_set ?_ GE302.out) | exact HB.out)) hb); have n3_ := Aside0.mk (hbox); have n4_ := Aside0.mk ((by rw [hg]; exact (below_size (by repeat (first | (with_reducible first | exact HB.out | apply below_alloc | apply pw_below_drewN | apply below_drew1 | refine below_set ?_ (IsS67.ge HI310.out) | refine below_set ?_ GE302.out) | exact HB.out))) : w.heap.size ≤ gb319)); have n5_ := Aside0.mk ((by rw [hg]; exact (below_size (by repeat (first | (with_reducible first | exact HB.out | apply below_alloc | apply pw_below_drewN | apply below_drew1 | refine below_set ?_ (IsS67.ge HI310.out) | refine below_set ?_ GE302.out) | exact HB.out))) : w.heap.size ≤ gb319)); have n6_ := Aside0.mk ((by rw [hg]; exact Nat.ne_of_lt (blk_lt (g := gb302) (o := .cells #[.bool false, .func (.func 43) #[] #[]] 63 (0, 0)) (by (with_reducible repeat (first | refine blk_drewN ?_ _ | refine blk_drew ?_ | refine blk_alloc ?_ _)); exact BK302.out)) : gb302 ≠ gb319)); have n7_ := Aside0.mk ((by rw [hg]; exact Nat.ne_of_gt (blk_lt (g := gb302) (o := .cells #[.bool false, .func (.func 43) #[] #[]] 63 (0, 0)) (by (with_reducible repeat (first | refine blk_drewN ?_ _ | refine blk_drew ?_ | refine blk_alloc ?_ _)); exact BK302.out)) : gb319 ≠ gb302)); have n8_ := Aside0.mk ((by rw [hg]; exact Nat.ne_of_lt (IsS67.lt (show IsS67 w _ gb310 t317 true from by repeat (first | (with_reducible first | exact HI310.out | apply IsS67.alloc | apply IsS67.drewN | apply IsS67.drew | apply IsS67.set_0 | apply IsS67.set_1 | (apply IsS67.far; rotate_left; exact NB310_302.out; rotate_right)) | exact HI310.out))) : gb310 ≠ gb319)); have n9_ := Aside0.mk ((by rw [hg]; exact Nat.ne_of_gt (IsS67.lt (show IsS67 w _ gb310 t317 true from by repeat (first | (with_reducible first | exact HI310.out | apply IsS67.alloc | apply IsS67.drewN | apply IsS67.drew | apply IsS67.set_0 | apply IsS67.set_1 | (apply IsS67.far; rotate_left; exact NB310_302.out; rotate_right)) | exact HI310.out))) : gb319 ≠ gb310)); clear BK302; clear HI310; clear HB; have BK302 := n0_; have HI310 := n1_; have HB := n2_; have BK319 := n3_; have GW319 := n4_; have GE319 := n5_; have NB302_319 := n6_; have NB319_302 := n7_; have NB310_319 := n8_; have NB319_310 := n9_; clear n0_ n1_ n2_ n3_ n4_ n5_ n6_ n7_ n8_ n9_; clear hb hbox hg; have hnb192 := NB319_302.out; have hnc192 := NB302_319.out; have hnb193 := NB319_310.out; have hnc193 := NB310_319.out; have hcz194_0 : w191.cell? ⟨gb319, 0, none⟩ = some (.int .i64 0) := (blk_cell BK319.out 0).trans rfl; have hcz194_1 : w191.cell? ⟨gb319, 1, none⟩ = some (.int .i64 0) := (blk_cell BK319.out 1).trans rfl; have hcz194_2 : w191.cell? ⟨gb319, 2, none⟩ = some (.int .i64 0) := (blk_cell BK319.out 2).trans rfl; have hcz194_3 : w191.cell? ⟨gb319, 3, none⟩ = some (.int .i64 0) := (blk_cell BK319.out 3).trans rfl; have hfz194_0 := blk_frozen BK319.out 0; have hfz194_1 := blk_frozen BK319.out 1; have hfz194_2 := blk_frozen BK319.out 2; have hfz194_3 := blk_frozen BK319.out 3) | ((with_reducible refine gate_callee (f := 10) rfl ?_); refine goesL_ (some 50) rfl rfl Try.func10 (by kernel_rfl) rfl #[.int .i64 t313, .int .i64 t314, .int .i64 t315] rfl (by (try simp only [List.map_toArray, List.map_cons, List.map_nil]); first | done | rfl | (simp only [List.length_drop, List.length_take]; rfl)) ?_; (with_reducible refine (date_Days.calls kj171 t313 t314 t315 t320 t321 _ A183.out).mono ?_); rintro e w' ⟨rfl, ⟨nd, rfl⟩⟩; refine ⟨_, rfl, ?_⟩; obtain ⟨HGz195, hgz195⟩ := HI310.out; have hcz195_0 := cellS67_0 HGz195; have hcz195_1 := cellS67_1 HGz195; have hfz195_0 := blk_frozen HGz195 0; have hfz195_1 := blk_frozen HGz195 1; clear HGz195 hgz195))
               go_roundg kj171
               case measure => have := HK1.out; have := HK2.out; have := HJ171.out; omega
               case rel => exact ⟨(wrap64 (x20_2 + 1)), (by first | rfl | (simp; done) | (simp [*]; done)), H', ⟨by have := HK1.out; have := HK2.out; have := HJ171.out; omega⟩, ⟨by (with_reducible repeat (first | refine blk_drewN ?_ _ | refine blk_drew ?_ | refine blk_alloc ?_ _)); refine blk_far ?_ NB302_319.out _; (with_reducible repeat (first | refine blk_drewN ?_ _ | refine blk_drew ?_ | refine blk_alloc ?_ _)); refine blk_far ?_ NB302_319.out _; (with_reducible repeat (first | refine blk_drewN ?_ _ | refine blk_drew ?_ | refine blk_alloc ?_ _)); refine blk_far ?_ NB302_319.out _; (with_reducible repeat (first | refine blk_drewN ?_ _ | refine blk_drew ?_ | refine blk_alloc ?_ _)); refine blk_far ?_ NB302_319.out _; (with_reducible repeat (first | refine blk_drewN ?_ _ | refine blk_drew ?_ | refine blk_alloc ?_ _)); exact BK302.out⟩, ⟨by repeat (first | (with_reducible first | exact HB.out | apply below_alloc | apply pw_below_drewN | apply below_drew1 | refine below_set ?_ (IsS67.ge HI310.out) | refine below_set ?_ GE302.out | refine below_set ?_ GE319.out) | exact HB.out)⟩⟩
              ·replace c184 := Bool.eq_false_iff.mpr c184
               subst c184
               have H1 : (if t317.toList = ([] : List UInt8) then (if t321 = 0 then ((date_Weekday.f t320).bind fun t322 => (if t322 = x20_2 then (some (wrap64 ((wrap64 (t320 * 86400)) + t316), 0)) else (date_Parse.l3 kj171 a0 x16_1 (wrap64 (x20_2 + 1)) false true false t303 t304 t305 t306 t307 t308 t309 false))) else (date_Parse.l3 kj171 a0 x16_1 (wrap64 (x20_2 + 1)) false true false t303 t304 t305 t306 t307 t308 t309 false)) else (date_Parse.l3 kj171 a0 x16_1 (wrap64 (x20_2 + 1)) false true false t303 t304 t305 t306 t307 t308 t309 false)) = some (r1, r2) := by rw [if_neg (show ¬ (false = true) by decide)] at H; exact H
               clear H
               have H := H1
               clear H1
               by_cases c196 : t317.toList = ([] : List UInt8)
               ·rw [if_pos c196] at H
                have c196b0 : (t317.toList == ([] : List UInt8)) = true := beq_iff_eq.mpr c196
                have c196b1 : (t317.toList != ([] : List UInt8)) = false := bne_eq_false_iff_eq.mpr c196
                clear c196
                by_cases c197 : t321 = 0
                ·rw [if_pos c197] at H
                 have c197b0 : (t321 == 0) = true := beq_iff_eq.mpr c197
                 have c197b1 : (t321 != 0) = false := bne_eq_false_iff_eq.mpr c197
                 clear c197
                 replace H := Option.bind_eq_some_iff.mp H
                 obtain ⟨t322, A1980, H⟩ := H
                 have A198 := Aside0.mk A1980
                 clear A1980
                 by_cases c199 : t322 = x20_2
                 ·rw [if_pos c199] at H
                  have c199b0 : (t322 == x20_2) = true := beq_iff_eq.mpr c199
                  have c199b1 : (t322 != x20_2) = false := bne_eq_false_iff_eq.mpr c199
                  clear c199
                  simp only [Option.some.injEq, Prod.mk.injEq] at H
                  obtain ⟨rfl, rfl⟩ := H
                  go_wp2_with (first | ((with_reducible refine gate_dst (N := 31) rfl ?_); refine box_event ?hg (N := 31) ?hd (cs := #[.string a0, .bool false]) (t := 67) ?hr ?_; (case hd => rfl); (case hg => rfl); (case hr => first | (go_simp; done) | (go_simp; rfl)); intro gb310 hg w200 hbox hb; have n0_ := Aside0.mk (blk_below (g := gb302) (o := .cells #[.bool false, .func (.func 43) #[] #[]] 63 (0, 0)) (by (with_reducible repeat (first | refine blk_drewN ?_ _ | refine blk_drew ?_ | refine blk_alloc ?_ _)); exact BK302.out) hb); have n1_ := Aside0.mk (below_step (by repeat (first | (with_reducible first | exact HB.out | apply below_alloc | apply pw_below_drewN | apply below_drew1 | refine below_set ?_ GE302.out) | exact HB.out)) hb); have n2_ := Aside0.mk ((show IsS67 w w200 gb310 a0 false from ⟨hbox, (by rw [hg]; exact (below_size (by repeat (first | (with_reducible first | exact HB.out | apply below_alloc | apply pw_below_drewN | apply below_drew1 | refine below_set ?_ GE302.out) | exact HB.out))))⟩)); have n3_ := Aside0.mk ((by rw [hg]; exact (below_size (by repeat (first | (with_reducible first | exact HB.out | apply below_alloc | apply pw_below_drewN | apply below_drew1 | refine below_set ?_ GE302.out) | exact HB.out))) : w.heap.size ≤ gb310)); have n4_ := Aside0.mk ((by rw [hg]; exact (below_size (by repeat (first | (with_reducible first | exact HB.out | apply below_alloc | apply pw_below_drewN | apply below_drew1 | refine below_set ?_ GE302.out) | exact HB.out))) : w.heap.size ≤ gb310)); have n5_ := Aside0.mk ((by rw [hg]; exact Nat.ne_of_lt (blk_lt (g := gb302) (o := .cells #[.bool false, .func (.func 43) #[] #[]] 63 (0, 0)) (by (with_reducible repeat (first | refine blk_drewN ?_ _ | refine blk_drew ?_ | refine blk_alloc ?_ _)); exact BK302.out)) : gb302 ≠ gb310)); have n6_ := Aside0.mk ((by rw [hg]; exact Nat.ne_of_gt (blk_lt (g := gb302) (o := .cells #[.bool false, .func (.func 43) #[] #[]] 63 (0, 0)) (by (with_reducible repeat (first | refine blk_drewN ?_ _ | refine blk_drew ?_ | refine blk_alloc ?_ _)); exact BK302.out)) : gb310 ≠ gb302)); clear BK302; clear HB; have BK302 := n0_; have HB := n1_; have HI310 := n2_; have GW310 := n3_; have GE310 := n4_; have NB302_310 := n5_; have NB310_302 := n6_; clear n0_ n1_ n2_ n3_ n4_ n5_ n6_; clear hb hbox hg) | ((with_reducible refine gate_callee (f := 44) rfl ?_); refine goesL_ (some 34) rfl rfl Try.func44 (by kernel_rfl) rfl #[.pointer (some ⟨gb310, 0, none⟩), .string x7_171] rfl (by (try simp only [List.map_toArray, List.map_cons, List.map_nil]); first | done | rfl | (simp only [List.length_drop, List.length_take]; rfl)) ?_; (with_reducible refine (date_scan_word.calls gb310 a0 false x7_171 t311 false w _ ?side1 ?side2 A177.out).mono ?_); (case side1 => repeat (first | (with_reducible first | exact HI310.out | apply IsS67.alloc | apply IsS67.drewN | apply IsS67.drew | apply IsS67.set_0 | apply IsS67.set_1 | (apply IsS67.far; rotate_left; exact NB310_302.out; rotate_right)) | exact HI310.out)); (case side2 => repeat (first | (with_reducible first | exact HB.out | apply below_alloc | apply pw_below_drewN | apply below_drew1 | refine below_set ?_ (IsS67.ge HI310.out) | refine below_set ?_ GE302.out) | exact HB.out)); rintro e w201 ⟨rfl, hi, hb, hk⟩; refine ⟨_, rfl, ?_⟩; have n0_ := Aside0.mk (KeepBut.blk hk (g' := gb302) (o := .cells #[.bool false, .func (.func 43) #[] #[]] 63 (0, 0)) (by (with_reducible repeat (first | refine blk_drewN ?_ _ | refine blk_drew ?_ | refine blk_alloc ?_ _)); exact BK302.out) NB302_310.out (by simp)); have n1_ := Aside0.mk (hb); have n2_ := Aside0.mk (hi); clear BK302; clear HB; clear HI310; have BK302 := n0_; have HB := n1_; have HI310 := n2_; clear n0_ n1_ n2_; (try clear hb); (try clear hb2); (try clear hk); (try clear hi); obtain ⟨HGz202, hgz202⟩ := HI310.out; have hcz202_0 := cellS67_0 HGz202; have hcz202_1 := cellS67_1 HGz202; have hfz202_0 := blk_frozen HGz202 0; have hfz202_1 := blk_frozen HGz202 1; clear HGz202 hgz202; have hnb203 := NB302_310.out; have hnc203 := NB310_302.out; have hcz204_0 : w201.cell? ⟨gb302, 0, none⟩ = some (.bool false) := (blk_cell BK302.out 0).trans rfl; have hcz204_1 : w201.cell? ⟨gb302, 1, none⟩ = some (.func (.func 43) #[] #[]) := (blk_cell BK302.out 1).trans rfl; have hfz204_0 := blk_frozen BK302.out 0; have hfz204_1 := blk_frozen BK302.out 1) | ((with_reducible refine gate_calleeV (x := .tmp 40) rfl ?_); refine goesV_ (.tmp 40) (some 42) rfl rfl Try.func43 (by kernel_rfl) rfl #[.pointer (some ⟨gb310, 0, none⟩)] rfl rfl (by (try simp only [List.map_toArray, List.map_cons, List.map_nil]); first | done | rfl) ?_; (with_reducible refine (date_third.calls kj171 gb310 t311 false t313 t314 t315 t316 t317 false w _ ?side1 ?side2 A182.out).mono ?_); (case side1 => repeat (first | (with_reducible first | exact HI310.out | apply IsS67.alloc | apply IsS67.drewN | apply IsS67.drew | apply IsS67.set_0 | apply IsS67.set_1 | (apply IsS67.far; rotate_left; exact NB310_302.out; rotate_right)) | exact HI310.out)); (case side2 => repeat (first | (with_reducible first | exact HB.out | apply below_alloc | apply pw_below_drewN | apply below_drew1 | refine below_set ?_ (IsS67.ge HI310.out) | refine below_set ?_ GE302.out) | exact HB.out)); rintro e w205 ⟨rfl, hi, hb, hk⟩; refine ⟨_, rfl, ?_⟩; have n0_ := Aside0.mk (KeepBut.blk hk (g' := gb302) (o := .cells #[.bool false, .func (.func 43) #[] #[]] 63 (0, 0)) (by (with_reducible repeat (first | refine blk_drewN ?_ _ | refine blk_drew ?_ | refine blk_alloc ?_ _)); exact BK302.out) NB302_310.out (by simp)); have n1_ := Aside0.mk (hb); have n2_ := Aside0.mk (hi); clear BK302; clear HB; clear HI310; have BK302 := n0_; have HB := n1_; have HI310 := n2_; clear n0_ n1_ n2_; (try clear hb); (try clear hb2); (try clear hk); (try clear hi)) | ((with_reducible refine gate_dst (N := 9) rfl ?_); refine box_event ?hg (N := 9) ?hd (cs := #[.int .i64 0, .int .i64 0, .int .i64 0, .int .i64 0]) (t := 70) ?hr ?_; (case hd => rfl); (case hg => rfl); (case hr => first | (go_simp; done) | (go_simp; rfl)); intro gb319 hg w206 hbox hb; have n0_ := Aside0.mk (blk_below (g := gb302) (o := .cells #[.bool false, .func (.func 43) #[] #[]] 63 (0, 0)) (by (with_reducible repeat (first | refine blk_drewN ?_ _ | refine blk_drew ?_ | refine blk_alloc ?_ _)); exact BK302.out) hb); have n1_ := Aside0.mk (IsS67.below (by repeat (first | (with_reducible first | exact HI310.out | apply IsS67.alloc | apply IsS67.drewN | apply IsS67.drew | apply IsS67.set_0 | apply IsS67.set_1 | (apply IsS67.far; rotate_left; exact NB310_302.out; rotate_right)) | exact HI310.out)) hb); have n2_ := Aside0.mk (below_step (by repeat (first | (with_reducible first | exact HB.out | apply below_alloc | apply pw_below_drewN | apply below_drew1 | refine below_set ?_ (IsS67.ge HI310.out) | refine below_set ?_ GE302.out) | exact HB.out)) hb); have n3_ := Aside0.mk (hbox); have n4_ := Aside0.mk ((by rw [hg]; exact (below_size (by repeat (first | (with_reducible first | exact HB.out | apply below_alloc | apply pw_below_drewN | apply below_drew1 | refine below_set ?_ (IsS67.ge HI310.out) | refine below_set ?_ GE302.out) | exact HB.out))) : w.heap.size ≤ gb319)); have n5_ := Aside0.mk ((by rw [hg]; exact (below_size (by repeat (first | (with_reducible first | exact HB.out | apply below_alloc | apply pw_below_drewN | apply below_drew1 | refine below_set ?_ (IsS67.ge HI310.out) | refine below_set ?_ GE302.out) | exact HB.out))) : w.heap.size ≤ gb319)); have n6_ := Aside0.mk ((by rw [hg]; exact Nat.ne_of_lt (blk_lt (g := gb302) (o := .cells #[.bool false, .func (.func 43) #[] #[]] 63 (0, 0)) (by (with_reducible repeat (first | refine blk_drewN ?_ _ | refine blk_drew ?_ | refine blk_alloc ?_ _)); exact BK302.out)) : gb302 ≠ gb319)); have n7_ := Aside0.mk ((by rw [hg]; exact Nat.ne_of_gt (blk_lt (g := gb302) (o := .cells #[.bool false, .func (.func 43) #[] #[]] 63 (0, 0)) (by (with_reducible repeat (first | refine blk_drewN ?_ _ | refine blk_drew ?_ | refine blk_alloc ?_ _)); exact BK302.out)) : gb319 ≠ gb302)); have n8_ := Aside0.mk ((by rw [hg]; exact Nat.ne_of_lt (IsS67.lt (show IsS67 w _ gb310 t317 false from by repeat (first | (with_reducible first | exact HI310.out | apply IsS67.alloc | apply IsS67.drewN | apply IsS67.drew | apply IsS67.set_0 | apply IsS67.set_1 | (apply IsS67.far; rotate_left; exact NB310_302.out; rotate_right)) | exact HI310.out))) : gb310 ≠ gb319)); have n9_ := Aside0.mk ((by rw [hg]; exact Nat.ne_of_gt (IsS67.lt (show IsS67 w _ gb310 t317 false from by repeat (first | (with_reducible first | exact HI310.out | apply IsS67.alloc | apply IsS67.drewN | apply IsS67.drew | apply IsS67.set_0 | apply IsS67.set_1 | (apply IsS67.far; rotate_left; exact NB310_302.out; rotate_right)) | exact HI310.out))) : gb319 ≠ gb310)); clear BK302; clear HI310; clear HB; have BK302 := n0_; have HI310 := n1_; have HB := n2_; have BK319 := n3_; have GW319 := n4_; have GE319 := n5_; have NB302_319 := n6_; have NB319_302 := n7_; have NB310_319 := n8_; have NB319_310 := n9_; clear n0_ n1_ n2_ n3_ n4_ n5_ n6_ n7_ n8_ n9_; clear hb hbox hg; have hnb207 := NB319_302.out; have hnc207 := NB302_319.out; have hnb208 := NB319_310.out; have hnc208 := NB310_319.out; have hcz209_0 : w206.cell? ⟨gb319, 0, none⟩ = some (.int .i64 0) := (blk_cell BK319.out 0).trans rfl; have hcz209_1 : w206.cell? ⟨gb319, 1, none⟩ = some (.int .i64 0) := (blk_cell BK319.out 1).trans rfl; have hcz209_2 : w206.cell? ⟨gb319, 2, none⟩ = some (.int .i64 0) := (blk_cell BK319.out 2).trans rfl; have hcz209_3 : w206.cell? ⟨gb319, 3, none⟩ = some (.int .i64 0) := (blk_cell BK319.out 3).trans rfl; have hfz209_0 := blk_frozen BK319.out 0; have hfz209_1 := blk_frozen BK319.out 1; have hfz209_2 := blk_frozen BK319.out 2; have hfz209_3 := blk_frozen BK319.out 3) | ((with_reducible refine gate_callee (f := 10) rfl ?_); refine goesL_ (some 50) rfl rfl Try.func10 (by kernel_rfl) rfl #[.int .i64 t313, .int .i64 t314, .int .i64 t315] rfl (by (try simp only [List.map_toArray, List.map_cons, List.map_nil]); first | done | rfl | (simp only [List.length_drop, List.length_take]; rfl)) ?_; (with_reducible refine (date_Days.calls kj171 t313 t314 t315 t320 t321 _ A183.out).mono ?_); rintro e w' ⟨rfl, ⟨nd, rfl⟩⟩; refine ⟨_, rfl, ?_⟩; obtain ⟨HGz210, hgz210⟩ := HI310.out; have hcz210_0 := cellS67_0 HGz210; have hcz210_1 := cellS67_1 HGz210; have hfz210_0 := blk_frozen HGz210 0; have hfz210_1 := blk_frozen HGz210 1; clear HGz210 hgz210) | (go_at_call 16; (with_reducible refine (date_Weekday.calls t320 t322 _ A198.out).mono ?_); rintro e w' ⟨rfl, ⟨nd, rfl⟩⟩))
                  go_ret2
                  exact ⟨by first | rfl | (simp [errW_none, errW_some] <;> rfl) | (simp [*, errW_none, errW_some] <;> rfl), by repeat (first | (with_reducible first | exact HB.out | apply below_alloc | apply pw_below_drewN | apply below_drew1 | refine below_set ?_ (IsS67.ge HI310.out) | refine below_set ?_ GE302.out | refine below_set ?_ GE319.out) | exact HB.out)⟩
                 ·rw [if_neg c199] at H
                  have c199b0 : (t322 == x20_2) = false := beq_eq_false_iff_ne.mpr c199
                  have c199b1 : (t322 != x20_2) = true := bne_iff_ne.mpr c199
                  have H' := Aside0.mk H
                  clear H
                  go_wp2_with (first | ((with_reducible refine gate_dst (N := 31) rfl ?_); refine box_event ?hg (N := 31) ?hd (cs := #[.string a0, .bool false]) (t := 67) ?hr ?_; (case hd => rfl); (case hg => rfl); (case hr => first | (go_simp; done) | (go_simp; rfl)); intro gb310 hg w211 hbox hb; have n0_ := Aside0.mk (blk_below (g := gb302) (o := .cells #[.bool false, .func (.func 43) #[] #[]] 63 (0, 0)) (by (with_reducible repeat (first | refine blk_drewN ?_ _ | refine blk_drew ?_ | refine blk_alloc ?_ _)); exact BK302.out) hb); have n1_ := Aside0.mk (below_step (by repeat (first | (with_reducible first | exact HB.out | apply below_alloc | apply pw_below_drewN | apply below_drew1 | refine below_set ?_ GE302.out) | exact HB.out)) hb); have n2_ := Aside0.mk ((show IsS67 w w211 gb310 a0 false from ⟨hbox, (by rw [hg]; exact (below_size (by repeat (first | (with_reducible first | exact HB.out | apply below_alloc | apply pw_below_drewN | apply below_drew1 | refine below_set ?_ GE302.out) | exact HB.out))))⟩)); have n3_ := Aside0.mk ((by rw [hg]; exact (below_size (by repeat (first | (with_reducible first | exact HB.out | apply below_alloc | apply pw_below_drewN | apply below_drew1 | refine below_set ?_ GE302.out) | exact HB.out))) : w.heap.size ≤ gb310)); have n4_ := Aside0.mk ((by rw [hg]; exact (below_size (by repeat (first | (with_reducible first | exact HB.out | apply below_alloc | apply pw_below_drewN | apply below_drew1 | refine below_set ?_ GE302.out) | exact HB.out))) : w.heap.size ≤ gb310)); have n5_ := Aside0.mk ((by rw [hg]; exact Nat.ne_of_lt (blk_lt (g := gb302) (o := .cells #[.bool false, .func (.func 43) #[] #[]] 63 (0, 0)) (by (with_reducible repeat (first | refine blk_drewN ?_ _ | refine blk_drew ?_ | refine blk_alloc ?_ _)); exact BK302.out)) : gb302 ≠ gb310)); have n6_ := Aside0.mk ((by rw [hg]; exact Nat.ne_of_gt (blk_lt (g := gb302) (o := .cells #[.bool false, .func (.func 43) #[] #[]] 63 (0, 0)) (by (with_reducible repeat (first | refine blk_drewN ?_ _ | refine blk_drew ?_ | refine blk_alloc ?_ _)); exact BK302.out)) : gb310 ≠ gb302)); clear BK302; clear HB; have BK302 := n0_; have HB := n1_; have HI310 := n2_; have GW310 := n3_; have GE310 := n4_; have NB302_310 := n5_; have NB310_302 := n6_; clear n0_ n1_ n2_ n3_ n4_ n5_ n6_; clear hb hbox hg) | ((with_reducible refine gate_callee (f := 44) rfl ?_); refine goesL_ (some 34) rfl rfl Try.func44 (by kernel_rfl) rfl #[.pointer (some ⟨gb310, 0, none⟩), .string x7_171] rfl (by (try simp only [List.map_toArray, List.map_cons, List.map_nil]); first | done | rfl | (simp only [List.length_drop, List.length_take]; rfl)) ?_; (with_reducible refine (date_scan_word.calls gb310 a0 false x7_171 t311 false w _ ?side1 ?side2 A177.out).mono ?_); (case side1 => repeat (first | (with_reducible first | exact HI310.out | apply IsS67.alloc | apply IsS67.drewN | apply IsS67.drew | apply IsS67.set_0 | apply IsS67.set_1 | (apply IsS67.far; rotate_left; exact NB310_302.out; rotate_right)) | exact HI310.out)); (case side2 => repeat (first | (with_reducible first | exact HB.out | apply below_alloc | apply pw_below_drewN | apply below_drew1 | refine below_set ?_ (IsS67.ge HI310.out) | refine below_set ?_ GE302.out) | exact HB.out)); rintro e w212 ⟨rfl, hi, hb, hk⟩; refine ⟨_, rfl, ?_⟩; have n0_ := Aside0.mk (KeepBut.blk hk (g' := gb302) (o := .cells #[.bool false, .func (.func 43) #[] #[]] 63 (0, 0)) (by (with_reducible repeat (first | refine blk_drewN ?_ _ | refine blk_drew ?_ | refine blk_alloc ?_ _)); exact BK302.out) NB302_310.out (by simp)); have n1_ := Aside0.mk (hb); have n2_ := Aside0.mk (hi); clear BK302; clear HB; clear HI310; have BK302 := n0_; have HB := n1_; have HI310 := n2_; clear n0_ n1_ n2_; (try clear hb); (try clear hb2); (try clear hk); (try clear hi); obtain ⟨HGz213, hgz213⟩ := HI310.out; have hcz213_0 := cellS67_0 HGz213; have hcz213_1 := cellS67_1 HGz213; have hfz213_0 := blk_frozen HGz213 0; have hfz213_1 := blk_frozen HGz213 1; clear HGz213 hgz213; have hnb214 := NB302_310.out; have hnc214 := NB310_302.out; have hcz215_0 : w212.cell? ⟨gb302, 0, none⟩ = some (.bool false) := (blk_cell BK302.out 0).trans rfl; have hcz215_1 : w212.cell? ⟨gb302, 1, none⟩ = some (.func (.func 43) #[] #[]) := (blk_cell BK302.out 1).trans rfl; have hfz215_0 := blk_frozen BK302.out 0; have hfz215_1 := blk_frozen BK302.out 1) | ((with_reducible refine gate_calleeV (x := .tmp 40) rfl ?_); refine goesV_ (.tmp 40) (some 42) rfl rfl Try.func43 (by kernel_rfl) rfl #[.pointer (some ⟨gb310, 0, none⟩)] rfl rfl (by (try simp only [List.map_toArray, List.map_cons, List.map_nil]); first | done | rfl) ?_; (with_reducible refine (date_third.calls kj171 gb310 t311 false t313 t314 t315 t316 t317 false w _ ?side1 ?side2 A182.out).mono ?_); (case side1 => repeat (first | (with_reducible first | exact HI310.out | apply IsS67.alloc | apply IsS67.drewN | apply IsS67.drew | apply IsS67.set_0 | apply IsS67.set_1 | (apply IsS67.far; rotate_left; exact NB310_302.out; rotate_right)) | exact HI310.out)); (case side2 => repeat (first | (with_reducible first | exact HB.out | apply below_alloc | apply pw_below_drewN | apply below_drew1 | refine below_set ?_ (IsS67.ge HI310.out) | refine below_set ?_ GE302.out) | exact HB.out)); rintro e w216 ⟨rfl, hi, hb, hk⟩; refine ⟨_, rfl, ?_⟩; have n0_ := Aside0.mk (KeepBut.blk hk (g' := gb302) (o := .cells #[.bool false, .func (.func 43) #[] #[]] 63 (0, 0)) (by (with_reducible repeat (first | refine blk_drewN ?_ _ | refine blk_drew ?_ | refine blk_alloc ?_ _)); exact BK302.out) NB302_310.out (by simp)); have n1_ := Aside0.mk (hb); have n2_ := Aside0.mk (hi); clear BK302; clear HB; clear HI310; have BK302 := n0_; have HB := n1_; have HI310 := n2_; clear n0_ n1_ n2_; (try clear hb); (try clear hb2); (try clear hk); (try clear hi)) | ((with_reducible refine gate_dst (N := 9) rfl ?_); refine box_event ?hg (N := 9) ?hd (cs := #[.int .i64 0, .int .i64 0, .int .i64 0, .int .i64 0]) (t := 70) ?hr ?_; (case hd => rfl); (case hg => rfl); (case hr => first | (go_simp; done) | (go_simp; rfl)); intro gb319 hg w217 hbox hb; have n0_ := Aside0.mk (blk_below (g := gb302) (o := .cells #[.bool false, .func (.func 43) #[] #[]] 63 (0, 0)) (by (with_reducible repeat (first | refine blk_drewN ?_ _ | refine blk_drew ?_ | refine blk_alloc ?_ _)); exact BK302.out) hb); have n1_ := Aside0.mk (IsS67.below (by repeat (first | (with_reducible first | exact HI310.out | apply IsS67.alloc | apply IsS67.drewN | apply IsS67.drew | apply IsS67.set_0 | apply IsS67.set_1 | (apply IsS67.far; rotate_left; exact NB310_302.out; rotate_right)) | exact HI310.out)) hb); have n2_ := Aside0.mk (below_step (by repeat (first | (with_reducible first | exact HB.out | apply below_alloc | apply pw_below_drewN | apply below_drew1 | refine below_set ?_ (IsS67.ge HI310.out) | refine below_set ?_ GE302.out) | exact HB.out)) hb); have n3_ := Aside0.mk (hbox); have n4_ := Aside0.mk ((by rw [hg]; exact (below_size (by repeat (first | (with_reducible first | exact HB.out | apply below_alloc | apply pw_below_drewN | apply below_drew1 | refine below_set ?_ (IsS67.ge HI310.out) | refine below_set ?_ GE302.out) | exact HB.out))) : w.heap.size ≤ gb319)); have n5_ := Aside0.mk ((by rw [hg]; exact (below_size (by repeat (first | (with_reducible first | exact HB.out | apply below_alloc | apply pw_below_drewN | apply below_drew1 | refine below_set ?_ (IsS67.ge HI310.out) | refine below_set ?_ GE302.out) | exact HB.out))) : w.heap.size ≤ gb319)); have n6_ := Aside0.mk ((by rw [hg]; exact Nat.ne_of_lt (blk_lt (g := gb302) (o := .cells #[.bool false, .func (.func 43) #[] #[]] 63 (0, 0)) (by (with_reducible repeat (first | refine blk_drewN ?_ _ | refine blk_drew ?_ | refine blk_alloc ?_ _)); exact BK302.out)) : gb302 ≠ gb319)); have n7_ := Aside0.mk ((by rw [hg]; exact Nat.ne_of_gt (blk_lt (g := gb302) (o := .cells #[.bool false, .func (.func 43) #[] #[]] 63 (0, 0)) (by (with_reducible repeat (first | refine blk_drewN ?_ _ | refine blk_drew ?_ | refine blk_alloc ?_ _)); exact BK302.out)) : gb319 ≠ gb302)); have n8_ := Aside0.mk ((by rw [hg]; exact Nat.ne_of_lt (IsS67.lt (show IsS67 w _ gb310 t317 false from by repeat (first | (with_reducible first | exact HI310.out | apply IsS67.alloc | apply IsS67.drewN | apply IsS67.drew | apply IsS67.set_0 | apply IsS67.set_1 | (apply IsS67.far; rotate_left; exact NB310_302.out; rotate_right)) | exact HI310.out))) : gb310 ≠ gb319)); have n9_ := Aside0.mk ((by rw [hg]; exact Nat.ne_of_gt (IsS67.lt (show IsS67 w _ gb310 t317 false from by repeat (first | (with_reducible first | exact HI310.out | apply IsS67.alloc | apply IsS67.drewN | apply IsS67.drew | apply IsS67.set_0 | apply IsS67.set_1 | (apply IsS67.far; rotate_left; exact NB310_302.out; rotate_right)) | exact HI310.out))) : gb319 ≠ gb310)); clear BK302; clear HI310; clear HB; have BK302 := n0_; have HI310 := n1_; have HB := n2_; have BK319 := n3_; have GW319 := n4_; have GE319 := n5_; have NB302_319 := n6_; have NB319_302 := n7_; have NB310_319 := n8_; have NB319_310 := n9_; clear n0_ n1_ n2_ n3_ n4_ n5_ n6_ n7_ n8_ n9_; clear hb hbox hg; have hnb218 := NB319_302.out; have hnc218 := NB302_319.out; have hnb219 := NB319_310.out; have hnc219 := NB310_319.out; have hcz220_0 : w217.cell? ⟨gb319, 0, none⟩ = some (.int .i64 0) := (blk_cell BK319.out 0).trans rfl; have hcz220_1 : w217.cell? ⟨gb319, 1, none⟩ = some (.int .i64 0) := (blk_cell BK319.out 1).trans rfl; have hcz220_2 : w217.cell? ⟨gb319, 2, none⟩ = some (.int .i64 0) := (blk_cell BK319.out 2).trans rfl; have hcz220_3 : w217.cell? ⟨gb319, 3, none⟩ = some (.int .i64 0) := (blk_cell BK319.out 3).trans rfl; have hfz220_0 := blk_frozen BK319.out 0; have hfz220_1 := blk_frozen BK319.out 1; have hfz220_2 := blk_frozen BK319.out 2; have hfz220_3 := blk_frozen BK319.out 3) | ((with_reducible refine gate_callee (f := 10) rfl ?_); refine goesL_ (some 50) rfl rfl Try.func10 (by kernel_rfl) rfl #[.int .i64 t313, .int .i64 t314, .int .i64 t315] rfl (by (try simp only [List.map_toArray, List.map_cons, List.map_nil]); first | done | rfl | (simp only [List.length_drop, List.length_take]; rfl)) ?_; (with_reducible refine (date_Days.calls kj171 t313 t314 t315 t320 t321 _ A183.out).mono ?_); rintro e w' ⟨rfl, ⟨nd, rfl⟩⟩; refine ⟨_, rfl, ?_⟩; obtain ⟨HGz221, hgz221⟩ := HI310.out; have hcz221_0 := cellS67_0 HGz221; have hcz221_1 := cellS67_1 HGz221; have hfz221_0 := blk_frozen HGz221 0; have hfz221_1 := blk_frozen HGz221 1; clear HGz221 hgz221) | (go_at_call 16; (with_reducible refine (date_Weekday.calls t320 t322 _ A198.out).mono ?_); rintro e w' ⟨rfl, ⟨nd, rfl⟩⟩))
                  go_roundg kj171
                  case measure => have := HK1.out; have := HK2.out; have := HJ171.out; omega
                  case rel => exact ⟨(wrap64 (x20_2 + 1)), (by first | rfl | (simp; done) | (simp [*]; done)), H', ⟨by have := HK1.out; have := HK2.out; have := HJ171.out; omega⟩, ⟨by (with_reducible repeat (first | refine blk_drewN ?_ _ | refine blk_drew ?_ | refine blk_alloc ?_ _)); refine blk_far ?_ NB302_319.out _; (with_reducible repeat (first | refine blk_drewN ?_ _ | refine blk_drew ?_ | refine blk_alloc ?_ _)); refine blk_far ?_ NB302_319.out _; (with_reducible repeat (first | refine blk_drewN ?_ _ | refine blk_drew ?_ | refine blk_alloc ?_ _)); refine blk_far ?_ NB302_319.out _; (with_reducible repeat (first | refine blk_drewN ?_ _ | refine blk_drew ?_ | refine blk_alloc ?_ _)); refine blk_far ?_ NB302_319.out _; (with_reducible repeat (first | refine blk_drewN ?_ _ | refine blk_drew ?_ | refine blk_alloc ?_ _)); exact BK302.out⟩, ⟨by repeat (first | (with_reducible first | exact HB.out | apply below_alloc | apply pw_below_drewN | apply below_drew1 | refine below_set ?_ (IsS67.ge HI310.out) | refine below_set ?_ GE302.out | refine below_set ?_ GE319.out) | exact HB.out)⟩⟩
                ·rw [if_neg c197] at H
                 have c197b0 : (t321 == 0) = false := beq_eq_false_iff_ne.mpr c197
                 have c197b1 : (t321 != 0) = true := bne_iff_ne.mpr c197
                 have H' := Aside0.mk H
                 clear H
                 go_wp2_with (first | ((with_reducible refine gate_dst (N := 31) rfl ?_); refine box_event ?hg (N := 31) ?hd (cs := #[.string a0, .bool false]) (t := 67) ?hr ?_; (case hd => rfl); (case hg => rfl); (case hr => first | (go_simp; done) | (go_simp; rfl)); intro gb310 hg w222 hbox hb; have n0_ := Aside0.mk (blk_below (g := gb302) (o := .cells #[.bool false, .func (.func 43) #[] #[]] 63 (0, 0)) (by (with_reducible repeat (first | refine blk_drewN ?_ _ | refine blk_drew ?_ | refine blk_alloc ?_ _)); exact BK302.out) hb); have n1_ := Aside0.mk (below_step (by repeat (first | (with_reducible first | exact HB.out | apply below_alloc | apply pw_below_drewN | apply below_drew1 | refine below_set ?_ GE302.out) | exact HB.out)) hb); have n2_ := Aside0.mk ((show IsS67 w w222 gb310 a0 false from ⟨hbox, (by rw [hg]; exact (below_size (by repeat (first | (with_reducible first | exact HB.out | apply below_alloc | apply pw_below_drewN | apply below_drew1 | refine below_set ?_ GE302.out) | exact HB.out))))⟩)); have n3_ := Aside0.mk ((by rw [hg]; exact (below_size (by repeat (first | (with_reducible first | exact HB.out | apply below_alloc | apply pw_below_drewN | apply below_drew1 | refine below_set ?_ GE302.out) | exact HB.out))) : w.heap.size ≤ gb310)); have n4_ := Aside0.mk ((by rw [hg]; exact (below_size (by repeat (first | (with_reducible first | exact HB.out | apply below_alloc | apply pw_below_drewN | apply below_drew1 | refine below_set ?_ GE302.out) | exact HB.out))) : w.heap.size ≤ gb310)); have n5_ := Aside0.mk ((by rw [hg]; exact Nat.ne_of_lt (blk_lt (g := gb302) (o := .cells #[.bool false, .func (.func 43) #[] #[]] 63 (0, 0)) (by (with_reducible repeat (first | refine blk_drewN ?_ _ | refine blk_drew ?_ | refine blk_alloc ?_ _)); exact BK302.out)) : gb302 ≠ gb310)); have n6_ := Aside0.mk ((by rw [hg]; exact Nat.ne_of_gt (blk_lt (g := gb302) (o := .cells #[.bool false, .func (.func 43) #[] #[]] 63 (0, 0)) (by (with_reducible repeat (first | refine blk_drewN ?_ _ | refine blk_drew ?_ | refine blk_alloc ?_ _)); exact BK302.out)) : gb310 ≠ gb302)); clear BK302; clear HB; have BK302 := n0_; have HB := n1_; have HI310 := n2_; have GW310 := n3_; have GE310 := n4_; have NB302_310 := n5_; have NB310_302 := n6_; clear n0_ n1_ n2_ n3_ n4_ n5_ n6_; clear hb hbox hg) | ((with_reducible refine gate_callee (f := 44) rfl ?_); refine goesL_ (some 34) rfl rfl Try.func44 (by kernel_rfl) rfl #[.pointer (some ⟨gb310, 0, none⟩), .string x7_171] rfl (by (try simp only [List.map_toArray, List.map_cons, List.map_nil]); first | done | rfl | (simp only [List.length_drop, List.length_take]; rfl)) ?_; (with_reducible refine (date_scan_word.calls gb310 a0 false x7_171 t311 false w _ ?side1 ?side2 A177.out).mono ?_); (case side1 => repeat (first | (with_reducible first | exact HI310.out | apply IsS67.alloc | apply IsS67.drewN | apply IsS67.drew | apply IsS67.set_0 | apply IsS67.set_1 | (apply IsS67.far; rotate_left; exact NB310_302.out; rotate_right)) | exact HI310.out)); (case side2 => repeat (first | (with_reducible first | exact HB.out | apply below_alloc | apply pw_below_drewN | apply below_drew1 | refine below_set ?_ (IsS67.ge HI310.out) | refine below_set ?_ GE302.out) | exact HB.out)); rintro e w223 ⟨rfl, hi, hb, hk⟩; refine ⟨_, rfl, ?_⟩; have n0_ := Aside0.mk (KeepBut.blk hk (g' := gb302) (o := .cells #[.bool false, .func (.func 43) #[] #[]] 63 (0, 0)) (by (with_reducible repeat (first | refine blk_drewN ?_ _ | refine blk_drew ?_ | refine blk_alloc ?_ _)); exact BK302.out) NB302_310.out (by simp)); have n1_ := Aside0.mk (hb); have n2_ := Aside0.mk (hi); clear BK302; clear HB; clear HI310; have BK302 := n0_; have HB := n1_; have HI310 := n2_; clear n0_ n1_ n2_; (try clear hb); (try clear hb2); (try clear hk); (try clear hi); obtain ⟨HGz224, hgz224⟩ := HI310.out; have hcz224_0 := cellS67_0 HGz224; have hcz224_1 := cellS67_1 HGz224; have hfz224_0 := blk_frozen HGz224 0; have hfz224_1 := blk_frozen HGz224 1; clear HGz224 hgz224; have hnb225 := NB302_310.out; have hnc225 := NB310_302.out; have hcz226_0 : w223.cell? ⟨gb302, 0, none⟩ = some (.bool false) := (blk_cell BK302.out 0).trans rfl; have hcz226_1 : w223.cell? ⟨gb302, 1, none⟩ = some (.func (.func 43) #[] #[]) := (blk_cell BK302.out 1).trans rfl; have hfz226_0 := blk_frozen BK302.out 0; have hfz226_1 := blk_frozen BK302.out 1) | ((with_reducible refine gate_calleeV (x := .tmp 40) rfl ?_); refine goesV_ (.tmp 40) (some 42) rfl rfl Try.func43 (by kernel_rfl) rfl #[.pointer (some ⟨gb310, 0, none⟩)] rfl rfl (by (try simp only [List.map_toArray, List.map_cons, List.map_nil]); first | done | rfl) ?_; (with_reducible refine (date_third.calls kj171 gb310 t311 false t313 t314 t315 t316 t317 false w _ ?side1 ?side2 A182.out).mono ?_); (case side1 => repeat (first | (with_reducible first | exact HI310.out | apply IsS67.alloc | apply IsS67.drewN | apply IsS67.drew | apply IsS67.set_0 | apply IsS67.set_1 | (apply IsS67.far; rotate_left; exact NB310_302.out; rotate_right)) | exact HI310.out)); (case side2 => repeat (first | (with_reducible first | exact HB.out | apply below_alloc | apply pw_below_drewN | apply below_drew1 | refine below_set ?_ (IsS67.ge HI310.out) | refine below_set ?_ GE302.out) | exact HB.out)); rintro e w227 ⟨rfl, hi, hb, hk⟩; refine ⟨_, rfl, ?_⟩; have n0_ := Aside0.mk (KeepBut.blk hk (g' := gb302) (o := .cells #[.bool false, .func (.func 43) #[] #[]] 63 (0, 0)) (by (with_reducible repeat (first | refine blk_drewN ?_ _ | refine blk_drew ?_ | refine blk_alloc ?_ _)); exact BK302.out) NB302_310.out (by simp)); have n1_ := Aside0.mk (hb); have n2_ := Aside0.mk (hi); clear BK302; clear HB; clear HI310; have BK302 := n0_; have HB := n1_; have HI310 := n2_; clear n0_ n1_ n2_; (try clear hb); (try clear hb2); (try clear hk); (try clear hi)) | ((with_reducible refine gate_dst (N := 9) rfl ?_); refine box_event ?hg (N := 9) ?hd (cs := #[.int .i64 0, .int .i64 0, .int .i64 0, .int .i64 0]) (t := 70) ?hr ?_; (case hd => rfl); (case hg => rfl); (case hr => first | (go_simp; done) | (go_simp; rfl)); intro gb319 hg w228 hbox hb; have n0_ := Aside0.mk (blk_below (g := gb302) (o := .cells #[.bool false, .func (.func 43) #[] #[]] 63 (0, 0)) (by (with_reducible repeat (first | refine blk_drewN ?_ _ | refine blk_drew ?_ | refine blk_alloc ?_ _)); exact BK302.out) hb); have n1_ := Aside0.mk (IsS67.below (by repeat (first | (with_reducible first | exact HI310.out | apply IsS67.alloc | apply IsS67.drewN | apply IsS67.drew | apply IsS67.set_0 | apply IsS67.set_1 | (apply IsS67.far; rotate_left; exact NB310_302.out; rotate_right)) | exact HI310.out)) hb); have n2_ := Aside0.mk (below_step (by repeat (first | (with_reducible first | exact HB.out | apply below_alloc | apply pw_below_drewN | apply below_drew1 | refine below_set ?_ (IsS67.ge HI310.out) | refine below_set ?_ GE302.out) | exact HB.out)) hb); have n3_ := Aside0.mk (hbox); have n4_ := Aside0.mk ((by rw [hg]; exact (below_size (by repeat (first | (with_reducible first | exact HB.out | apply below_alloc | apply pw_below_drewN | apply below_drew1 | refine below_set ?_ (IsS67.ge HI310.out) | refine below_set ?_ GE302.out) | exact HB.out))) : w.heap.size ≤ gb319)); have n5_ := Aside0.mk ((by rw [hg]; exact (below_size (by repeat (first | (with_reducible first | exact HB.out | apply below_alloc | apply pw_below_drewN | apply below_drew1 | refine below_set ?_ (IsS67.ge HI310.out) | refine below_set ?_ GE302.out) | exact HB.out))) : w.heap.size ≤ gb319)); have n6_ := Aside0.mk ((by rw [hg]; exact Nat.ne_of_lt (blk_lt (g := gb302) (o := .cells #[.bool false, .func (.func 43) #[] #[]] 63 (0, 0)) (by (with_reducible repeat (first | refine blk_drewN ?_ _ | refine blk_drew ?_ | refine blk_alloc ?_ _)); exact BK302.out)) : gb302 ≠ gb319)); have n7_ := Aside0.mk ((by rw [hg]; exact Nat.ne_of_gt (blk_lt (g := gb302) (o := .cells #[.bool false, .func (.func 43) #[] #[]] 63 (0, 0)) (by (with_reducible repeat (first | refine blk_drewN ?_ _ | refine blk_drew ?_ | refine blk_alloc ?_ _)); exact BK302.out)) : gb319 ≠ gb302)); have n8_ := Aside0.mk ((by rw [hg]; exact Nat.ne_of_lt (IsS67.lt (show IsS67 w _ gb310 t317 false from by repeat (first | (with_reducible first | exact HI310.out | apply IsS67.alloc | apply IsS67.drewN | apply IsS67.drew | apply IsS67.set_0 | apply IsS67.set_1 | (apply IsS67.far; rotate_left; exact NB310_302.out; rotate_right)) | exact HI310.out))) : gb310 ≠ gb319)); have n9_ := Aside0.mk ((by rw [hg]; exact Nat.ne_of_gt (IsS67.lt (show IsS67 w _ gb310 t317 false from by repeat (first | (with_reducible first | exact HI310.out | apply IsS67.alloc | apply IsS67.drewN | apply IsS67.drew | apply IsS67.set_0 | apply IsS67.set_1 | (apply IsS67.far; rotate_left; exact NB310_302.out; rotate_right)) | exact HI310.out))) : gb319 ≠ gb310)); clear BK302; clear HI310; clear HB; have BK302 := n0_; have HI310 := n1_; have HB := n2_; have BK319 := n3_; have GW319 := n4_; have GE319 := n5_; have NB302_319 := n6_; have NB319_302 := n7_; have NB310_319 := n8_; have NB319_310 := n9_; clear n0_ n1_ n2_ n3_ n4_ n5_ n6_ n7_ n8_ n9_; clear hb hbox hg; have hnb229 := NB319_302.out; have hnc229 := NB302_319.out; have hnb230 := NB319_310.out; have hnc230 := NB310_319.out; have hcz231_0 : w228.cell? ⟨gb319, 0, none⟩ = some (.int .i64 0) := (blk_cell BK319.out 0).trans rfl; have hcz231_1 : w228.cell? ⟨gb319, 1, none⟩ = some (.int .i64 0) := (blk_cell BK319.out 1).trans rfl; have hcz231_2 : w228.cell? ⟨gb319, 2, none⟩ = some (.int .i64 0) := (blk_cell BK319.out 2).trans rfl; have hcz231_3 : w228.cell? ⟨gb319, 3, none⟩ = some (.int .i64 0) := (blk_cell BK319.out 3).trans rfl; have hfz231_0 := blk_frozen BK319.out 0; have hfz231_1 := blk_frozen BK319.out 1; have hfz231_2 := blk_frozen BK319.out 2; have hfz231_3 := blk_frozen BK319.out 3) | ((with_reducible refine gate_callee (f := 10) rfl ?_); refine goesL_ (some 50) rfl rfl Try.func10 (by kernel_rfl) rfl #[.int .i64 t313, .int .i64 t314, .int .i64 t315] rfl (by (try simp only [List.map_toArray, List.map_cons, List.map_nil]); first | done | rfl | (simp only [List.length_drop, List.length_take]; rfl)) ?_; (with_reducible refine (date_Days.calls kj171 t313 t314 t315 t320 t321 _ A183.out).mono ?_); rintro e w' ⟨rfl, ⟨nd, rfl⟩⟩; refine ⟨_, rfl, ?_⟩; obtain ⟨HGz232, hgz232⟩ := HI310.out; have hcz232_0 := cellS67_0 HGz232; have hcz232_1 := cellS67_1 HGz232; have hfz232_0 := blk_frozen HGz232 0; have hfz232_1 := blk_frozen HGz232 1; clear HGz232 hgz232))
                 go_roundg kj171
                 case measure => have := HK1.out; have := HK2.out; have := HJ171.out; omega
                 case rel => exact ⟨(wrap64 (x20_2 + 1)), (by first | rfl | (simp; done) | (simp [*]; done)), H', ⟨by have := HK1.out; have := HK2.out; have := HJ171.out; omega⟩, ⟨by (with_reducible repeat (first | refine blk_drewN ?_ _ | refine blk_drew ?_ | refine blk_alloc ?_ _)); refine blk_far ?_ NB302_319.out _; (with_reducible repeat (first | refine blk_drewN ?_ _ | refine blk_drew ?_ | refine blk_alloc ?_ _)); refine blk_far ?_ NB302_319.out _; (with_reducible repeat (first | refine blk_drewN ?_ _ | refine blk_drew ?_ | refine blk_alloc ?_ _)); refine blk_far ?_ NB302_319.out _; (with_reducible repeat (first | refine blk_drewN ?_ _ | refine blk_drew ?_ | refine blk_alloc ?_ _)); refine blk_far ?_ NB302_319.out _; (with_reducible repeat (first | refine blk_drewN ?_ _ | refine blk_drew ?_ | refine blk_alloc ?_ _)); exact BK302.out⟩, ⟨by repeat (first | (with_reducible first | exact HB.out | apply below_alloc | apply pw_below_drewN | apply below_drew1 | refine below_set ?_ (IsS67.ge HI310.out) | refine below_set ?_ GE302.out | refine below_set ?_ GE319.out) | exact HB.out)⟩⟩
               ·rw [if_neg c196] at H
                have c196b0 : (t317.toList == ([] : List UInt8)) = false := beq_eq_false_iff_ne.mpr c196
                have c196b1 : (t317.toList != ([] : List UInt8)) = true := bne_iff_ne.mpr c196
                have H' := Aside0.mk H
                clear H
                go_wp2_with (first | ((with_reducible refine gate_dst (N := 31) rfl ?_); refine box_event ?hg (N := 31) ?hd (cs := #[.string a0, .bool false]) (t := 67) ?hr ?_; (case hd => rfl); (case hg => rfl); (case hr => first | (go_simp; done) | (go_simp; rfl)); intro gb310 hg w233 hbox hb; have n0_ := Aside0.mk (blk_below (g := gb302) (o := .cells #[.bool false, .func (.func 43) #[] #[]] 63 (0, 0)) (by (with_reducible repeat (first | refine blk_drewN ?_ _ | refine blk_drew ?_ | refine blk_alloc ?_ _)); exact BK302.out) hb); have n1_ := Aside0.mk (below_step (by repeat (first | (with_reducible first | exact HB.out | apply below_alloc | apply pw_below_drewN | apply below_drew1 | refine below_set ?_ GE302.out) | exact HB.out)) hb); have n2_ := Aside0.mk ((show IsS67 w w233 gb310 a0 false from ⟨hbox, (by rw [hg]; exact (below_size (by repeat (first | (with_reducible first | exact HB.out | apply below_alloc | apply pw_below_drewN | apply below_drew1 | refine below_set ?_ GE302.out) | exact HB.out))))⟩)); have n3_ := Aside0.mk ((by rw [hg]; exact (below_size (by repeat (first | (with_reducible first | exact HB.out | apply below_alloc | apply pw_below_drewN | apply below_drew1 | refine below_set ?_ GE302.out) | exact HB.out))) : w.heap.size ≤ gb310)); have n4_ := Aside0.mk ((by rw [hg]; exact (below_size (by repeat (first | (with_reducible first | exact HB.out | apply below_alloc | apply pw_below_drewN | apply below_drew1 | refine below_set ?_ GE302.out) | exact HB.out))) : w.heap.size ≤ gb310)); have n5_ := Aside0.mk ((by rw [hg]; exact Nat.ne_of_lt (blk_lt (g := gb302) (o := .cells #[.bool false, .func (.func 43) #[] #[]] 63 (0, 0)) (by (with_reducible repeat (first | refine blk_drewN ?_ _ | refine blk_drew ?_ | refine blk_alloc ?_ _)); exact BK302.out)) : gb302 ≠ gb310)); have n6_ := Aside0.mk ((by rw [hg]; exact Nat.ne_of_gt (blk_lt (g := gb302) (o := .cells #[.bool false, .func (.func 43) #[] #[]] 63 (0, 0)) (by (with_reducible repeat (first | refine blk_drewN ?_ _ | refine blk_drew ?_ | refine blk_alloc ?_ _)); exact BK302.out)) : gb310 ≠ gb302)); clear BK302; clear HB; have BK302 := n0_; have HB := n1_; have HI310 := n2_; have GW310 := n3_; have GE310 := n4_; have NB302_310 := n5_; have NB310_302 := n6_; clear n0_ n1_ n2_ n3_ n4_ n5_ n6_; clear hb hbox hg) | ((with_reducible refine gate_callee (f := 44) rfl ?_); refine goesL_ (some 34) rfl rfl Try.func44 (by kernel_rfl) rfl #[.pointer (some ⟨gb310, 0, none⟩), .string x7_171] rfl (by (try simp only [List.map_toArray, List.map_cons, List.map_nil]); first | done | rfl | (simp only [List.length_drop, List.length_take]; rfl)) ?_; (with_reducible refine (date_scan_word.calls gb310 a0 false x7_171 t311 false w _ ?side1 ?side2 A177.out).mono ?_); (case side1 => repeat (first | (with_reducible first | exact HI310.out | apply IsS67.alloc | apply IsS67.drewN | apply IsS67.drew | apply IsS67.set_0 | apply IsS67.set_1 | (apply IsS67.far; rotate_left; exact NB310_302.out; rotate_right)) | exact HI310.out)); (case side2 => repeat (first | (with_reducible first | exact HB.out | apply below_alloc | apply pw_below_drewN | apply below_drew1 | refine below_set ?_ (IsS67.ge HI310.out) | refine below_set ?_ GE302.out) | exact HB.out)); rintro e w234 ⟨rfl, hi, hb, hk⟩; refine ⟨_, rfl, ?_⟩; have n0_ := Aside0.mk (KeepBut.blk hk (g' := gb302) (o := .cells #[.bool false, .func (.func 43) #[] #[]] 63 (0, 0)) (by (with_reducible repeat (first | refine blk_drewN ?_ _ | refine blk_drew ?_ | refine blk_alloc ?_ _)); exact BK302.out) NB302_310.out (by simp)); have n1_ := Aside0.mk (hb); have n2_ := Aside0.mk (hi); clear BK302; clear HB; clear HI310; have BK302 := n0_; have HB := n1_; have HI310 := n2_; clear n0_ n1_ n2_; (try clear hb); (try clear hb2); (try clear hk); (try clear hi); obtain ⟨HGz235, hgz235⟩ := HI310.out; have hcz235_0 := cellS67_0 HGz235; have hcz235_1 := cellS67_1 HGz235; have hfz235_0 := blk_frozen HGz235 0; have hfz235_1 := blk_frozen HGz235 1; clear HGz235 hgz235; have hnb236 := NB302_310.out; have hnc236 := NB310_302.out; have hcz237_0 : w234.cell? ⟨gb302, 0, none⟩ = some (.bool false) := (blk_cell BK302.out 0).trans rfl; have hcz237_1 : w234.cell? ⟨gb302, 1, none⟩ = some (.func (.func 43) #[] #[]) := (blk_cell BK302.out 1).trans rfl; have hfz237_0 := blk_frozen BK302.out 0; have hfz237_1 := blk_frozen BK302.out 1) | ((with_reducible refine gate_calleeV (x := .tmp 40) rfl ?_); refine goesV_ (.tmp 40) (some 42) rfl rfl Try.func43 (by kernel_rfl) rfl #[.pointer (some ⟨gb310, 0, none⟩)] rfl rfl (by (try simp only [List.map_toArray, List.map_cons, List.map_nil]); first | done | rfl) ?_; (with_reducible refine (date_third.calls kj171 gb310 t311 false t313 t314 t315 t316 t317 false w _ ?side1 ?side2 A182.out).mono ?_); (case side1 => repeat (first | (with_reducible first | exact HI310.out | apply IsS67.alloc | apply IsS67.drewN | apply IsS67.drew | apply IsS67.set_0 | apply IsS67.set_1 | (apply IsS67.far; rotate_left; exact NB310_302.out; rotate_right)) | exact HI310.out)); (case side2 => repeat (first | (with_reducible first | exact HB.out | apply below_alloc | apply pw_below_drewN | apply below_drew1 | refine below_set ?_ (IsS67.ge HI310.out) | refine below_set ?_ GE302.out) | exact HB.out)); rintro e w238 ⟨rfl, hi, hb, hk⟩; refine ⟨_, rfl, ?_⟩; have n0_ := Aside0.mk (KeepBut.blk hk (g' := gb302) (o := .cells #[.bool false, .func (.func 43) #[] #[]] 63 (0, 0)) (by (with_reducible repeat (first | refine blk_drewN ?_ _ | refine blk_drew ?_ | refine blk_alloc ?_ _)); exact BK302.out) NB302_310.out (by simp)); have n1_ := Aside0.mk (hb); have n2_ := Aside0.mk (hi); clear BK302; clear HB; clear HI310; have BK302 := n0_; have HB := n1_; have HI310 := n2_; clear n0_ n1_ n2_; (try clear hb); (try clear hb2); (try clear hk); (try clear hi)) | ((with_reducible refine gate_dst (N := 9) rfl ?_); refine box_event ?hg (N := 9) ?hd (cs := #[.int .i64 0, .int .i64 0, .int .i64 0, .int .i64 0]) (t := 70) ?hr ?_; (case hd => rfl); (case hg => rfl); (case hr => first | (go_simp; done) | (go_simp; rfl)); intro gb319 hg w239 hbox hb; have n0_ := Aside0.mk (blk_below (g := gb302) (o := .cells #[.bool false, .func (.func 43) #[] #[]] 63 (0, 0)) (by (with_reducible repeat (first | refine blk_drewN ?_ _ | refine blk_drew ?_ | refine blk_alloc ?_ _)); exact BK302.out) hb); have n1_ := Aside0.mk (IsS67.below (by repeat (first | (with_reducible first | exact HI310.out | apply IsS67.alloc | apply IsS67.drewN | apply IsS67.drew | apply IsS67.set_0 | apply IsS67.set_1 | (apply IsS67.far; rotate_left; exact NB310_302.out; rotate_right)) | exact HI310.out)) hb); have n2_ := Aside0.mk (below_step (by repeat (first | (with_reducible first | exact HB.out | apply below_alloc | apply pw_below_drewN | apply below_drew1 | refine below_set ?_ (IsS67.ge HI310.out) | refine below_set ?_ GE302.out) | exact HB.out)) hb); have n3_ := Aside0.mk (hbox); have n4_ := Aside0.mk ((by rw [hg]; exact (below_size (by repeat (first | (with_reducible first | exact HB.out | apply below_alloc | apply pw_below_drewN | apply below_drew1 | refine below_set ?_ (IsS67.ge HI310.out) | refine below_set ?_ GE302.out) | exact HB.out))) : w.heap.size ≤ gb319)); have n5_ := Aside0.mk ((by rw [hg]; exact (below_size (by repeat (first | (with_reducible first | exact HB.out | apply below_alloc | apply pw_below_drewN | apply below_drew1 | refine below_set ?_ (IsS67.ge HI310.out) | refine below_set ?_ GE302.out) | exact HB.out))) : w.heap.size ≤ gb319)); have n6_ := Aside0.mk ((by rw [hg]; exact Nat.ne_of_lt (blk_lt (g := gb302) (o := .cells #[.bool false, .func (.func 43) #[] #[]] 63 (0, 0)) (by (with_reducible repeat (first | refine blk_drewN ?_ _ | refine blk_drew ?_ | refine blk_alloc ?_ _)); exact BK302.out)) : gb302 ≠ gb319)); have n7_ := Aside0.mk ((by rw [hg]; exact Nat.ne_of_gt (blk_lt (g := gb302) (o := .cells #[.bool false, .func (.func 43) #[] #[]] 63 (0, 0)) (by (with_reducible repeat (first | refine blk_drewN ?_ _ | refine blk_drew ?_ | refine blk_alloc ?_ _)); exact BK302.out)) : gb319 ≠ gb302)); have n8_ := Aside0.mk ((by rw [hg]; exact Nat.ne_of_lt (IsS67.lt (show IsS67 w _ gb310 t317 false from by repeat (first | (with_reducible first | exact HI310.out | apply IsS67.alloc | apply IsS67.drewN | apply IsS67.drew | apply IsS67.set_0 | apply IsS67.set_1 | (apply IsS67.far; rotate_left; exact NB310_302.out; rotate_right)) | exact HI310.out))) : gb310 ≠ gb319)); have n9_ := Aside0.mk ((by rw [hg]; exact Nat.ne_of_gt (IsS67.lt (show IsS67 w _ gb310 t317 false from by repeat (first | (with_reducible first | exact HI310.out | apply IsS67.alloc | apply IsS67.drewN | apply IsS67.drew | apply IsS67.set_0 | apply IsS67.set_1 | (apply IsS67.far; rotate_left; exact NB310_302.out; rotate_right)) | exact HI310.out))) : gb319 ≠ gb310)); clear BK302; clear HI310; clear HB; have BK302 := n0_; have HI310 := n1_; have HB := n2_; have BK319 := n3_; have GW319 := n4_; have GE319 := n5_; have NB302_319 := n6_; have NB319_302 := n7_; have NB310_319 := n8_; have NB319_310 := n9_; clear n0_ n1_ n2_ n3_ n4_ n5_ n6_ n7_ n8_ n9_; clear hb hbox hg; have hnb240 := NB319_302.out; have hnc240 := NB302_319.out; have hnb241 := NB319_310.out; have hnc241 := NB310_319.out; have hcz242_0 : w239.cell? ⟨gb319, 0, none⟩ = some (.int .i64 0) := (blk_cell BK319.out 0).trans rfl; have hcz242_1 : w239.cell? ⟨gb319, 1, none⟩ = some (.int .i64 0) := (blk_cell BK319.out 1).trans rfl; have hcz242_2 : w239.cell? ⟨gb319, 2, none⟩ = some (.int .i64 0) := (blk_cell BK319.out 2).trans rfl; have hcz242_3 : w239.cell? ⟨gb319, 3, none⟩ = some (.int .i64 0) := (blk_cell BK319.out 3).trans rfl; have hfz242_0 := blk_frozen BK319.out 0; have hfz242_1 := blk_frozen BK319.out 1; have hfz242_2 := blk_frozen BK319.out 2; have hfz242_3 := blk_frozen BK319.out 3) | ((with_reducible refine gate_callee (f := 10) rfl ?_); refine goesL_ (some 50) rfl rfl Try.func10 (by kernel_rfl) rfl #[.int .i64 t313, .int .i64 t314, .int .i64 t315] rfl (by (try simp only [List.map_toArray, List.map_cons, List.map_nil]); first | done | rfl | (simp only [List.length_drop, List.length_take]; rfl)) ?_; (with_reducible refine (date_Days.calls kj171 t313 t314 t315 t320 t321 _ A183.out).mono ?_); rintro e w' ⟨rfl, ⟨nd, rfl⟩⟩; refine ⟨_, rfl, ?_⟩; obtain ⟨HGz243, hgz243⟩ := HI310.out; have hcz243_0 := cellS67_0 HGz243; have hcz243_1 := cellS67_1 HGz243; have hfz243_0 := blk_frozen HGz243 0; have hfz243_1 := blk_frozen HGz243 1; clear HGz243 hgz243))
                go_roundg kj171
                case measure => have := HK1.out; have := HK2.out; have := HJ171.out; omega
                case rel => exact ⟨(wrap64 (x20_2 + 1)), (by first | rfl | (simp; done) | (simp [*]; done)), H', ⟨by have := HK1.out; have := HK2.out; have := HJ171.out; omega⟩, ⟨by (with_reducible repeat (first | refine blk_drewN ?_ _ | refine blk_drew ?_ | refine blk_alloc ?_ _)); refine blk_far ?_ NB302_319.out _; (with_reducible repeat (first | refine blk_drewN ?_ _ | refine blk_drew ?_ | refine blk_alloc ?_ _)); refine blk_far ?_ NB302_319.out _; (with_reducible repeat (first | refine blk_drewN ?_ _ | refine blk_drew ?_ | refine blk_alloc ?_ _)); refine blk_far ?_ NB302_319.out _; (with_reducible repeat (first | refine blk_drewN ?_ _ | refine blk_drew ?_ | refine blk_alloc ?_ _)); refine blk_far ?_ NB302_319.out _; (with_reducible repeat (first | refine blk_drewN ?_ _ | refine blk_drew ?_ | refine blk_alloc ?_ _)); exact BK302.out⟩, ⟨by repeat (first | (with_reducible first | exact HB.out | apply below_alloc | apply pw_below_drewN | apply below_drew1 | refine below_set ?_ (IsS67.ge HI310.out) | refine below_set ?_ GE302.out | refine below_set ?_ GE319.out) | exact HB.out)⟩⟩
          ·rw [if_neg c170] at H
           exact absurd H (by simp)
         ·rw [if_neg c169] at H
          have c169b0 : decide (x20_2 < 7) = false := decide_eq_false c169
          clear c169
          have H' := Aside0.mk H
          clear H
          go_wp2
          go_roundg k2
          case measure => have := HK1.out; have := HK2.out; omega
          case rel => exact ⟨(wrap64 (x16_1 + 1)), (by first | rfl | (simp; done) | (simp [*]; done)), H', ⟨by have := HK1.out; have := HK2.out; omega⟩, ⟨by repeat (first | (with_reducible first | exact HB.out | apply below_alloc | apply pw_below_drewN | apply below_drew1 | refine below_set ?_ GE302.out) | exact HB.out)⟩⟩
      ·rw [if_neg c163] at H
       exact absurd H (by simp)
   ·rw [if_neg c2] at H
    have c2b0 : decide (x16_1 < 3) = false := decide_eq_false c2
    clear c2
    simp only [Option.some.injEq, Prod.mk.injEq] at H
    obtain ⟨rfl, rfl⟩ := H
    go_wp2
    go_ret2
    exact ⟨by first | rfl | (simp [errW_none, errW_some] <;> rfl) | (simp [*, errW_none, errW_some] <;> rfl), by repeat (first | (with_reducible first | exact HB.out | apply below_alloc | apply pw_below_drewN | apply below_drew1) | exact HB.out)⟩

end Go.Proofs.Ytpddbfodjeoofaa.PDate

