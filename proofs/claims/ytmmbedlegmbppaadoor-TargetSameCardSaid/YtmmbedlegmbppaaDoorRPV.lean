/- strconv.ParseUint at base 16, bits 8, at texts of two bytes: the number, or an error that is not nil. -/
import Derived.Test.YtmmbedlegmbppaaDoorRPU
namespace Go.Proofs.YtmmbedlegmbppaaDoor.R
open Go Go.RowKit Go.Shelf
set_option linter.unusedVariables false
/-- As sound_flat; what comes back may hold an error. -/
theorem sound_flatR {P : Program} {T : World → Prop} {f : FuncId} {args res : List Ty} {F : Nat → Tup args → Option (Tup res)} (ha : args.all Ty.flat = true)
    (h : ∀ k x r w, F k x = some r → T w → Calls P f (vals args x).toArray w fun e w1 => (∃ v, e = .returned (packV v) ∧ ∀ Φ, TupRel Φ w1 res r v) ∧ Below w.heap.size w w1) : Spec.Sound P T f ⟨args, res, F⟩ := by
  intro k x r hF Φ w vs hT hfz hx
  have e : vs = (vals args x).toArray := by rw [← (flats_rel ha).1 hx]
  subst e
  refine (h k x r w hF hT).mono ?_
  rintro en w1 ⟨⟨v, rfl, hv⟩, hb⟩
  exact ⟨_, Φ, rfl, hb, fun _ _ h => h, fun _ _ _ h => h, fun b i hbi => Nat.lt_of_lt_of_le (hfz b i hbi) hb.size, v, hv Φ, rfl⟩
def x_ParseUint.f (k : Nat) (x : Tup [.str, .int .i64, .int .i64]) : Option (Tup [.int .u64, .err]) :=
  if x.1.size = 2 ∧ x.2.1 = 16 ∧ x.2.2 = 8 then some (match hexL 0 x.1.data.toList with
    | some n => ((n : Int), true)
    | none => ((0 : Int), false)) else none
set_option maxHeartbeats 4000000 in
set_option maxRecDepth 100000 in
theorem x_ParseUint.ok : Spec.Sound P T 66 ⟨[.str, .int .i64, .int .i64], [.int .u64, .err], x_ParseUint.f⟩ := sound_flatR rfl fun k x r w h hT => by
  obtain ⟨s, b, n⟩ := x
  simp only [x_ParseUint.f] at h
  split at h
  case isFalse => cases h
  case isTrue hc =>
  obtain ⟨h2, hb, hn⟩ := hc
  have hb' : b = (16 : Int) := hb
  have hn' : n = (8 : Int) := hn
  subst hb' hn'
  have h2' : s.size = 2 := h2
  obtain rfl := Option.some.inj h
  clear h
  obtain ⟨hTab, tp, p, hv⟩ := hT
  have hG : (1 : Nat) < w.heap.size := Lib.lt_of_cell hv
  have eI : ∀ args w, (callFunc 107 args).run Tryd.prog w = .ok (.enter 107 args) w := fun args w => enters_of Tryd.func107 (by kernel_rfl) rfl args w
  have eE : ∀ args w, (callFunc 108 args).run Tryd.prog w = .ok (.enter 108 args) w := fun args w => enters_of Tryd.func108 (by kernel_rfl) rfl args w
  have hI : Calls Tryd.prog 107 #[.string s, .int .i64 16, .int .i64 8] w fun e w' => e = .returned (hexT 155 (hexL 0 s.data.toList)) ∧ w' = Lib.bytesWorld w 5 s := Any.internal_strconv_ParseUint_16_b8 Tryd.lays287 s h2' w
  show Calls Tryd.prog 66 #[.string s, .int .i64 16, .int .i64 8] w _
  cases hx : hexL 0 s.data.toList with
  | some m =>
    rw [hx] at hI
    simp only [hexT] at hI
    go_enter Tryd.func66, Tryd.ntmps66
    go_wp2_with (go_at_call 107; refine hI.mono ?_; rintro e W1 ⟨rfl, rfl⟩)
    go_ret2
    exact ⟨⟨[.int .u64 (m : Int), .nilIface], rfl, fun Φ => ⟨_, _, rfl, (flat_rel rfl).2 rfl, _, rfl, _, rfl, .inl ⟨rfl, rfl⟩⟩⟩, Lib.bytesWorld_below _ _ _⟩
  | none =>
    rw [hx] at hI
    simp only [hexT] at hI
    have hb1 : Below w.heap.size w (Lib.bytesWorld w 5 s) := Lib.bytesWorld_below _ _ _
    have hv1 : (Lib.bytesWorld w 5 s).cell? ⟨1, 0, none⟩ = some (.iface tp p) := (hb1.cell (show (⟨1, 0, none⟩ : Addr).block < w.heap.size from hG)).trans hv
    generalize Lib.bytesWorld w 5 s = W1 at hI hb1 hv1
    go_enter Tryd.func66, Tryd.ntmps66
    go_wp2_with (first | (go_at_call 107; refine hI.mono ?_; rintro e _ ⟨rfl, rfl⟩) | (go_at_call 108; refine (Tryd.strconv_toError_syntax _ s 16 8 _ _ (by omega) hv1 (.inr ⟨_, _, rfl⟩)).mono ?_; rintro e W2 ⟨N, rfl, g1, g2, g3⟩))
    go_ret2
    exact ⟨⟨[.int .u64 0, .iface 157 (.pointer (some ⟨N, 0, none⟩))], rfl, fun Φ => ⟨_, _, rfl, (flat_rel rfl).2 rfl, _, rfl, _, rfl, .inr ⟨rfl, _, _, rfl⟩⟩⟩, hb1.trans (g3.mono hb1.size)⟩
end Go.Proofs.YtmmbedlegmbppaaDoor.R
