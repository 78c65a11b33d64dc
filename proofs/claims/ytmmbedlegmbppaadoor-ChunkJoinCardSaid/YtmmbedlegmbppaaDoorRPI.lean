/- strconv.ParseInt at base 16, bits 64, at texts of one to eight digits: the number, and no error. -/
import Derived.Test.YtmmbedlegmbppaaDoorRPW
namespace Go.Proofs.YtmmbedlegmbppaaDoor.R
open Go Go.RowKit Go.Shelf
set_option linter.unusedVariables false
/-- As sound_flat; what comes back may hold an error. -/
theorem sound_flatE {P : Program} {T : World → Prop} {f : FuncId} {args res : List Ty} {F : Nat → Tup args → Option (Tup res)} (ha : args.all Ty.flat = true)
    (h : ∀ k x r w, F k x = some r → T w → Calls P f (vals args x).toArray w fun e w1 => (∃ v, e = .returned (packV v) ∧ ∀ Φ, TupRel Φ w1 res r v) ∧ Below w.heap.size w w1) : Spec.Sound P T f ⟨args, res, F⟩ := by
  intro k x r hF Φ w vs hT hfz hx
  have e : vs = (vals args x).toArray := by rw [← (flats_rel ha).1 hx]
  subst e
  refine (h k x r w hF hT).mono ?_
  rintro en w1 ⟨⟨v, rfl, hv⟩, hb⟩
  exact ⟨_, Φ, rfl, hb, fun _ _ h => h, fun _ _ _ h => h, fun b i hbi => Nat.lt_of_lt_of_le (hfz b i hbi) hb.size, v, hv Φ, rfl⟩
theorem hexL_lt : ∀ (l : List UInt8) (acc n k : Nat), hexL acc l = some n → acc < 16 ^ k → l.length + k ≤ 8 → n < 4294967296
  | [], acc, n, k, h, ha, hk => by
    obtain rfl := Option.some.inj h
    have : 16 ^ k ≤ 16 ^ 8 := Nat.pow_le_pow_right (by decide) (by simpa using hk)
    rw [show (16 : Nat) ^ 8 = 4294967296 from rfl] at this
    omega
  | c :: r, acc, n, k, h, ha, hk => by
    unfold hexL at h
    cases hx : hexB c with
    | none => rw [hx] at h; cases h
    | some d =>
      rw [hx] at h
      have hd := hexB_bd hx
      have hp : 16 ^ (k + 1) = 16 ^ k * 16 := Nat.pow_succ 16 k
      exact hexL_lt r _ n (k + 1) h (by omega) (by simp at hk; omega)
def x_ParseInt.f (k : Nat) (x : Tup [.str, .int .i64, .int .i64]) : Option (Tup [.int .i64, .err]) :=
  if 1 ≤ x.1.size ∧ x.1.size ≤ 8 ∧ x.2.1 = 16 ∧ x.2.2 = 64 then (match hexL 0 x.1.data.toList with
    | some n => some (((n : Nat) : Int), true)
    | none => none) else none
set_option maxHeartbeats 2000000 in
set_option maxRecDepth 100000 in
theorem x_ParseInt.calls (s : ByteArray) (h1 : 1 ≤ s.size) (h8 : s.size ≤ 8) (n : Nat) (hx : hexL 0 s.data.toList = some n) (w : World) :
    Calls Tryd.prog 166 #[.string s, .int .i64 16, .int .i64 64] w fun e w' => e = .returned (.tuple #[.int .i64 (n : Int), .nilIface]) ∧ Below w.heap.size w w' := by
  have hI : Calls Tryd.prog 107 #[.string s, .int .i64 16, .int .i64 64] w fun e w' => e = .returned (.tuple #[.int .u64 (n : Int), .nilIface]) ∧ n < 4294967296 ∧ Below w.heap.size w w' := Any.internal_strconv_ParseUint_16_b64 Tryd.lays287 s h1 h8 n hx w
  have hlen8 : s.data.toList.length = s.size := Array.length_toList
  have hn : n < 4294967296 := hexL_lt s.data.toList 0 n 0 hx (by decide) (by omega)
  have hw : IntKind.i64.wrap (n : Int) = (n : Int) := w64 (by omega) (by omega)
  have b63 : decide ((n : Int) ≥ 9223372036854775808) = false := decide_eq_false (by omega)
  have b64 : decide ((9223372036854775808 : Int) ≤ (n : Int)) = false := decide_eq_false (by omega)
  have hne : s.toList.isEmpty = false := by
    rw [← decide_eq_emptyBytes]
    exact decide_eq_false (fun h => by rw [h] at h1; exact absurd h1 (by decide))
  have hlen : s.data.toList.length = s.size := Array.length_toList
  have hmem : s[0]'h1 ∈ s.data.toList := by
    show s.data[0]'h1 ∈ s.data.toList
    rw [Array.mem_toList_iff]
    exact Array.getElem_mem _
  obtain ⟨d, hd⟩ := hexL_all _ _ _ hx _ hmem
  generalize hcc : s[0]'h1 = c at hd
  have hc43 : ¬ c.toNat = 43 ∧ ¬ c.toNat = 45 := by
    unfold hexB at hd
    split at hd
    · omega
    · split at hd
      · omega
      · split at hd
        · omega
        · cases hd
  have b43 : (((s[0]'h1).toNat : Int) == 43) = false := by rw [hcc]; exact beq_eq_false_iff_ne.2 (by omega)
  have b45 : (((s[0]'h1).toNat : Int) == 45) = false := by rw [hcc]; exact beq_eq_false_iff_ne.2 (by omega)
  clear hcc hd hmem
  go_enter Tryd.func166, Tryd.ntmps166
  go_wp2_with (go_at_call 107; refine hI.mono ?_; rintro e W1 ⟨rfl, hn2, hb⟩)
  go_ret2
  exact ⟨rfl, hb⟩
theorem x_ParseInt.calls2 (s : ByteArray) (h1 : 1 ≤ s.size) (h8 : s.size ≤ 8) (n : Nat) (hx : hexL 0 s.data.toList = some n) (w : World) :
    Calls Tryd.prog 116 #[.string s, .int .i64 16, .int .i64 64] w fun e w' => e = .returned (.tuple #[.int .i64 (n : Int), .nilIface]) ∧ Below w.heap.size w w' := by
  go_enter Tryd.func116, Tryd.ntmps116
  go_wp2_with (go_at_call 166; refine (x_ParseInt.calls s h1 h8 n hx w).mono ?_; rintro e W1 ⟨rfl, hb⟩)
  go_ret2
  exact ⟨rfl, hb⟩
theorem x_ParseInt.ok : Spec.Sound P T 116 ⟨[.str, .int .i64, .int .i64], [.int .i64, .err], x_ParseInt.f⟩ := sound_flatE rfl fun k x r w h hT => by
  obtain ⟨s, b, n⟩ := x
  simp only [x_ParseInt.f] at h
  split at h
  case isFalse => cases h
  case isTrue hc =>
  obtain ⟨h1, h8, hb, hn⟩ := hc
  have hb' : b = (16 : Int) := hb
  have hn' : n = (64 : Int) := hn
  subst hb' hn'
  split at h
  case h_2 => cases h
  case h_1 m hm =>
  obtain rfl := Option.some.inj h
  refine (x_ParseInt.calls2 s h1 h8 m hm w).mono ?_
  rintro e w1 ⟨rfl, hbl⟩
  exact ⟨⟨[.int .i64 (m : Int), .nilIface], rfl, fun Φ => ⟨_, _, rfl, (flat_rel rfl).2 rfl, _, rfl, _, rfl, .inl ⟨rfl, rfl⟩⟩⟩, hbl⟩
end Go.Proofs.YtmmbedlegmbppaaDoor.R
