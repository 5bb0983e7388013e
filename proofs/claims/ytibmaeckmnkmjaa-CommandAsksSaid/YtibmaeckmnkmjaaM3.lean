/- Whether an op's texts are short. -/
import Derived.Test.YtibmaeckmnkmjaaM2
namespace Go.Proofs.Ytibmaeckmnkmjaa
open Go.RowKit

theorem light_to (s : ByteArray) (b : Bool) (w : World) (hs : s.size ≤ maxLen) (h : Hid (lightB s.size = b)) : Calls Try.prog 12 #[.string s] w fun e w' => e = .returned (.bool b) ∧ w = w' := by
  rw [← h.out]; exact light_any s w hs


set_option maxRecDepth 100000 in
set_option maxHeartbeats 1000000 in
theorem short_0 (x : AskV) (w : World) (hx : x.a.size ≤ maxLen ∧ x.b.size ≤ maxLen ∧ x.c.size ≤ maxLen ∧ x.d.size ≤ maxLen ∧ x.e.size ≤ maxLen ∧ x.f.size ≤ maxLen) (Ha : Hid (lightB x.a.size = false)) : Calls Try.prog 13 #[.agg x.opv] w (SomeBool w) := by
  have HX := Lib.hid hx
  clear hx
  unfold AskV.opv
  go_enter Try.func13, Try.ntmps13
  go_wp2_with fail
  refine (light_to x.a false _ HX.out.1 Ha).mono ?_
  rintro o w' ⟨rfl, rfl⟩
  go_wp2_with fail
  go_ret
  exact ⟨_, rfl, (Below.refl _ _).alloc (Nat.le_refl _) _⟩

set_option maxRecDepth 100000 in
set_option maxHeartbeats 1000000 in
theorem short_1 (x : AskV) (w : World) (hx : x.a.size ≤ maxLen ∧ x.b.size ≤ maxLen ∧ x.c.size ≤ maxLen ∧ x.d.size ≤ maxLen ∧ x.e.size ≤ maxLen ∧ x.f.size ≤ maxLen) (Ha : Hid (lightB x.a.size = true)) (Hb : Hid (lightB x.b.size = false)) : Calls Try.prog 13 #[.agg x.opv] w (SomeBool w) := by
  have HX := Lib.hid hx
  clear hx
  unfold AskV.opv
  go_enter Try.func13, Try.ntmps13
  go_wp2_with fail
  refine (light_to x.a true _ HX.out.1 Ha).mono ?_
  rintro o w' ⟨rfl, rfl⟩
  go_wp2_with fail
  refine (light_to x.b false _ HX.out.2.1 Hb).mono ?_
  rintro o w' ⟨rfl, rfl⟩
  go_wp2_with fail
  go_ret
  exact ⟨_, rfl, (Below.refl _ _).alloc (Nat.le_refl _) _⟩

set_option maxRecDepth 100000 in
set_option maxHeartbeats 1000000 in
theorem short_2 (x : AskV) (w : World) (hx : x.a.size ≤ maxLen ∧ x.b.size ≤ maxLen ∧ x.c.size ≤ maxLen ∧ x.d.size ≤ maxLen ∧ x.e.size ≤ maxLen ∧ x.f.size ≤ maxLen) (Ha : Hid (lightB x.a.size = true)) (Hb : Hid (lightB x.b.size = true)) (Hc : Hid (lightB x.c.size = false)) : Calls Try.prog 13 #[.agg x.opv] w (SomeBool w) := by
  have HX := Lib.hid hx
  clear hx
  unfold AskV.opv
  go_enter Try.func13, Try.ntmps13
  go_wp2_with fail
  refine (light_to x.a true _ HX.out.1 Ha).mono ?_
  rintro o w' ⟨rfl, rfl⟩
  go_wp2_with fail
  refine (light_to x.b true _ HX.out.2.1 Hb).mono ?_
  rintro o w' ⟨rfl, rfl⟩
  go_wp2_with fail
  refine (light_to x.c false _ HX.out.2.2.1 Hc).mono ?_
  rintro o w' ⟨rfl, rfl⟩
  go_wp2_with fail
  go_ret
  exact ⟨_, rfl, (Below.refl _ _).alloc (Nat.le_refl _) _⟩

set_option maxRecDepth 100000 in
set_option maxHeartbeats 1000000 in
theorem short_3 (x : AskV) (w : World) (hx : x.a.size ≤ maxLen ∧ x.b.size ≤ maxLen ∧ x.c.size ≤ maxLen ∧ x.d.size ≤ maxLen ∧ x.e.size ≤ maxLen ∧ x.f.size ≤ maxLen) (Ha : Hid (lightB x.a.size = true)) (Hb : Hid (lightB x.b.size = true)) (Hc : Hid (lightB x.c.size = true)) (Hd : Hid (lightB x.d.size = false)) : Calls Try.prog 13 #[.agg x.opv] w (SomeBool w) := by
  have HX := Lib.hid hx
  clear hx
  unfold AskV.opv
  go_enter Try.func13, Try.ntmps13
  go_wp2_with fail
  refine (light_to x.a true _ HX.out.1 Ha).mono ?_
  rintro o w' ⟨rfl, rfl⟩
  go_wp2_with fail
  refine (light_to x.b true _ HX.out.2.1 Hb).mono ?_
  rintro o w' ⟨rfl, rfl⟩
  go_wp2_with fail
  refine (light_to x.c true _ HX.out.2.2.1 Hc).mono ?_
  rintro o w' ⟨rfl, rfl⟩
  go_wp2_with fail
  refine (light_to x.d false _ HX.out.2.2.2.1 Hd).mono ?_
  rintro o w' ⟨rfl, rfl⟩
  go_wp2_with fail
  go_ret
  exact ⟨_, rfl, (Below.refl _ _).alloc (Nat.le_refl _) _⟩

set_option maxRecDepth 100000 in
set_option maxHeartbeats 1000000 in
theorem short_4 (x : AskV) (w : World) (hx : x.a.size ≤ maxLen ∧ x.b.size ≤ maxLen ∧ x.c.size ≤ maxLen ∧ x.d.size ≤ maxLen ∧ x.e.size ≤ maxLen ∧ x.f.size ≤ maxLen) (Ha : Hid (lightB x.a.size = true)) (Hb : Hid (lightB x.b.size = true)) (Hc : Hid (lightB x.c.size = true)) (Hd : Hid (lightB x.d.size = true)) (He : Hid (lightB x.e.size = false)) : Calls Try.prog 13 #[.agg x.opv] w (SomeBool w) := by
  have HX := Lib.hid hx
  clear hx
  unfold AskV.opv
  go_enter Try.func13, Try.ntmps13
  go_wp2_with fail
  refine (light_to x.a true _ HX.out.1 Ha).mono ?_
  rintro o w' ⟨rfl, rfl⟩
  go_wp2_with fail
  refine (light_to x.b true _ HX.out.2.1 Hb).mono ?_
  rintro o w' ⟨rfl, rfl⟩
  go_wp2_with fail
  refine (light_to x.c true _ HX.out.2.2.1 Hc).mono ?_
  rintro o w' ⟨rfl, rfl⟩
  go_wp2_with fail
  refine (light_to x.d true _ HX.out.2.2.2.1 Hd).mono ?_
  rintro o w' ⟨rfl, rfl⟩
  go_wp2_with fail
  refine (light_to x.e false _ HX.out.2.2.2.2.1 He).mono ?_
  rintro o w' ⟨rfl, rfl⟩
  go_wp2_with fail
  go_ret
  exact ⟨_, rfl, (Below.refl _ _).alloc (Nat.le_refl _) _⟩

set_option maxRecDepth 100000 in
set_option maxHeartbeats 1000000 in
theorem short_5 (x : AskV) (w : World) (hx : x.a.size ≤ maxLen ∧ x.b.size ≤ maxLen ∧ x.c.size ≤ maxLen ∧ x.d.size ≤ maxLen ∧ x.e.size ≤ maxLen ∧ x.f.size ≤ maxLen) (Ha : Hid (lightB x.a.size = true)) (Hb : Hid (lightB x.b.size = true)) (Hc : Hid (lightB x.c.size = true)) (Hd : Hid (lightB x.d.size = true)) (He : Hid (lightB x.e.size = true)) (Hf : Hid (lightB x.f.size = false)) : Calls Try.prog 13 #[.agg x.opv] w (SomeBool w) := by
  have HX := Lib.hid hx
  clear hx
  unfold AskV.opv
  go_enter Try.func13, Try.ntmps13
  go_wp2_with fail
  refine (light_to x.a true _ HX.out.1 Ha).mono ?_
  rintro o w' ⟨rfl, rfl⟩
  go_wp2_with fail
  refine (light_to x.b true _ HX.out.2.1 Hb).mono ?_
  rintro o w' ⟨rfl, rfl⟩
  go_wp2_with fail
  refine (light_to x.c true _ HX.out.2.2.1 Hc).mono ?_
  rintro o w' ⟨rfl, rfl⟩
  go_wp2_with fail
  refine (light_to x.d true _ HX.out.2.2.2.1 Hd).mono ?_
  rintro o w' ⟨rfl, rfl⟩
  go_wp2_with fail
  refine (light_to x.e true _ HX.out.2.2.2.2.1 He).mono ?_
  rintro o w' ⟨rfl, rfl⟩
  go_wp2_with fail
  refine (light_to x.f false _ HX.out.2.2.2.2.2 Hf).mono ?_
  rintro o w' ⟨rfl, rfl⟩
  go_wp2_with fail
  go_ret
  exact ⟨_, rfl, (Below.refl _ _).alloc (Nat.le_refl _) _⟩

set_option maxRecDepth 100000 in
set_option maxHeartbeats 1000000 in
theorem short_6 (x : AskV) (w : World) (hx : x.a.size ≤ maxLen ∧ x.b.size ≤ maxLen ∧ x.c.size ≤ maxLen ∧ x.d.size ≤ maxLen ∧ x.e.size ≤ maxLen ∧ x.f.size ≤ maxLen) (Ha : Hid (lightB x.a.size = true)) (Hb : Hid (lightB x.b.size = true)) (Hc : Hid (lightB x.c.size = true)) (Hd : Hid (lightB x.d.size = true)) (He : Hid (lightB x.e.size = true)) (Hf : Hid (lightB x.f.size = true)) : Calls Try.prog 13 #[.agg x.opv] w (SomeBool w) := by
  have HX := Lib.hid hx
  clear hx
  unfold AskV.opv
  go_enter Try.func13, Try.ntmps13
  go_wp2_with fail
  refine (light_to x.a true _ HX.out.1 Ha).mono ?_
  rintro o w' ⟨rfl, rfl⟩
  go_wp2_with fail
  refine (light_to x.b true _ HX.out.2.1 Hb).mono ?_
  rintro o w' ⟨rfl, rfl⟩
  go_wp2_with fail
  refine (light_to x.c true _ HX.out.2.2.1 Hc).mono ?_
  rintro o w' ⟨rfl, rfl⟩
  go_wp2_with fail
  refine (light_to x.d true _ HX.out.2.2.2.1 Hd).mono ?_
  rintro o w' ⟨rfl, rfl⟩
  go_wp2_with fail
  refine (light_to x.e true _ HX.out.2.2.2.2.1 He).mono ?_
  rintro o w' ⟨rfl, rfl⟩
  go_wp2_with fail
  refine (light_to x.f true _ HX.out.2.2.2.2.2 Hf).mono ?_
  rintro o w' ⟨rfl, rfl⟩
  go_wp2_with fail
  go_ret
  exact ⟨_, rfl, (Below.refl _ _).alloc (Nat.le_refl _) _⟩

theorem short_any (x : AskV) (w : World) (hx : x.a.size ≤ maxLen ∧ x.b.size ≤ maxLen ∧ x.c.size ≤ maxLen ∧ x.d.size ≤ maxLen ∧ x.e.size ≤ maxLen ∧ x.f.size ≤ maxLen) : Calls Try.prog 13 #[.agg x.opv] w (SomeBool w) := by
  cases ha : lightB x.a.size with
  | false => exact short_0 x w hx (Lib.hid ha)
  | true =>
  cases hb : lightB x.b.size with
  | false => exact short_1 x w hx (Lib.hid ha) (Lib.hid hb)
  | true =>
  cases hc : lightB x.c.size with
  | false => exact short_2 x w hx (Lib.hid ha) (Lib.hid hb) (Lib.hid hc)
  | true =>
  cases hd : lightB x.d.size with
  | false => exact short_3 x w hx (Lib.hid ha) (Lib.hid hb) (Lib.hid hc) (Lib.hid hd)
  | true =>
  cases he : lightB x.e.size with
  | false => exact short_4 x w hx (Lib.hid ha) (Lib.hid hb) (Lib.hid hc) (Lib.hid hd) (Lib.hid he)
  | true =>
  cases hf : lightB x.f.size with
  | false => exact short_5 x w hx (Lib.hid ha) (Lib.hid hb) (Lib.hid hc) (Lib.hid hd) (Lib.hid he) (Lib.hid hf)
  | true => exact short_6 x w hx (Lib.hid ha) (Lib.hid hb) (Lib.hid hc) (Lib.hid hd) (Lib.hid he) (Lib.hid hf)

end Go.Proofs.Ytibmaeckmnkmjaa
