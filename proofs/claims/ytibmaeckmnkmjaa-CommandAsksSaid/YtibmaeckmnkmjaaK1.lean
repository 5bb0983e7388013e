import Derived.Test.YtibmaeckmnkmjaaRows
import Derived.Test.YtibmaeckmnkmjaaS0
import Derived.WalkKit
import Derived.WalkSpells
import Derived.WalkLawsBesides
import Derived.Deep.LoopGhost
import Derived.Lib.Hide
namespace Go.Proofs.Ytibmaeckmnkmjaa
open Go.RowKit

set_option maxRecDepth 100000 in
set_option maxHeartbeats 400000 in
theorem bitsVar (s : ByteArray) (w : World) (hs : s.size ≤ maxLen) (R : Int × Int × Int) (hR : varS s.data.toList = R) :
    Calls Try.prog 53 #[.string s] w fun e w' => e = .returned (.tuple #[.int .i64 R.1, .int .i64 R.2.1, .int .i64 R.2.2]) ∧ w = w' := by
  unfold maxLen at hs
  have HR := Lib.hid hR; clear hR
  obtain ⟨m, hm, hm9, hms, hml⟩ : ∃ m : Nat, (if 9 < (s.size : Int) then 9 else (s.size : Int)) = (m : Int) ∧ m ≤ 9 ∧ m ≤ s.size ∧ (s.size ≤ m ∨ 9 ≤ m) := by
    by_cases h : 9 < (s.size : Int)
    · exact ⟨9, by rw [if_pos h]; rfl, by omega, by omega, by omega⟩
    · exact ⟨s.size, by rw [if_neg h], by omega, by omega, by omega⟩
  go_enter Try.func53, Try.ntmps53
  go_wp2
  go_loop [2, 9] (fun n i => ∃ k acc : Nat, k ≤ m ∧ i = .int .i64 k ∧ n = .int .i64 acc ∧ Hid (acc < 2 ^ (7 * k)) ∧ Hid (varGo (s.data.toList.drop k) k acc = R)) (fun _ i => m - (intOf i).toNat)
  case atStart => exact ⟨0, 0, by omega, rfl, rfl, Lib.hid (by decide), HR⟩
  case round =>
    obtain ⟨k, acc, hk, rfl, rfl, hacc, H⟩ := hrel
    go_wp2
    case roundEnd =>
      have hlt : k < s.size := by assumption
      have hb : 128 ≤ ((s[k]).toNat : Int) := by assumption
      exact ⟨⟨k + 1, _, by omega, by go_num, congrArg _ (var_or acc k _ hacc.out (by omega)), Lib.hid (var_step_lt acc _ k hacc.out), varGo_more hlt (by omega) hb H⟩, by simp [intOf]; omega⟩
    · go_ret3
      rw [varGo_zero (by assumption) (by omega) (by assumption) (by assumption) H]; exact ⟨rfl, rfl⟩
    · go_ret3
      have hlt : k < s.size := by assumption
      rw [varGo_last hlt (by omega) (by assumption) (by omega) H]; rw [← var_or0 acc k _ (by assumption) hacc.out (by omega)]; exact ⟨rfl, rfl⟩
    · go_ret3
      have hlt : k < s.size := by assumption
      rw [varGo_last hlt (by omega) (by assumption) (by omega) H]; rw [← var_or acc k _ hacc.out (by omega)]; exact ⟨rfl, rfl⟩
    · go_ret3
      rw [varGo_end (by omega) (by omega) H]; exact ⟨rfl, rfl⟩
    · go_ret3
      obtain rfl : k = 9 := by omega
      rw [varGo_nine H]; exact ⟨rfl, rfl⟩

set_option maxRecDepth 100000 in
set_option maxHeartbeats 400000 in
theorem refVar (s : ByteArray) (w : World) (hs : s.size ≤ maxLen) (R : Int × Int × Int) (hR : varS s.data.toList = R) :
    Calls Try.prog 43 #[.string s] w fun e w' => e = .returned (.tuple #[.int .i64 R.1, .int .i64 R.2.1, .int .i64 R.2.2]) ∧ w = w' := by
  unfold maxLen at hs
  have HR := Lib.hid hR; clear hR
  have hwb : ∀ b : UInt8, wrap64 (b.toNat : Int) = (b.toNat : Int) := fun b => by have := b.toNat_lt; exact wrap64_id _ (by omega) (by omega)
  go_enter Try.func43, Try.ntmps43
  go_wp2
  go_loop [5, 6, 7] (fun n i b => ∃ k acc : Nat, k ≤ 9 ∧ k ≤ s.size ∧ i = .int .i64 k ∧ n = .int .i64 acc ∧ Hid (acc < 2 ^ (7 * k)) ∧ Hid (varGo (s.data.toList.drop k) k acc = R)) (fun _ i _ => 9 - (intOf i).toNat)
  case atStart => exact ⟨0, 0, by omega, by omega, rfl, rfl, Lib.hid (by decide), HR⟩
  case round =>
    obtain ⟨k, acc, hk, hks, rfl, rfl, hacc, H⟩ := hrel
    go_wp2
    case roundEnd =>
      have hlt : k < s.size := by assumption
      have hb : 128 ≤ ((s[k]).toNat : Int) := by assumption
      exact ⟨⟨k + 1, _, by omega, by omega, by go_num, congrArg _ (var_rem acc k _ hacc.out (by omega)), Lib.hid (var_step_lt acc _ k hacc.out), varGo_more hlt (by omega) hb H⟩, by simp [intOf]; omega⟩
    · go_ret3
      rw [varGo_zero (by assumption) (by omega) (by assumption) (by assumption) H]; exact ⟨rfl, rfl⟩
    · go_ret3
      have hlt : k < s.size := by assumption
      rw [varGo_last hlt (by omega) (by assumption) (by omega) H]; rw [← var_rem0 acc k _ (by assumption) hacc.out (by omega)]; exact ⟨rfl, rfl⟩
    · go_ret3
      have hlt : k < s.size := by assumption
      rw [varGo_last hlt (by omega) (by assumption) (by omega) H]; rw [← var_rem acc k _ hacc.out (by omega)]; exact ⟨rfl, rfl⟩
    · go_ret3
      obtain rfl : k = 9 := by omega
      rw [varGo_nine H]; exact ⟨rfl, rfl⟩
    · go_ret3
      obtain rfl : k = 9 := by omega
      rw [varGo_nine H]; exact ⟨rfl, rfl⟩
    · go_ret3
      rw [varGo_end (by omega) (by omega) H]; exact ⟨rfl, rfl⟩
end Go.Proofs.Ytibmaeckmnkmjaa
