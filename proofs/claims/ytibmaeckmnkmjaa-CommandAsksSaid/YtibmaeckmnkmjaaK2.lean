/- 'right' and 'taken' of the program's package command. -/
import Derived.Test.YtibmaeckmnkmjaaK1
namespace Go.Proofs.Ytibmaeckmnkmjaa
open Go.RowKit

/-- What a call gives up with. -/
def badChain : List PanicEntry := [{ v := .iface 106 (.agg #[]), recovered := false }]

theorem right_true (w : World) : Calls Try.prog 39 #[.bool true] w fun e w' => e = .returned (.tuple #[]) ∧ w = w' := by
  go_enter Try.func39, Try.ntmps39
  go_wp2
  go_end0
  exact ⟨rfl, rfl⟩

theorem right_false (w : World) : Calls Try.prog 39 #[.bool false] w fun e w' => e = .panicked badChain ∧ w = w' := by
  go_enter Try.func39, Try.ntmps39
  go_wp2
  exact ⟨rfl, rfl, rfl⟩

set_option maxRecDepth 100000 in
set_option maxHeartbeats 400000 in
theorem taken_some (sa : Addr) (S r : ByteArray) (n most : Int) (w : World) (hS : S.size ≤ maxLen) (hc : w.cell? sa = some (.string S)) (hf : w.frozen? sa = false) (h : takeNum S most = some (n, r)) :
    Calls Try.prog 50 #[.pointer (some sa), .int .i64 most] w fun e w' => e = .returned (.int .i64 n) ∧ w.setCell sa (.string r) = w' := by
  obtain ⟨k, hv, h0, hm, h63, hk0, hk, rfl⟩ := takeNum_some h
  have hcall := fun wx => bitsVar S wx hS _ hv
  have Hv := Lib.hid hv
  clear hv h
  have hmost : decide (n ≤ most) = true := by simpa using hm
  unfold maxLen at hS
  go_enter Try.func50, Try.ntmps50
  go_wp2_with (first | (go_at_call 53; refine (hcall _).mono ?_; rintro e w' ⟨rfl, rfl⟩) | (go_at_call 39; refine (right_true _).mono ?_; rintro e w' ⟨rfl, rfl⟩))
  go_ret
  exact ⟨rfl, rfl⟩

set_option maxRecDepth 100000 in
set_option maxHeartbeats 400000 in
theorem taken_none (sa : Addr) (S : ByteArray) (most : Int) (w : World) (hS : S.size ≤ maxLen) (hc : w.cell? sa = some (.string S)) (h : takeNum S most = none) :
    Calls Try.prog 50 #[.pointer (some sa), .int .i64 most] w fun e w' => e = .panicked badChain ∧ w = w' := by
  have hcall := fun wx => bitsVar S wx hS _ rfl
  have hn := takeNum_none h
  clear h
  unfold maxLen at hS
  generalize varS S.data.toList = R at *
  obtain ⟨a, b, c⟩ := R
  simp only at hcall hn
  by_cases hc0 : (c == 0) = true
  · have hd : decide (a ≤ most) = false := by simpa using hn hc0
    clear hn
    go_enter Try.func50, Try.ntmps50
    go_wp2_with (first | (go_at_call 53; refine (hcall _).mono ?_; rintro e w' ⟨rfl, rfl⟩) | (go_at_call 39; refine (right_false _).mono ?_; rintro e w' ⟨rfl, rfl⟩))
    exact ⟨rfl, rfl, rfl⟩
  · have hd : (c == 0) = false := by simpa using hc0
    clear hn hc0
    go_enter Try.func50, Try.ntmps50
    go_wp2_with (first | (go_at_call 53; refine (hcall _).mono ?_; rintro e w' ⟨rfl, rfl⟩) | (go_at_call 39; refine (right_false _).mono ?_; rintro e w' ⟨rfl, rfl⟩))
    exact ⟨rfl, rfl, rfl⟩
end Go.Proofs.Ytibmaeckmnkmjaa
