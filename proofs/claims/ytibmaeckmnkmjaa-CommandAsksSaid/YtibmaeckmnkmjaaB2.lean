/- 'number' of the program's package command. -/
import Derived.Test.YtibmaeckmnkmjaaB1
import Derived.Test.YtibmaeckmnkmjaaK2
namespace Go.Proofs.Ytibmaeckmnkmjaa
open Go.RowKit

set_option maxRecDepth 100000 in
set_option maxHeartbeats 1000000 in
theorem bitsPutVar_neg (n : Int) (w : World) (hn : n < 0) : Calls Try.prog 56 #[.int .i64 n] w fun e w' => e = .returned (.tuple #[.string ⟨#[]⟩, .int .i64 1]) ∧ w = w' := by
  go_enter Try.func56, Try.ntmps56
  go_wp2
  go_ret2
  exact ⟨rfl, rfl⟩

def numB (n : Int) : Option (List UInt8) := if 0 ≤ n ∧ n ≤ 1099511627776 then some (putV n.toNat) else none

theorem numB_some {n : Int} {l : List UInt8} (h : numB n = some l) : ∃ m : Nat, n = m ∧ m ≤ 1099511627776 ∧ l = putV m := by
  unfold numB at h
  split at h
  · rename_i hh
    obtain ⟨m, rfl⟩ := Int.eq_ofNat_of_zero_le hh.1
    exact ⟨m, rfl, by omega, by simpa using h.symm⟩
  · simp at h

theorem numB_none {n : Int} (h : numB n = none) : n < 0 ∨ 1099511627776 < n := by
  unfold numB at h
  split at h
  · simp at h
  · omega

theorem numB_len {n : Int} {l : List UInt8} (h : numB n = some l) : l.length ≤ 9 := by
  obtain ⟨m, rfl, hm, rfl⟩ := numB_some h
  exact putV_nine (by omega)

theorem cells_str (l : List UInt8) : Lib.strCells ⟨l.toArray⟩ = Lib.byteCells l := by simp [Lib.strCells, Lib.byteCells]

/-- What a writer of builder b leaves as it was. -/
def Fr (B b : Nat) (w w' : World) : Prop := Below B w w' ∧ Lib.OthersKept 5 (some b) w w'

theorem Fr.refl (B b : Nat) (w : World) : Fr B b w w := ⟨Below.refl _ _, Lib.OthersKept.refl _ _ _⟩
theorem Fr.trans {B b : Nat} {a c d : World} (h : Fr B b a c) (k : Fr B b c d) : Fr B b a d := ⟨h.1.trans k.1, h.2.trans k.2⟩
theorem Fr.of_below {B b : Nat} {w w' : World} (h : Below w.heap.size w w') (hB : B ≤ w.heap.size) : Fr B b w w' :=
  ⟨h.mono hB, fun k _ hk _ _ => (h.block k (Array.getElem?_eq_some_iff.1 hk).1).trans hk⟩

theorem isB_base {B b : Nat} {bs : List Value} {w w' : World} (h : Lib.IsBuilderF 96 5 B b bs w) (hb : Below w.heap.size w w') : Lib.IsBuilderF 96 5 B b bs w' := by
  have key : ∀ p, Lib.BuilderAtF 96 5 B b p bs w → Lib.BuilderAtF 96 5 B b p bs w' := by
    intro p hp
    have hlt := hp.lt
    obtain ⟨hB, v, hk, hown, hne⟩ := hp
    refine ⟨hB, v, (hb.block b hlt).trans hk, hown.kept (row := none) ⟨hb.os, hb.tape, hb.output, hb.size, fun k hk _ => hb.block k hk⟩ ?_, hne⟩
    cases hv : v.ownBlock <;> simp
  exact h.imp (key _) (key _)

set_option maxRecDepth 100000 in
set_option maxHeartbeats 1000000 in
theorem number_some (B b : Nat) (l0 l : List UInt8) (n : Int) (w : World) (h : Lib.IsBuilderF 96 5 B b (Lib.byteCells l0) w) (hB : B ≤ w.heap.size) (hl : l0.length + 9 ≤ 140737488355328) (hn : numB n = some l) :
    Calls Try.prog 55 #[.pointer (some ⟨b, 0, none⟩), .int .i64 n] w fun e w' => e = .returned (.tuple #[]) ∧ Lib.IsBuilderF 96 5 B b (Lib.byteCells (l0 ++ l)) w' ∧ Fr B b w w' := by
  obtain ⟨m, rfl, hm, rfl⟩ := numB_some hn
  have hlen := putV_nine (n := m) (by omega)
  have hle : ((m : Int) ≤ 1099511627776) := by omega
  clear hn
  go_enter Try.func55, Try.ntmps55
  go_wp2_with (first
    | (go_at_call 56; refine (bitsPutVar m _ (by omega)).mono ?_; rintro e w1 ⟨rfl, hb1⟩)
    | (go_at_call 39; refine (right_true _).mono ?_; rintro e w' ⟨rfl, rfl⟩)
    | (go_at_call 45; refine (write_string B b _ _ _ (isB_base h hb1) (by have := hb1.size; simp only [Lib.byteCells_length, ByteArray.size, List.size_toArray] at *; omega) (by have := hb1.size; omega)).mono ?_; rintro e w2 ⟨rfl, hb2, hb3, hb4⟩))
  go_end0
  refine ⟨rfl, Or.inr ?_, (Fr.of_below hb1 hB).trans ⟨hb3, hb4⟩⟩
  rw [cells_str, ← Lib.byteCells_append] at hb2
  exact hb2

set_option maxRecDepth 100000 in
set_option maxHeartbeats 1000000 in
theorem number_none (B b : Nat) (n : Int) (w : World) (hB : B ≤ w.heap.size) (h63 : n ≤ 9223372036854775807) (hn : numB n = none) :
    Calls Try.prog 55 #[.pointer (some ⟨b, 0, none⟩), .int .i64 n] w fun e w' => e = .panicked badChain ∧ Fr B b w w' := by
  by_cases h0 : n < 0
  · clear hn
    go_enter Try.func55, Try.ntmps55
    go_wp2_with (first
      | (go_at_call 56; refine (bitsPutVar_neg n _ h0).mono ?_; rintro e w1 ⟨rfl, rfl⟩)
      | (go_at_call 39; refine (right_false _).mono ?_; rintro e w' ⟨rfl, rfl⟩))
    exact ⟨rfl, rfl, Fr.refl _ _ _⟩
  · have h1 := numB_none hn
    obtain ⟨m, rfl⟩ := Int.eq_ofNat_of_zero_le (by omega : 0 ≤ n)
    have hd : decide ((m : Int) ≤ 1099511627776) = false := by simp; omega
    clear hn h0 h1
    go_enter Try.func55, Try.ntmps55
    go_wp2_with (first
      | (go_at_call 56; refine (bitsPutVar m _ (by omega)).mono ?_; rintro e w1 ⟨rfl, hb1⟩)
      | (go_at_call 39; refine (right_false _).mono ?_; rintro e w' ⟨rfl, rfl⟩))
    exact ⟨rfl, rfl, Fr.of_below hb1 hB⟩
end Go.Proofs.Ytibmaeckmnkmjaa
