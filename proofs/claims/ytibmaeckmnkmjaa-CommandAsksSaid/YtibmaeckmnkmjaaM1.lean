/- Replies are held against each other. -/
import Derived.Test.YtibmaeckmnkmjaaR4
import Derived.BigQuiet
import Derived.Deep.QuietTactic
namespace Go.Proofs.Ytibmaeckmnkmjaa
open Go.RowKit

def postCells (ps : List (ByteArray × ByteArray)) : List Value := ps.flatMap fun p => [.string p.1, .string p.2]

theorem postCells_length (ps : List (ByteArray × ByteArray)) : (postCells ps).length = ps.length * 2 := by
  induction ps with
  | nil => rfl
  | cons p ps ih => simp only [postCells, List.flatMap_cons, List.length_append, List.length_cons, List.length_nil] at *; omega

theorem postCells_get : ∀ (ps : List (ByteArray × ByteArray)) (i : Nat) (h : i < ps.length), (postCells ps)[i * 2]? = some (.string ps[i].1) ∧ (postCells ps)[i * 2 + 1]? = some (.string ps[i].2)
  | p :: ps, 0, _ => ⟨rfl, rfl⟩
  | p :: ps, i + 1, h => by
    have ih := postCells_get ps i (by simpa using h)
    have e : postCells (p :: ps) = .string p.1 :: .string p.2 :: postCells ps := rfl
    rw [e]
    have e1 : (i + 1) * 2 = i * 2 + 2 := by omega
    rw [e1]
    exact ih

theorem own_cells {w : World} {B : Nat} {e : TypeId} {a : Option Addr} {n c : Nat} {ps : List (ByteArray × ByteArray)} (h : w.ownsRow B e 2 (.slice a n c) n (postCells ps)) :
    ps.length = n ∧ ∀ i (hi : i < ps.length), ∃ g, a = some ⟨g, 0, none⟩ ∧ w.cell? ⟨g, i * 2, none⟩ = some (.string ps[i].1) ∧ w.cell? ⟨g, i * 2 + 1, none⟩ = some (.string ps[i].2) := by
  have hl : ps.length = n := by have := h.1; rw [postCells_length] at this; omega
  refine ⟨hl, fun i hi => ?_⟩
  rcases h.2 with ⟨_, h0⟩ | ⟨g, cap, cur, hv, hg, hh, hcap, _, hcur, htake⟩
  · omega
  · simp only [Value.slice.injEq] at hv
    obtain ⟨rfl, _, rfl⟩ := hv
    obtain ⟨p1, p2⟩ := postCells_get ps i hi
    have key : ∀ j, j < n * 2 → w.cell? ⟨g, j, none⟩ = (postCells ps)[j]? := by
      intro j hj
      rw [← htake, List.getElem?_take, if_pos hj]
      simp [World.cell?, hh]
    exact ⟨g, rfl, by rw [key _ (by omega)]; exact p1, by rw [key _ (by omega)]; exact p2⟩

set_option maxRecDepth 100000 in
set_option maxHeartbeats 1000000 in
theorem samePosts_same (ua ub : Option Addr) (n ca cb B C : Nat) (ps : List (ByteArray × ByteArray)) (w : World) (hn : n ≤ 64) (ha : w.ownsRow B 38 2 (.slice ua n ca) n (postCells ps)) (hb : w.ownsRow C 38 2 (.slice ub n cb) n (postCells ps)) :
    Calls Try.prog 44 #[.slice ua n ca, .slice ub n cb] w fun e w' => e = .returned (.bool true) ∧ ∃ k, w.drewN k = w' := by
  obtain ⟨hl, hca⟩ := own_cells ha
  obtain ⟨_, hcb⟩ := own_cells hb
  have HA := Lib.hid hca; have HB := Lib.hid hcb; have HL := Lib.hid hl
  clear ha hb hca hcb hl
  go_enter Try.func44, Try.ntmps44
  go_wp2
  go_loopw [5] (fun i wr => ∃ (k m : Nat), k ≤ n ∧ i = .int .i64 k ∧ Hid (w.drewN m = wr)) (fun i _ => n - (intOf i).toNat)
  case atStart => exact ⟨0, 0, by omega, rfl, rfl⟩
  case round =>
    obtain ⟨k, m, hk, rfl, HW⟩ := hrel
    by_cases hlt : k < n
    · obtain ⟨g1, rfl, c1, c2⟩ := HA.out k (by rw [HL.out]; exact hlt)
      obtain ⟨g2, rfl, d1, d2⟩ := HB.out k (by rw [HL.out]; exact hlt)
      obtain rfl := HW.out
      generalize ps[k]'(by rw [HL.out]; exact hlt) = p at *
      obtain ⟨t1, t2⟩ := p
      have hkn : (k : Int) < (n : Int) := by omega
      go_wp2
      go_quiet (fail)
      go_wp2
      exact ⟨⟨k + 1, m + nq, by omega, by go_num, Lib.hid rfl⟩, by simp [intOf]; omega⟩
    · go_wp2
      go_ret
      exact ⟨rfl, m, HW.out⟩

theorem below_drewN' {B : Nat} {a w : World} (h : Below B a w) (n : Nat) : Below B a (w.drewN n) := ⟨h.os, h.tape, h.output, h.size, h.block⟩

theorem ownsRow_alloc {w : World} {B : Nat} {e : TypeId} {size : Nat} {v : Value} {n : Nat} {xs : List Value} (h : w.ownsRow B e size v n xs) (o : Obj) : (w.alloc o).ownsRow B e size v n xs :=
  ownsRow_kept h fun _ _ h2 => Below.heap_alloc _ _ _ h2

set_option maxRecDepth 100000 in
set_option maxHeartbeats 1000000 in
theorem same_same (e a : Int) (ua ub : Option Addr) (n ca cb B C : Nat) (ps : List (ByteArray × ByteArray)) (w : World) (hn : n ≤ 64) (ha : w.ownsRow B 38 2 (.slice ua n ca) n (postCells ps)) (hb : w.ownsRow C 38 2 (.slice ub n cb) n (postCells ps)) :
    Calls Try.prog 29 #[.agg #[.int .i64 e, .int .i64 a, .slice ua n ca], .agg #[.int .i64 e, .int .i64 a, .slice ub n cb]] w fun e w' => e = .returned (.bool true) ∧ Below w.heap.size w w' := by
  have HA := Lib.hid ha; have HB := Lib.hid hb
  clear ha hb
  go_enter Try.func29, Try.ntmps29
  go_wp2_with (first | (go_at_call 44; refine (samePosts_same ua ub n ca cb B C ps _ hn (ownsRow_alloc (ownsRow_alloc HA.out _) _) (ownsRow_alloc (ownsRow_alloc HB.out _) _)).mono ?_; rintro e w' ⟨rfl, k, rfl⟩))
  go_ret
  exact ⟨rfl, below_drewN' (((Below.refl _ _).alloc (Nat.le_refl _) _).alloc (by simp) _) _⟩

set_option maxRecDepth 100000 in
set_option maxHeartbeats 1000000 in
theorem sameReply_same (e a : Int) (ua ub : Option Addr) (n ca cb B C : Nat) (ps : List (ByteArray × ByteArray)) (w : World) (hn : n ≤ 64) (ha : w.ownsRow B 38 2 (.slice ua n ca) n (postCells ps)) (hb : w.ownsRow C 38 2 (.slice ub n cb) n (postCells ps)) :
    Calls Try.prog 10 #[.agg #[.int .i64 e, .int .i64 a, .slice ua n ca], .agg #[.int .i64 e, .int .i64 a, .slice ub n cb]] w fun e w' => e = .returned (.bool true) ∧ Below w.heap.size w w' := by
  have HA := Lib.hid ha; have HB := Lib.hid hb
  clear ha hb
  go_enter Try.func10, Try.ntmps10
  go_wp2_with (first | (go_at_call 29; refine (same_same e a ua ub n ca cb B C ps _ hn (ownsRow_alloc (ownsRow_alloc HA.out _) _) (ownsRow_alloc (ownsRow_alloc HB.out _) _)).mono ?_; rintro e w' ⟨rfl, hb⟩))
  go_ret
  exact ⟨rfl, (((Below.refl _ _).alloc (Nat.le_refl _) _).alloc (by simp) _).trans (hb.mono (by simp; omega))⟩
end Go.Proofs.Ytibmaeckmnkmjaa
