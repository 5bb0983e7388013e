/- Replies held against each other, one of which came in; short texts. -/
import Derived.Test.YtibmaeckmnkmjaaO4
namespace Go.Proofs.Ytibmaeckmnkmjaa
open Go.RowKit

theorem PostsAt.at {w : World} {ua : Option Addr} {n uc : Nat} {ps : List (ByteArray × ByteArray)} (h : PostsAt w ua n uc ps) (i : Nat) (hi : i < ps.length) :
    ∃ g o, ua = some ⟨g, o, none⟩ ∧ w.cell? ⟨g, o + i * 2, none⟩ = some (.string ps[i].1) ∧ w.cell? ⟨g, o + i * 2 + 1, none⟩ = some (.string ps[i].2) := by
  obtain ⟨_, _, hc⟩ := h
  obtain ⟨g, o, ho, _, c1, c2⟩ := hc i hi
  exact ⟨g, o, ho, c1, c2⟩

set_option maxRecDepth 100000 in
set_option maxHeartbeats 1000000 in
theorem samePosts_in (ua ub : Option Addr) (n ca cb B : Nat) (ps : List (ByteArray × ByteArray)) (w : World) (hn : n ≤ 9223372036854775807) (ha : w.ownsRow B 38 2 (.slice ua n ca) n (postCells ps)) (hb : PostsAt w ub n cb ps) :
    Calls Try.prog 44 #[.slice ua n ca, .slice ub n cb] w fun e w' => e = .returned (.bool true) ∧ ∃ k, w.drewN k = w' := by
  obtain ⟨hl, hca⟩ := own_cells ha
  have hcb := hb.at
  have HA := Lib.hid hca; have HB := Lib.hid hcb; have HL := Lib.hid hl
  clear ha hb hca hcb hl
  go_enter Try.func44, Try.ntmps44
  go_wp2
  go_loopw [5] (fun i wr => ∃ (k m : Nat), k ≤ n ∧ i = .int .i64 k ∧ Hid (w.drewN m = wr)) (fun i _ => n - (intOf i).toNat)
  case atStart => exact ⟨0, 0, by omega, rfl, rfl⟩
  case round =>
    obtain ⟨k, m, hk, rfl, HW⟩ := hrel
    by_cases hlt : k < n
    · obtain ⟨g1, rfl, c1, c2⟩ := HA.out k (by rw [HL.out]; exact hlt)
      obtain ⟨g2, o2, rfl, d1, d2⟩ := HB.out k (by rw [HL.out]; exact hlt)
      obtain rfl := HW.out
      generalize ps[k]'(by rw [HL.out]; exact hlt) = p at *
      obtain ⟨t1, t2⟩ := p
      have hkn : (k : Int) < (n : Int) := by omega
      go_wp2
      go_quiet (fail)
      go_wp2
      exact ⟨⟨k + 1, m + nq, by omega, by go_num, Lib.hid rfl⟩, by simp [intOf]; omega⟩
    · go_wp2
      go_ret
      exact ⟨rfl, m, HW.out⟩

theorem PostsAt.alloc {w : World} {ua : Option Addr} {n uc : Nat} {ps : List (ByteArray × ByteArray)} (h : PostsAt w ua n uc ps) (o : Obj) : PostsAt (w.alloc o) ua n uc ps :=
  h.later ((Below.refl _ _).alloc (Nat.le_refl _) o)

set_option maxRecDepth 100000 in
set_option maxHeartbeats 1000000 in
theorem same_in (e a : Int) (ua ub : Option Addr) (n ca cb B : Nat) (ps : List (ByteArray × ByteArray)) (w : World) (hn : n ≤ 9223372036854775807) (ha : w.ownsRow B 38 2 (.slice ua n ca) n (postCells ps)) (hb : PostsAt w ub n cb ps) :
    Calls Try.prog 29 #[.agg #[.int .i64 e, .int .i64 a, .slice ua n ca], .agg #[.int .i64 e, .int .i64 a, .slice ub n cb]] w fun e w' => e = .returned (.bool true) ∧ Below w.heap.size w w' := by
  have HA := Lib.hid ha; have HB := Lib.hid hb
  clear ha hb
  go_enter Try.func29, Try.ntmps29
  go_wp2_with (first | (go_at_call 44; refine (samePosts_in ua ub n ca cb B ps _ hn (ownsRow_alloc (ownsRow_alloc HA.out _) _) ((HB.out.alloc _).alloc _)).mono ?_; rintro e w' ⟨rfl, k, rfl⟩))
  go_ret
  exact ⟨rfl, below_drewN' (((Below.refl _ _).alloc (Nat.le_refl _) _).alloc (by simp) _) _⟩

set_option maxRecDepth 100000 in
set_option maxHeartbeats 1000000 in
theorem sameReply_in (e a : Int) (ua ub : Option Addr) (n ca cb B : Nat) (ps : List (ByteArray × ByteArray)) (w : World) (hn : n ≤ 9223372036854775807) (ha : w.ownsRow B 38 2 (.slice ua n ca) n (postCells ps)) (hb : PostsAt w ub n cb ps) :
    Calls Try.prog 10 #[.agg #[.int .i64 e, .int .i64 a, .slice ua n ca], .agg #[.int .i64 e, .int .i64 a, .slice ub n cb]] w fun e w' => e = .returned (.bool true) ∧ Below w.heap.size w w' := by
  have HA := Lib.hid ha; have HB := Lib.hid hb
  clear ha hb
  go_enter Try.func10, Try.ntmps10
  go_wp2_with (first | (go_at_call 29; refine (same_in e a ua ub n ca cb B ps _ hn (ownsRow_alloc (ownsRow_alloc HA.out _) _) ((HB.out.alloc _).alloc _)).mono ?_; rintro e w' ⟨rfl, hb⟩))
  go_ret
  exact ⟨rfl, (((Below.refl _ _).alloc (Nat.le_refl _) _).alloc (by simp) _).trans (hb.mono (by simp; omega))⟩

/-- Is a text short? -/
def lightB (n : Nat) : Bool := decide (n ≤ 4096) || decide (262144 < n)

set_option maxRecDepth 100000 in
theorem light_any (s : ByteArray) (w : World) (hs : s.size ≤ maxLen) : Calls Try.prog 12 #[.string s] w fun e w' => e = .returned (.bool (lightB s.size)) ∧ w = w' := by
  unfold maxLen at hs
  by_cases h1 : s.size ≤ 4096
  · have h1' : ((s.size : Int) ≤ 4096) := by omega
    go_enter Try.func12, Try.ntmps12
    go_wp2
    go_ret
    exact ⟨by simp [lightB, h1], rfl⟩
  · by_cases h2 : 262144 < s.size
    · have h1' : ¬ ((s.size : Int) ≤ 4096) := by omega
      have h2' : ((262144 : Int) < (s.size : Int)) := by omega
      go_enter Try.func12, Try.ntmps12
      go_wp2
      go_ret
      exact ⟨by simp [lightB, h1, h2], rfl⟩
    · have h1' : ¬ ((s.size : Int) ≤ 4096) := by omega
      have h2' : ¬ ((262144 : Int) < (s.size : Int)) := by omega
      go_enter Try.func12, Try.ntmps12
      go_wp2
      go_ret
      exact ⟨by simp [lightB, h1, h2], rfl⟩

def SomeBool (w : World) (e : Ending) (w' : World) : Prop := ∃ b : Bool, e = .returned (.bool b) ∧ Below w.heap.size w w'
end Go.Proofs.Ytibmaeckmnkmjaa
