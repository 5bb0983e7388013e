/- 'Put' of the program's package command. -/
import Derived.Test.YtibmaeckmnkmjaaC1
import Derived.Test.YtibmaeckmnkmjaaB6
namespace Go.Proofs.Ytibmaeckmnkmjaa
open Go.RowKit

/-- A command. -/
structure CmdV where
  kd : Int
  s : Int
  q : Int
  k : Int
  a : ByteArray
  b : ByteArray
  c : ByteArray
  d : ByteArray
  e : ByteArray
  f : ByteArray
  m : Int
  n : Int
  tx : Int
  pl : Int
  sl : Int
  ep : Int
  gr : Int
  ok : Bool
  er : Int
  dt : ByteArray

def CmdV.arr (x : CmdV) : Array Value := #[.int .i64 x.kd, .int .i64 x.s, .int .i64 x.q, .int .i64 x.k, .string x.a, .string x.b, .string x.c, .string x.d, .string x.e, .string x.f, .int .i64 x.m, .int .i64 x.n,
  .int .i64 x.tx, .int .i64 x.pl, .int .i64 x.sl, .int .i64 x.ep, .int .i64 x.gr, .bool x.ok, .int .i64 x.er, .string x.dt]

structure CmdV.sized (x : CmdV) : Prop where
  kd : x.kd ≤ 9223372036854775807
  s : x.s ≤ 9223372036854775807
  q : x.q ≤ 9223372036854775807
  k : x.k ≤ 9223372036854775807
  a : x.a.size ≤ 9223372036854775807
  b : x.b.size ≤ 9223372036854775807
  c : x.c.size ≤ 9223372036854775807
  d : x.d.size ≤ 9223372036854775807
  e : x.e.size ≤ 9223372036854775807
  f : x.f.size ≤ 9223372036854775807
  m : x.m ≤ 9223372036854775807
  n : x.n ≤ 9223372036854775807
  tx : x.tx ≤ 9223372036854775807
  pl : x.pl ≤ 9223372036854775807
  sl : x.sl ≤ 9223372036854775807
  ep : x.ep ≤ 9223372036854775807
  gr : x.gr ≤ 9223372036854775807
  er : x.er ≤ 9223372036854775807
  dt : x.dt.size ≤ 9223372036854775807

def cmdPs (x : CmdV) (g : Nat) : List (PF × Addr) := [(.num x.kd, ⟨g, 0, none⟩), (.num x.s, ⟨g, 1, none⟩), (.num x.q, ⟨g, 2, none⟩), (.num x.tx, ⟨g, 12, none⟩), (.num x.pl, ⟨g, 13, none⟩), (.num x.sl, ⟨g, 14, none⟩), (.num x.ep, ⟨g, 15, none⟩), (.num x.gr, ⟨g, 16, none⟩),
  (.tru x.ok, ⟨g, 17, none⟩), (.err x.er, ⟨g, 18, none⟩), (.num x.k, ⟨g, 3, none⟩), (.txt x.a, ⟨g, 4, none⟩), (.txt x.b, ⟨g, 5, none⟩), (.txt x.c, ⟨g, 6, none⟩), (.txt x.d, ⟨g, 7, none⟩), (.txt x.e, ⟨g, 8, none⟩), (.txt x.f, ⟨g, 9, none⟩), (.num x.m, ⟨g, 10, none⟩), (.num x.n, ⟨g, 11, none⟩), (.txt x.dt, ⟨g, 19, none⟩)]

def CmdV.pfs (x : CmdV) : List PF := [.num x.kd, .num x.s, .num x.q, .num x.tx, .num x.pl, .num x.sl, .num x.ep, .num x.gr, .tru x.ok, .err x.er, .num x.k, .txt x.a, .txt x.b, .txt x.c, .txt x.d, .txt x.e, .txt x.f, .num x.m, .num x.n, .txt x.dt]

theorem cmdPs_pfs (x : CmdV) (b : Nat) : (cmdPs x b).map (·.1) = x.pfs := rfl

theorem own_cells20 {w : World} {base g cap n : Nat} {xs : List Value} (ho : w.ownsRow base 20 1 (.slice (some ⟨g, 0, none⟩) n cap) n xs) (_hn : 0 < xs.length) :
    g < w.heap.size ∧ base ≤ g ∧ ∀ i v, xs[i]? = some v → w.cell? ⟨g, 0 + i, none⟩ = some v := by
  refine ⟨(ho.lt g rfl).2, (ho.lt g rfl).1, fun i v hi => ?_⟩
  have := ho.cells (g := g) rfl i v hi
  rw [Nat.zero_add]
  by_cases h0 : i = 0
  · subst h0; simpa [Addr.add] using this
  · simpa [Addr.add, h0] using this

theorem cmd_puts {w : World} {x : CmdV} {b g cap base : Nat} {t : TypeId} (hx : x.sized) (h1 : w.heap[b]? = some (.cells x.arr t))
    (ho : w.ownsRow base 20 1 (.slice (some ⟨g, 0, none⟩) 20 cap) 20 (cmdIfs b)) : PutFits0 (cmdPs x b) g 0 w := by
  obtain ⟨hlt, _, hc⟩ := own_cells20 ho (by simp [cmdIfs, cmd10])
  refine ⟨?_, hlt, ?_, ?_, ?_⟩
  · intro i hi
    have hi' : i < 20 := hi
    apply hc
    match i, hi' with
    | 0, _ | 1, _ | 2, _ | 3, _ | 4, _ | 5, _ | 6, _ | 7, _ | 8, _ | 9, _ | 10, _ | 11, _ | 12, _ | 13, _ | 14, _ | 15, _ | 16, _ | 17, _ | 18, _ | 19, _ => rfl
    | n + 20, h => omega
  · intro y hy
    simp only [cmdPs, List.mem_cons, List.not_mem_nil, or_false] at hy
    rcases hy with rfl | rfl | rfl | rfl | rfl | rfl | rfl | rfl | rfl | rfl | rfl | rfl | rfl | rfl | rfl | rfl | rfl | rfl | rfl | rfl
    all_goals simp [World.cell?, h1, CmdV.arr, PF.val]
  · intro y hy
    simp only [cmdPs, List.mem_cons, List.not_mem_nil, or_false] at hy
    rcases hy with rfl | rfl | rfl | rfl | rfl | rfl | rfl | rfl | rfl | rfl | rfl | rfl | rfl | rfl | rfl | rfl | rfl | rfl | rfl | rfl
    all_goals first | exact hx.kd | exact hx.s | exact hx.q | exact hx.k | exact hx.a | exact hx.b | exact hx.c | exact hx.d | exact hx.e | exact hx.f | exact hx.m | exact hx.n | exact hx.tx | exact hx.pl | exact hx.sl | exact hx.ep | exact hx.gr | exact hx.er | exact hx.dt | exact trivial
  · intro y hy v ps e
    simp only [cmdPs, List.mem_cons, List.not_mem_nil, or_false] at hy
    rcases hy with rfl | rfl | rfl | rfl | rfl | rfl | rfl | rfl | rfl | rfl | rfl | rfl | rfl | rfl | rfl | rfl | rfl | rfl | rfl | rfl <;> simp at e

def mC : ByteArray := ⟨#[67]⟩

/-- What 'Put' answers. -/
def PutCmdPost (x : CmdV) (w : World) (e : Ending) (w' : World) : Prop :=
  match putAll x.pfs with
  | some l => e = .returned (.tuple #[.string ⟨(67 :: l).toArray⟩, .int .i64 0]) ∧ Below w.heap.size w w'
  | none => e = .returned (.tuple #[.string ⟨#[]⟩, .int .i64 1]) ∧ Below w.heap.size w w'

set_option maxRecDepth 100000 in
set_option maxHeartbeats 2000000 in
theorem putCmd_any (x : CmdV) (w : World) (hx : x.sized) : Calls Try.prog 30 #[.agg x.arr] w (PutCmdPost x w) := by
  have hA : (w.alloc (.cells x.arr 45)).heap[w.heap.size]? = some (.cells x.arr 45) := heap_last w _ _ rfl
  have hC : Below w.heap.size w (w.alloc (.cells x.arr 45)) := (Below.refl _ _).alloc (Nat.le_refl _) _
  have HA := Lib.hid (And.intro hA hC); clear hA hC
  unfold CmdV.arr at HA ⊢
  go_enter Try.func30, Try.ntmps30
  go_wp2_with (first
    | (go_at_call 36; refine (fields_any _ _).mono ?_; rintro e w1 ⟨g, cap, rfl, ho, hb⟩; have HO := Lib.hid ho; have HB := Lib.hid hb; clear ho hb)
    | (go_at_call 31; refine (put_any mC g 0 cap (cmdPs x w.heap.size) w1 ?_ (by decide) (by simp [cmdPs])).mono ?_))
  · refine cmd_puts (base := w.heap.size + 1) (cap := cap) (t := 45) hx ?_ ?_
    · rw [HB.out.block _ (by simp)]; exact HA.out.1
    · simpa using HO.out
  · intro e w2 hp
    have hbw : Below w.heap.size w w1 := HA.out.2.trans (HB.out.mono (by simp))
    unfold PutPost at hp
    rw [cmdPs_pfs] at hp
    cases hq : putAll x.pfs with
    | none =>
      rw [hq] at hp
      obtain ⟨rfl, hb⟩ := hp
      have HW := Lib.hid (hbw.trans (hb.mono hbw.size)); have HQ := Lib.hid hq; clear hq hb hbw
      go_wp2
      go_ret2
      unfold PutCmdPost
      rw [HQ.out]
      exact ⟨rfl, HW.out⟩
    | some l =>
      rw [hq] at hp
      obtain ⟨rfl, hb⟩ := hp
      have HW := Lib.hid (hbw.trans (hb.mono hbw.size)); have HQ := Lib.hid hq; clear hq hb hbw
      go_wp2
      go_ret2
      unfold PutCmdPost
      rw [HQ.out]
      exact ⟨rfl, HW.out⟩
end Go.Proofs.Ytibmaeckmnkmjaa
