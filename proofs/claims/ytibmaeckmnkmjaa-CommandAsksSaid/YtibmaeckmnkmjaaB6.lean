/- 'PutAsk' of the program's package command. -/
import Derived.Test.YtibmaeckmnkmjaaB5
import Derived.Test.YtibmaeckmnkmjaaF2
namespace Go.Proofs.Ytibmaeckmnkmjaa
open Go.RowKit

def AskV.idv (x : AskV) : Array Value := #[.int .i64 x.s, .int .i64 x.q]
def AskV.opv (x : AskV) : Array Value := #[.int .i64 x.k, .string x.a, .string x.b, .string x.c, .string x.d, .string x.e, .string x.f, .int .i64 x.m, .int .i64 x.n]

def AskV.pfs (x : AskV) : List PF := [.num x.s, .num x.q, .num x.k, .txt x.a, .txt x.b, .txt x.c, .txt x.d, .txt x.e, .txt x.f, .num x.m, .num x.n]

structure AskV.sized (x : AskV) : Prop where
  s : x.s ≤ 9223372036854775807
  q : x.q ≤ 9223372036854775807
  k : x.k ≤ 9223372036854775807
  a : x.a.size ≤ 9223372036854775807
  b : x.b.size ≤ 9223372036854775807
  c : x.c.size ≤ 9223372036854775807
  d : x.d.size ≤ 9223372036854775807
  e : x.e.size ≤ 9223372036854775807
  f : x.f.size ≤ 9223372036854775807
  m : x.m ≤ 9223372036854775807
  n : x.n ≤ 9223372036854775807

def askPs (x : AskV) (b1 b2 : Nat) : List (PF × Addr) := [(.num x.s, ⟨b1, 0, none⟩), (.num x.q, ⟨b1, 1, none⟩), (.num x.k, ⟨b2, 0, none⟩), (.txt x.a, ⟨b2, 1, none⟩), (.txt x.b, ⟨b2, 2, none⟩),
  (.txt x.c, ⟨b2, 3, none⟩), (.txt x.d, ⟨b2, 4, none⟩), (.txt x.e, ⟨b2, 5, none⟩), (.txt x.f, ⟨b2, 6, none⟩), (.num x.m, ⟨b2, 7, none⟩), (.num x.n, ⟨b2, 8, none⟩)]

theorem askPs_pfs (x : AskV) (b1 b2 : Nat) : (askPs x b1 b2).map (·.1) = x.pfs := rfl

theorem ask_puts {w : World} {x : AskV} {b1 b2 g cap base : Nat} {t1 t2 : TypeId} (hx : x.sized) (h1 : w.heap[b1]? = some (.cells x.idv t1)) (h2 : w.heap[b2]? = some (.cells x.opv t2))
    (ho : w.ownsRow base 20 1 (.slice (some ⟨g, 0, none⟩) 11 cap) 11 ([ifc 88 b1 0, ifc 88 b1 1] ++ opIfs b2 0)) : PutFits0 (askPs x b1 b2) g 0 w := by
  obtain ⟨_, h | ⟨g', cap', cur, hv, hg, hh, hcap, _, hcur, htake⟩⟩ := ho
  · simp at h
  simp only [Value.slice.injEq, Option.some.injEq, Addr.mk.injEq, and_true] at hv
  obtain ⟨rfl, _, rfl⟩ := hv
  have hlt : g < w.heap.size := by
    rcases Nat.lt_or_ge g w.heap.size with h' | h'
    · exact h'
    · rw [Array.getElem?_eq_none h'] at hh; cases hh
  refine ⟨?_, hlt, ?_, ?_, ?_⟩
  · intro i hi
    have hi' : i < 11 := hi
    have e1 : w.cell? ⟨g, 0 + i, none⟩ = cur.toList[i]? := by simp [World.cell?, hh]
    rw [e1]
    have e2 : cur.toList[i]? = (cur.toList.take (11 * 1))[i]? := by rw [List.getElem?_take]; simp [hi']
    rw [e2, htake]
    match i, hi' with
    | 0, _ | 1, _ | 2, _ | 3, _ | 4, _ | 5, _ | 6, _ | 7, _ | 8, _ | 9, _ | 10, _ => rfl
    | n + 11, h => omega
  · intro y hy
    simp only [askPs, List.mem_cons, List.not_mem_nil, or_false] at hy
    rcases hy with rfl | rfl | rfl | rfl | rfl | rfl | rfl | rfl | rfl | rfl | rfl
    · simp [World.cell?, h1, AskV.idv, PF.val]
    · simp [World.cell?, h1, AskV.idv, PF.val]
    all_goals simp [World.cell?, h2, AskV.opv, PF.val]
  · intro y hy
    simp only [askPs, List.mem_cons, List.not_mem_nil, or_false] at hy
    rcases hy with rfl | rfl | rfl | rfl | rfl | rfl | rfl | rfl | rfl | rfl | rfl
    all_goals first | exact hx.s | exact hx.q | exact hx.k | exact hx.a | exact hx.b | exact hx.c | exact hx.d | exact hx.e | exact hx.f | exact hx.m | exact hx.n
  · intro y hy v ps e
    simp only [askPs, List.mem_cons, List.not_mem_nil, or_false] at hy
    rcases hy with rfl | rfl | rfl | rfl | rfl | rfl | rfl | rfl | rfl | rfl | rfl <;> simp at e

/-- What 'PutAsk' answers. -/
def PutAskPost (x : AskV) (w : World) (e : Ending) (w' : World) : Prop :=
  match putAll x.pfs with
  | some l => e = .returned (.tuple #[.string ⟨(81 :: l).toArray⟩, .int .i64 0]) ∧ Below w.heap.size w w'
  | none => e = .returned (.tuple #[.string ⟨#[]⟩, .int .i64 1]) ∧ Below w.heap.size w w'

set_option maxRecDepth 100000 in
set_option maxHeartbeats 2000000 in
theorem putAsk_any (x : AskV) (w : World) (hx : x.sized) : Calls Try.prog 14 #[.agg x.idv, .agg x.opv] w (PutAskPost x w) := by
  have hA : ((w.alloc (.cells x.idv 23)).alloc (.cells x.opv 25)).heap[w.heap.size]? = some (.cells x.idv 23) := heap_last2 w _ _ _ rfl
  have hB : ((w.alloc (.cells x.idv 23)).alloc (.cells x.opv 25)).heap[w.heap.size + 1]? = some (.cells x.opv 25) := heap_last _ _ _ (by simp)
  have hC : Below w.heap.size w ((w.alloc (.cells x.idv 23)).alloc (.cells x.opv 25)) := ((Below.refl _ _).alloc (Nat.le_refl _) _).alloc (by simp) _
  have HA := Lib.hid (And.intro hA (And.intro hB hC)); clear hA hB hC
  unfold AskV.idv AskV.opv at HA ⊢
  go_enter Try.func14, Try.ntmps14
  go_wp2_with (first
    | (go_at_call 21; refine (ask_any _ _ _ _ _).mono ?_; rintro e w1 ⟨g, cap, rfl, ho, hb⟩; have HO := Lib.hid ho; have HB := Lib.hid hb; clear ho hb)
    | (go_at_call 31; refine (put_any mQ g 0 cap (askPs x w.heap.size (w.heap.size + 1)) w1 ?_ (by decide) (by simp [askPs])).mono ?_))
  · refine ask_puts (base := w.heap.size + 2) (cap := cap) (t1 := 23) (t2 := 25) hx ?_ ?_ ?_
    · rw [HB.out.block _ (by simp; omega)]; exact HA.out.1
    · rw [HB.out.block _ (by simp)]; exact HA.out.2.1
    · simpa using HO.out
  · intro e w2 hp
    have hbw : Below w.heap.size w w1 := HA.out.2.2.trans (HB.out.mono (by simp; omega))
    unfold PutPost at hp
    rw [askPs_pfs] at hp
    cases hq : putAll x.pfs with
    | none =>
      rw [hq] at hp
      obtain ⟨rfl, hb⟩ := hp
      have HW := Lib.hid (hbw.trans (hb.mono hbw.size)); have HQ := Lib.hid hq; clear hq hb hbw
      go_wp2
      go_ret2
      unfold PutAskPost
      rw [HQ.out]
      exact ⟨rfl, HW.out⟩
    | some l =>
      rw [hq] at hp
      obtain ⟨rfl, hb⟩ := hp
      have HW := Lib.hid (hbw.trans (hb.mono hbw.size)); have HQ := Lib.hid hq; clear hq hb hbw
      go_wp2
      go_ret2
      unfold PutAskPost
      rw [HQ.out]
      exact ⟨rfl, HW.out⟩
end Go.Proofs.Ytibmaeckmnkmjaa
