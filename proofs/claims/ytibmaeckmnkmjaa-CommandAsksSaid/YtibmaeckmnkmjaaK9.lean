/- The lists of fields of the program's package command. -/
import Derived.Test.YtibmaeckmnkmjaaK8
import Derived.BigRegion
import Derived.StillTailTactics
import Derived.Deep.RegionWith
namespace Go.Proofs.Ytibmaeckmnkmjaa
open Go.RowKit

def ifc (t b o : Nat) : Value := .iface t (.pointer (some ⟨b, o, none⟩))

/-- An op's fields, from a place on. -/
def opIfs (b o : Nat) : List Value := [ifc 88 b o, ifc 87 b (o + 1), ifc 87 b (o + 2), ifc 87 b (o + 3), ifc 87 b (o + 4), ifc 87 b (o + 5), ifc 87 b (o + 6), ifc 88 b (o + 7), ifc 88 b (o + 8)]

set_option maxRecDepth 100000 in
set_option maxHeartbeats 1000000 in
theorem op_any (b o : Nat) (w : World) :
    Calls Try.prog 42 #[.pointer (some ⟨b, o, none⟩)] w fun e w' => e = .returned (.slice (some ⟨w.heap.size, 0, none⟩) 9 9) ∧ (w.alloc (.cells (opIfs b o).toArray 20)).drew = w' := by
  go_enter Try.func42, Try.ntmps42
  go_wp2
  go_still_tail 36, (by kernel_rfl)
  go_wp2
  go_ret
  exact ⟨rfl, rfl⟩

theorem own_of_block {w : World} {base b n : Nat} {cs : Array Value} {t : TypeId} (h : w.heap[b]? = some (.cells cs t (0, 0))) (hb : base ≤ b) (hn : cs.size = n) (hm : n ≤ maxLen) :
    w.ownsRow base t 1 (.slice (some ⟨b, 0, none⟩) n n) n cs.toList := by
  subst hn
  exact ⟨by simp, Or.inr ⟨b, cs.size, cs, rfl, hb, h, Nat.le_refl _, hm, by simp, List.take_of_length_le (by simp)⟩⟩

theorem heap_last (w : World) (o : Obj) (H : Nat) (h : w.heap.size = H) : (w.alloc o).heap[H]? = some o := by
  subst h
  show (w.heap.push o)[w.heap.size]? = some o
  rw [Array.getElem?_push_size]

theorem heap_last2 (w : World) (o o' : Obj) (H : Nat) (h : w.heap.size = H) : ((w.alloc o).alloc o').heap[H]? = some o := by
  rw [Below.heap_alloc _ _ _ (by simp; omega), heap_last w o H h]

theorem news_last (w : World) (cs : Array Value) (t : TypeId) (H : Nat) (h : w.heap.size = H) : ∀ j u, cs.toList[j]? = some u → (w.alloc (.cells cs t)).drew.drew.cell? ((⟨H, 0, none⟩ : Addr).add j) = some u :=
  World.news_of_block (w := (w.alloc (.cells cs t)).drew.drew) (heap_last w _ H h)

theorem news_last2 (w : World) (cs : Array Value) (t : TypeId) (o : Obj) (H : Nat) (h : w.heap.size = H) : ∀ j u, cs.toList[j]? = some u → ((w.alloc (.cells cs t)).alloc o).drew.drew.cell? ((⟨H, 0, none⟩ : Addr).add j) = some u :=
  World.news_of_block (w := ((w.alloc (.cells cs t)).alloc o).drew.drew) (heap_last2 w _ o H h)

theorem info20 : (Try.prog.info? 20).map (fun i => (i.zero, i.size, i.bytes)) = some (some .nilIface, 1, 16) := by kernel_rfl

set_option maxRecDepth 100000 in
set_option maxHeartbeats 1000000 in
theorem ask_any (b1 o1 b2 o2 : Nat) (w : World) :
    Calls Try.prog 21 #[.pointer (some ⟨b1, o1, none⟩), .pointer (some ⟨b2, o2, none⟩)] w fun e w' => ∃ g cap, e = .returned (.slice (some ⟨g, 0, none⟩) 11 cap) ∧
      w'.ownsRow w.heap.size 20 1 (.slice (some ⟨g, 0, none⟩) 11 cap) 11 ([ifc 88 b1 o1, ifc 88 b1 (o1 + 1)] ++ opIfs b2 o2) ∧ Below w.heap.size w w' := by
  obtain ⟨i20, hi, hz0, hz1, hz2⟩ := info_parts info20
  have hi := Lib.hid hi; have hz0 := Lib.hid hz0; have hz1 := Lib.hid hz1; have hz2 := Lib.hid hz2
  go_enter Try.func21, Try.ntmps21
  go_wp2
  go_region_law (first | (refine step_append_lies _ rfl (.tmp 13) (.tmp 15) 54 rfl w.heap.size 20 i20 _ 1 16 Try.underlying54 hi.out hz0.out hz1.out hz2.out rfl (by decide) (.slice (some ⟨w.heap.size, 0, none⟩) 2 2) 2 [ifc 88 b1 o1, ifc 88 b1 (o1 + 1)] (by simp [Act.eval]) (own_of_block (heap_last2 w _ _ _ rfl) (Nat.le_refl _) rfl (by decide)) ⟨w.heap.size + 1, 0, none⟩ 9 9 (opIfs b2 o2) (by simp [Act.eval]) rfl (news_last _ _ _ _ (by simp)) (by simp [opIfs, ifc, Value.oneCell']) (by decide) (by decide) (by decide) (by simp; omega) _ rfl ?_; intro g cap w3 ho3 hg3 hat hlt3) | (refine step_append_lies _ rfl (.tmp 13) (.tmp 15) 54 rfl w.heap.size 20 i20 _ 1 16 Try.underlying54 hi.out hz0.out hz1.out hz2.out rfl (by decide) (.slice (some ⟨w.heap.size + 1, 0, none⟩) 2 2) 2 [ifc 88 b1 o1, ifc 88 b1 (o1 + 1)] (by simp [Act.eval]) (own_of_block (heap_last _ _ _ (by simp)) (by simp) rfl (by decide)) ⟨w.heap.size, 0, none⟩ 9 9 (opIfs b2 o2) (by simp [Act.eval]) rfl (news_last2 w _ _ _ _ rfl) (by simp [opIfs, ifc, Value.oneCell']) (by decide) (by decide) (by decide) (by simp; omega) _ rfl ?_; intro g cap w3 ho3 hg3 hat hlt3) | (go_simp; go_at_call 42; refine (op_any b2 o2 _).mono ?_; rintro e w' ⟨rfl, rfl⟩))
  all_goals go_wp2
  all_goals go_ret
  all_goals exact ⟨g, cap, rfl, ho3, ((Below.refl _ _).alloc (Nat.le_refl _) _ |>.alloc (by simp) _).drew.drew.grown hg3 (by simp; omega) (by intro k hk; simp [Value.ownBlock] at hk; omega)⟩

set_option maxRecDepth 100000 in
set_option maxHeartbeats 1000000 in
theorem answer_any (b1 o1 b2 o2 : Nat) (w : World) :
    Calls Try.prog 26 #[.pointer (some ⟨b1, o1, none⟩), .pointer (some ⟨b2, o2, none⟩)] w fun e w' => e = .returned (.slice (some ⟨w.heap.size, 0, none⟩) 5 5) ∧
      (w.alloc (.cells #[ifc 88 b1 o1, ifc 88 b1 (o1 + 1), ifc 83 b2 o2, ifc 88 b2 (o2 + 1), ifc 92 b2 (o2 + 2)] 20)).drew = w' := by
  go_enter Try.func26, Try.ntmps26
  go_wp2
  go_still_tail 20, (by kernel_rfl)
  go_wp2
  go_ret
  exact ⟨rfl, rfl⟩

set_option maxRecDepth 100000 in
set_option maxHeartbeats 1000000 in
theorem message_any (b o : Nat) (w : World) :
    Calls Try.prog 37 #[.pointer (some ⟨b, o, none⟩)] w fun e w' => e = .returned (.slice (some ⟨w.heap.size, 0, none⟩) 11 11) ∧
      (w.alloc (.cells #[ifc 88 b o, ifc 88 b (o + 1), ifc 88 b (o + 2), ifc 88 b (o + 3), ifc 88 b (o + 4), ifc 88 b (o + 5), ifc 88 b (o + 6), ifc 88 b (o + 8), ifc 103 b (o + 9), ifc 104 b (o + 7), ifc 87 b (o + 10)] 20)).drew = w' := by
  go_enter Try.func37, Try.ntmps37
  go_wp2
  go_still_tail 44, (by kernel_rfl)
  go_wp2
  go_ret
  exact ⟨rfl, rfl⟩
end Go.Proofs.Ytibmaeckmnkmjaa
