/- 'fields' of the program's package command. -/
import Derived.Test.YtibmaeckmnkmjaaF2
import Derived.Test.YtibmaeckmnkmjaaB1
namespace Go.Proofs.Ytibmaeckmnkmjaa
open Go.RowKit

def cmd10 (b : Nat) : List Value := [ifc 88 b 0, ifc 88 b 1, ifc 88 b 2, ifc 88 b 12, ifc 88 b 13, ifc 88 b 14, ifc 88 b 15, ifc 88 b 16, ifc 103 b 17, ifc 83 b 18]
def cmdIfs (b : Nat) : List Value := cmd10 b ++ opIfs b 3 ++ [ifc 87 b 19]

theorem news_kept {W w3 : World} {cs : Array Value} {t : TypeId} {N K : Nat} (hg : W.grownBy w3 (some N)) (h : W.heap[K]? = some (.cells cs t)) (hne : K ≠ N) : ∀ j u, cs.toList[j]? = some u → w3.cell? ((⟨K, 0, none⟩ : Addr).add j) = some u :=
  World.news_of_block ((hg.block K (Array.getElem?_eq_some_iff.1 h).1 (by simpa using hne)).trans h)

/-- The rest of the walk, from any world in which the ten lie. -/
theorem step_own {w1 : World} {N : Nat} {cs : Array Value} {t : TypeId} (h : w1.heap[N]? = some (.cells cs t)) : ∀ W, Below (N + 1) w1 W → W.heap[N]? = some (.cells cs t) := fun _ hb => (hb.block N (Nat.lt_succ_self _)).trans h

theorem fields_below {w w1 W w3 w3' w4 : World} {N g m n cap : Nat} {o : Obj} {xs : List Value} (h0 : Below N w w1) (_hs : w1.heap.size = N + 1) (h1 : Below N w1 W) (h2 : W.grownBy w3 (some N)) (h3 : w3' = w3 ∨ w3' = w3.alloc o) (ho : w3.ownsRow N 20 1 (.slice (some ⟨g, 0, none⟩) m cap) n xs)
    (h4 : w3'.grownBy w4 (some g)) : Below N w w4 := by
  have hsz := h1.size
  have hsz2 := h2.size
  have hg := ho.lt g rfl
  have a := (h0.trans h1).grown h2 (by omega) (fun k hk => by simp at hk; omega)
  rcases h3 with rfl | rfl
  · exact a.grown h4 (by omega) (fun k hk => by simp at hk; omega)
  · exact (a.alloc (by omega) _).grown h4 (by simp; omega) (fun k hk => by simp at hk; omega)

abbrev one19 (b : Nat) : Obj := .cells #[.iface 87 (.pointer (some ⟨b, 19, none⟩))] 20

theorem facts_call (b : Nat) {w1 : World} {N : Nat} (hk : ∀ W, Below (N + 1) w1 W → W.heap[N]? = some (.cells (cmd10 b).toArray 20)) (hs : w1.heap.size = N + 1) :
    ((w1.drew.alloc (.cells (opIfs b 3).toArray 20)).drew).ownsRow N 20 1 (.slice (some ⟨N, 0, none⟩) 10 10) 10 (cmd10 b) ∧
    (∀ j u, (opIfs b 3)[j]? = some u → ((w1.drew.alloc (.cells (opIfs b 3).toArray 20)).drew).cell? ((⟨N + 1, 0, none⟩ : Addr).add j) = some u) ∧ N ≤ ((w1.drew.alloc (.cells (opIfs b 3).toArray 20)).drew).heap.size := by
  have h1 : ((w1.drew.alloc (.cells (opIfs b 3).toArray 20)).drew).heap[N + 1]? = some (.cells (opIfs b 3).toArray 20) := heap_last w1.drew _ _ hs
  exact ⟨own_of_block (cs := (cmd10 b).toArray) (hk _ ((((Below.refl _ _).drew).alloc (by simp [hs]) _).drew)) (Nat.le_refl _) rfl (by decide), World.news_of_block h1, by simp [hs]; omega⟩

theorem facts_call_build (b : Nat) {w1 : World} {N : Nat} (hk : ∀ W, Below (N + 1) w1 W → W.heap[N]? = some (.cells (cmd10 b).toArray 20)) (hs : w1.heap.size = N + 1) :
    (((w1.drew.alloc (.cells (opIfs b 3).toArray 20)).drew).alloc (one19 b)).ownsRow N 20 1 (.slice (some ⟨N, 0, none⟩) 10 10) 10 (cmd10 b) ∧
    (∀ j u, (opIfs b 3)[j]? = some u → (((w1.drew.alloc (.cells (opIfs b 3).toArray 20)).drew).alloc (one19 b)).cell? ((⟨N + 1, 0, none⟩ : Addr).add j) = some u) ∧ N ≤ (((w1.drew.alloc (.cells (opIfs b 3).toArray 20)).drew).alloc (one19 b)).heap.size ∧
    (((w1.drew.alloc (.cells (opIfs b 3).toArray 20)).drew).alloc (one19 b)).heap[N + 2]? = some (one19 b) := by
  have h1 : (((w1.drew.alloc (.cells (opIfs b 3).toArray 20)).drew).alloc (one19 b)).heap[N + 1]? = some (.cells (opIfs b 3).toArray 20) := (heap_at _ _ _ rfl _ (by simp [hs])).trans (heap_last w1.drew _ _ hs)
  exact ⟨own_of_block (cs := (cmd10 b).toArray) (hk _ (((((Below.refl _ _).drew).alloc (by simp [hs]) _).drew).alloc (by simp [hs]) _)) (Nat.le_refl _) rfl (by decide), World.news_of_block h1, by simp [hs]; omega, heap_last _ _ _ (by simp [hs])⟩

theorem facts_build_call (b : Nat) {w1 : World} {N : Nat} (hk : ∀ W, Below (N + 1) w1 W → W.heap[N]? = some (.cells (cmd10 b).toArray 20)) (hs : w1.heap.size = N + 1) :
    (((w1.drew.alloc (one19 b)).alloc (.cells (opIfs b 3).toArray 20)).drew).ownsRow N 20 1 (.slice (some ⟨N, 0, none⟩) 10 10) 10 (cmd10 b) ∧
    (∀ j u, (opIfs b 3)[j]? = some u → (((w1.drew.alloc (one19 b)).alloc (.cells (opIfs b 3).toArray 20)).drew).cell? ((⟨N + 2, 0, none⟩ : Addr).add j) = some u) ∧ N ≤ (((w1.drew.alloc (one19 b)).alloc (.cells (opIfs b 3).toArray 20)).drew).heap.size ∧
    (((w1.drew.alloc (one19 b)).alloc (.cells (opIfs b 3).toArray 20)).drew).heap[N + 1]? = some (one19 b) := by
  have h1 : (((w1.drew.alloc (one19 b)).alloc (.cells (opIfs b 3).toArray 20)).drew).heap[N + 2]? = some (.cells (opIfs b 3).toArray 20) := heap_last (w1.drew.alloc (one19 b)) _ _ (by simp [hs])
  exact ⟨own_of_block (cs := (cmd10 b).toArray) (hk _ (((((Below.refl _ _).drew).alloc (by simp [hs]) _).alloc (by simp [hs]) _).drew)) (Nat.le_refl _) rfl (by decide), World.news_of_block h1, by simp [hs]; omega,
    (heap_at (w1.drew.alloc (one19 b)) _ _ rfl _ (by simp [hs])).trans (heap_last w1.drew _ _ hs)⟩

set_option maxRecDepth 100000 in
set_option maxHeartbeats 2000000 in
theorem fields_any (b : Nat) (w : World) :
    Calls Try.prog 36 #[.pointer (some ⟨b, 0, none⟩)] w fun e w' => ∃ g cap, e = .returned (.slice (some ⟨g, 0, none⟩) 20 cap) ∧
      w'.ownsRow w.heap.size 20 1 (.slice (some ⟨g, 0, none⟩) 20 cap) 20 (cmdIfs b) ∧ Below w.heap.size w w' := by
  obtain ⟨i20, hi, hz0, hz1, hz2⟩ := info_parts info20
  have hi := Lib.hid hi; have hz0 := Lib.hid hz0; have hz1 := Lib.hid hz1; have hz2 := Lib.hid hz2
  go_enter Try.func36, Try.ntmps36
  go_wp2
  go_still_tail 42, (by kernel_rfl)
  go_wp2
  obtain ⟨w1, hw1⟩ : ∃ w1, w1 = (w.alloc (.cells (cmd10 b).toArray 20)).drew := ⟨_, rfl⟩
  have hk := Lib.hid (step_own (w1 := w1) (N := w.heap.size) (cs := (cmd10 b).toArray) (t := 20) (by rw [hw1]; exact heap_alloc_new w _))
  have hsz : Hid (w1.heap.size = w.heap.size + 1) := Lib.hid (by rw [hw1]; simp)
  have hbel := Lib.hid (show Below w.heap.size w w1 by rw [hw1]; exact ((Below.refl _ _).alloc (Nat.le_refl _) _).drew)
  have hw1' : (w.alloc (.cells #[.iface 88 (.pointer (some ⟨b, 0, none⟩)), .iface 88 (.pointer (some ⟨b, 1, none⟩)), .iface 88 (.pointer (some ⟨b, 2, none⟩)), .iface 88 (.pointer (some ⟨b, 12, none⟩)), .iface 88 (.pointer (some ⟨b, 13, none⟩)), .iface 88 (.pointer (some ⟨b, 14, none⟩)), .iface 88 (.pointer (some ⟨b, 15, none⟩)), .iface 88 (.pointer (some ⟨b, 16, none⟩)), .iface 103 (.pointer (some ⟨b, 17, none⟩)), .iface 83 (.pointer (some ⟨b, 18, none⟩))] 20)).drew = w1 := hw1.symm
  rw [hw1']
  clear hw1 hw1'
  have F1 := Lib.hid (facts_call b hk.out hsz.out)
  have F2 := Lib.hid (facts_call_build b hk.out hsz.out)
  have F3 := Lib.hid (facts_build_call b hk.out hsz.out)
  go_region_law (first
    | (refine step_append_lies _ rfl (.tmp 52) (.tmp 57) 54 rfl w.heap.size 20 i20 _ 1 16 Try.underlying54 hi.out hz0.out hz1.out hz2.out rfl (by decide) (.slice (some ⟨g, 0, none⟩) 19 cap) 19 (cmd10 b ++ opIfs b 3) (by simp [Act.eval]) ho3 ⟨w.heap.size + 2, 0, none⟩ 1 1 [ifc 87 b 19] (by simp [Act.eval, hsz.out]) rfl (news_kept (cs := #[ifc 87 b 19]) (t := 20) (N := w.heap.size) hg3 F2.out.2.2.2 (by omega)) (by simp [ifc, Value.oneCell']) (by decide) (by decide) (by decide) (Nat.le_trans F2.out.2.2.1 hg3.size) _ rfl ?_; intro g4 cap4 w4 ho4 hg4 hat4 hlt4)
    | (refine step_append_lies _ rfl (.tmp 52) (.tmp 57) 54 rfl w.heap.size 20 i20 _ 1 16 Try.underlying54 hi.out hz0.out hz1.out hz2.out rfl (by decide) (.slice (some ⟨g, 0, none⟩) 19 cap) 19 (cmd10 b ++ opIfs b 3) (by simp [Act.eval]) ho3 ⟨w.heap.size + 1, 0, none⟩ 1 1 [ifc 87 b 19] (by simp [Act.eval, hsz.out]) rfl (news_kept (cs := #[ifc 87 b 19]) (t := 20) (N := w.heap.size) hg3 F3.out.2.2.2 (by omega)) (by simp [ifc, Value.oneCell']) (by decide) (by decide) (by decide) (Nat.le_trans F3.out.2.2.1 hg3.size) _ rfl ?_; intro g4 cap4 w4 ho4 hg4 hat4 hlt4)
    | (refine step_append_lies _ rfl (.tmp 52) (.tmp 57) 54 rfl w.heap.size 20 i20 _ 1 16 Try.underlying54 hi.out hz0.out hz1.out hz2.out rfl (by decide) (.slice (some ⟨g, 0, none⟩) 19 cap) 19 (cmd10 b ++ opIfs b 3) (by simp [Act.eval]) (ho3.alloc _) ⟨w3.heap.size, 0, none⟩ 1 1 [ifc 87 b 19] (by simp [Act.eval, hsz.out]) rfl (one_new _ _ _) (by simp [ifc, Value.oneCell']) (by decide) (by decide) (by decide) (Nat.le_trans (Nat.le_trans F1.out.2.2 hg3.size) (by simp)) _ rfl ?_; intro g4 cap4 w4 ho4 hg4 hat4 hlt4)
    | (go_simp; go_at_call 42; refine (op_any b 3 _).mono ?_; rintro e w' ⟨rfl, rfl⟩)
    | (refine step_append_lies _ rfl (.tmp 47) (.tmp 51) 54 rfl w.heap.size 20 i20 _ 1 16 Try.underlying54 hi.out hz0.out hz1.out hz2.out rfl (by decide) (.slice (some ⟨w.heap.size, 0, none⟩) 10 10) 10 (cmd10 b) (by simp [Act.eval]) F2.out.1 ⟨w.heap.size + 1, 0, none⟩ 9 9 (opIfs b 3) (by simp [Act.eval, hsz.out]) rfl F2.out.2.1 (by simp [opIfs, ifc, Value.oneCell']) (by decide) (by decide) (by decide) F2.out.2.2.1 _ rfl ?_; intro g cap w3 ho3 hg3 hat hlt3)
    | (refine step_append_lies _ rfl (.tmp 47) (.tmp 51) 54 rfl w.heap.size 20 i20 _ 1 16 Try.underlying54 hi.out hz0.out hz1.out hz2.out rfl (by decide) (.slice (some ⟨w.heap.size, 0, none⟩) 10 10) 10 (cmd10 b) (by simp [Act.eval]) F3.out.1 ⟨w.heap.size + 2, 0, none⟩ 9 9 (opIfs b 3) (by simp [Act.eval, hsz.out]) rfl F3.out.2.1 (by simp [opIfs, ifc, Value.oneCell']) (by decide) (by decide) (by decide) F3.out.2.2.1 _ rfl ?_; intro g cap w3 ho3 hg3 hat hlt3)
    | (refine step_append_lies _ rfl (.tmp 47) (.tmp 51) 54 rfl w.heap.size 20 i20 _ 1 16 Try.underlying54 hi.out hz0.out hz1.out hz2.out rfl (by decide) (.slice (some ⟨w.heap.size, 0, none⟩) 10 10) 10 (cmd10 b) (by simp [Act.eval]) F1.out.1 ⟨w.heap.size + 1, 0, none⟩ 9 9 (opIfs b 3) (by simp [Act.eval, hsz.out]) rfl F1.out.2.1 (by simp [opIfs, ifc, Value.oneCell']) (by decide) (by decide) (by decide) F1.out.2.2 _ rfl ?_; intro g cap w3 ho3 hg3 hat hlt3))
  all_goals go_wp2
  all_goals go_ret
  all_goals refine ⟨g4, cap4, rfl, ho4, ?_⟩
  all_goals first
    | exact fields_below (o := one19 b) hbel.out hsz.out ((((Below.refl _ _).drew.alloc (by simp only [World.size_drew, hsz.out]; omega) _).drew)) hg3 (.inr rfl) ho3 hg4
    | exact fields_below (o := one19 b) hbel.out hsz.out (((((Below.refl _ _).drew.alloc (by simp only [World.size_drew, hsz.out]; omega) _).drew).alloc (by simp only [World.size_alloc, World.size_drew, hsz.out]; omega) _)) hg3 (.inl rfl) ho3 hg4
    | exact fields_below (o := one19 b) hbel.out hsz.out (((((Below.refl _ _).drew.alloc (by simp only [World.size_drew, hsz.out]; omega) _).alloc (by simp only [World.size_alloc, World.size_drew, hsz.out]; omega) _).drew)) hg3 (.inl rfl) ho3 hg4
end Go.Proofs.Ytibmaeckmnkmjaa
