/- 'done', the deferred call of the program's package command, and 'from'. -/
import Derived.Test.YtibmaeckmnkmjaaK7
import Derived.Recover
namespace Go.Proofs.Ytibmaeckmnkmjaa
open Go.RowKit

theorem eql_bad (w : World) : (binOp .eql 20 (.iface 106 (.agg #[])) .nilIface).run Try.prog w = .ok (.bool false) w := by kernel_rfl
theorem eql_nil (w : World) : (binOp .eql 20 .nilIface .nilIface).run Try.prog w = .ok (.bool true) w := by kernel_rfl
theorem ta_bad (w : World) : (Instr.typeAssert (.iface 106 (.agg #[])) 20 106 true).run Try.prog w = .ok (.tuple #[.agg #[], .bool true]) w := by kernel_rfl

theorem done_idle (p : Addr) (n : Int) (w : World) :
    CallsD Try.prog 38 #[.pointer (some p), .int .i64 n] .returning w fun e u' w' => e = .returned (.tuple #[]) ∧ u' = .returning ∧ w = w' := by
  have h1 := eql_nil
  refine callsD_of_wpS Try.func38 rfl fun c₀ cs hu => ?_
  simp only [Try.ntmps38, List.size_toArray, List.length_cons, List.length_nil, Nat.reduceAdd, Nat.reduceSub, Array.replicate_succ,
     Array.replicate_zero, List.push_toArray, List.append_toArray, List.nil_append, List.cons_append]
  apply wpS_seq
  apply wpS_region
  simp [wpOpsS, go_sem, recoverD, hu, Exit.thenS]
  refine wpS_of_wp ?_
  go_wp2
  cases c₀
  simp_all [bodyPostS, results, Try.results38]

theorem done_bad (pb po : Nat) (n : Int) (v : Value) (w : World) (hc : w.cell? ⟨pb, po, none⟩ = some v) (hf : w.frozen? ⟨pb, po, none⟩ = false) :
    CallsD Try.prog 38 #[.pointer (some ⟨pb, po, none⟩), .int .i64 n] (.panicking badChain) w fun e u' w' =>
      e = .returned (.tuple #[]) ∧ settle u' = .returning ∧ w' = (w.setCell ⟨pb, po, none⟩ (.int .i64 n)).alloc (.cells #[] 106) := by
  have h1 := eql_bad
  have h2 := ta_bad
  have hb : pb < w.heap.size := World.block_lt_of_cell? _ _ hc
  refine callsD_of_wpS Try.func38 rfl fun c₀ cs hu => ?_
  simp only [Try.ntmps38, List.size_toArray, List.length_cons, List.length_nil, Nat.reduceAdd, Nat.reduceSub, Array.replicate_succ,
     Array.replicate_zero, List.push_toArray, List.append_toArray, List.nil_append, List.cons_append]
  unfold badChain at hu
  apply wpS_seq
  apply wpS_region
  simp [wpOpsS, go_sem, recoverD, hu, Exit.thenS]
  refine wpS_of_wp ?_
  have hu' := Lib.hid hu
  clear hu
  go_wp2
  simp [bodyPostS, results, Try.results38, settle]

/-- A mark ahead, and what stands behind it. -/
def takeMark (m s : ByteArray) : Option ByteArray := if m.size ≤ s.size ∧ (s.extract 0 m.size).toList = m.toList then some (s.extract m.size s.size) else none

theorem takeMark_some {m s r : ByteArray} (h : takeMark m s = some r) : m.size ≤ s.size ∧ (s.extract 0 m.size).toList = m.toList ∧ r = s.extract m.size s.size := by
  unfold takeMark at h
  split at h
  · rename_i hc; exact ⟨hc.1, hc.2, (Option.some.inj h).symm⟩
  · simp at h

theorem hasPrefix_true (s m r : ByteArray) (w : World) (hs : takeMark m s = some r) : Calls Try.prog 40 #[.string s, .string m] w fun e w' => e = .returned (.bool true) ∧ w = w' := by
  obtain ⟨h, h2, _⟩ := takeMark_some hs
  have h1 : decide (m.size ≤ s.size) = true := by simpa using h
  have h3 : ((s.extract 0 m.size).toList == m.toList) = true := by simpa using h2
  clear h2 hs
  go_enter Try.func40, Try.ntmps40
  go_wp2
  go_ret
  exact ⟨rfl, rfl⟩

theorem hasPrefix_false (s m : ByteArray) (w : World) (hs : takeMark m s = none) : Calls Try.prog 40 #[.string s, .string m] w fun e w' => e = .returned (.bool false) ∧ w = w' := by
  unfold takeMark at hs
  split at hs
  · simp at hs
  rename_i hc
  by_cases h : m.size ≤ s.size
  · have h1 : decide (m.size ≤ s.size) = true := by simpa using h
    have h3 : ((s.extract 0 m.size).toList == m.toList) = false := by simpa using (fun e => hc ⟨h, e⟩)
    clear hs hc
    go_enter Try.func40, Try.ntmps40
    go_wp2
    go_ret
    exact ⟨rfl, rfl⟩
  · have h1 : decide (m.size ≤ s.size) = false := by simpa using h
    clear hs hc
    go_enter Try.func40, Try.ntmps40
    go_wp2
    go_ret
    exact ⟨rfl, rfl⟩

/-- What fields take of bytes behind a mark, and nothing may be left. -/
def fromG (m : ByteArray) (ks : List GK) (s : ByteArray) : Option (List FV) :=
  match takeMark m s with
  | none => none
  | some s1 => match takeAllG ks s1 with
    | none => none
    | some (fvs, r) => if r.size = 0 then some fvs else none

/-- What is asked of the fields ahead of 'from'. -/
structure FitsW (fs : List (GK × Addr)) (fb fo : Nat) (w : World) : Prop where
  lt : fb < w.heap.size
  row : ∀ i (h : i < fs.length), w.cell? ⟨fb, fo + i, none⟩ = some (.iface (fs[i].1.ty) (.pointer (some fs[i].2)))
  cell : ∀ x ∈ fs, ∃ v, w.cell? x.2 = some v
  nil : ∀ x ∈ fs, (x.1 = .ents ∨ x.1 = .posts) → w.cell? x.2 = some (.slice none 0 0)
  fz : ∀ x ∈ fs, w.frozen? x.2 = false
  ne : ∀ x ∈ fs, x.2.block ≠ fb
  spot : ∀ x ∈ fs, x.2.spot = none
  nodup : (fs.map (·.2)).Nodup

def FromPost (m : ByteArray) (fs : List (GK × Addr)) (S : ByteArray) (w : World) (e : Ending) (w' : World) : Prop :=
  match fromG m (fs.map (·.1)) S with
  | some fvs => e = .returned (.int .i64 0) ∧ ∃ vs : List Value, Below w.heap.size (puts w ((fs.map (·.2)).zip vs)) w' ∧ RepAll w.heap.size w' (fs.map (·.1)) fvs vs
  | none => e = .returned (.int .i64 140) ∧ KeptBut w w' (fun b => ∃ y ∈ fs, b = y.2.block)

theorem FitsW.fitsG {fs : List (GK × Addr)} {fb fo : Nat} {w : World} (H : FitsW fs fb fo w) (s1 : ByteArray) :
    FitsG ⟨w.heap.size, 0, none⟩ fs s1 fb fo ((w.alloc (.cells #[.string s1] 9)).alloc (.cells #[.int .i64 0] 26)) := by
  have old : ∀ p : Addr, p.block < w.heap.size → ((w.alloc (.cells #[.string s1] 9)).alloc (.cells #[.int .i64 0] 26)).cell? p = w.cell? p ∧ ((w.alloc (.cells #[.string s1] 9)).alloc (.cells #[.int .i64 0] 26)).frozen? p = w.frozen? p := by
    intro p hp
    rw [World.cell?_alloc_lt _ _ _ (by simp; omega), World.cell?_alloc_lt _ _ _ hp, World.frozen?_alloc_old _ _ _ (by simp; omega), World.frozen?_alloc_old _ _ _ (by omega)]
    exact ⟨rfl, rfl⟩
  have lt : ∀ x ∈ fs, x.2.block < w.heap.size := fun x hx => let ⟨_, h⟩ := H.cell x hx; World.block_lt_of_cell? _ _ h
  refine ⟨?_, ?_, ?_, ?_, ?_, ?_, ?_, ?_, H.spot, H.nodup⟩
  · rw [World.cell?_alloc_lt _ _ _ (by simp)]; simp
  · rw [World.frozen?_alloc_old _ _ _ (by simp)]; simp
  · intro i h; rw [(old ⟨fb, fo + i, none⟩ H.lt).1]; exact H.row i h
  · intro x hx; rw [(old _ (lt x hx)).1]; exact H.cell x hx
  · intro x hx hk; rw [(old _ (lt x hx)).1]; exact H.nil x hx hk
  · intro x hx; rw [(old _ (lt x hx)).2]; exact H.fz x hx
  · have := H.lt; show w.heap.size ≠ fb; omega
  · intro x hx
    refine ⟨fun e => ?_, H.ne x hx⟩
    have := lt x hx
    rw [e] at this
    simp at this

theorem Rep.base {B B' : Nat} {w : World} (hB : B' ≤ B) : ∀ {k : GK} {f : FV} {v : Value}, Rep B w k f v → Rep B' w k f v
  | .flat _, .val _, _, h => h
  | .ents, .row _ _, _, h => ownsRow_base h hB
  | .posts, .row _ _, _, h => ownsRow_base h hB

theorem RepAll.base {B B' : Nat} {w : World} (hB : B' ≤ B) : ∀ {ks : List GK} {fs : List FV} {vs : List Value}, RepAll B w ks fs vs → RepAll B' w ks fs vs
  | [], [], [], _ => trivial
  | _ :: _, _ :: _, _ :: _, ⟨h1, h2⟩ => ⟨h1.base hB, RepAll.base hB h2⟩

def boxed (w : World) (s1 : ByteArray) : World := (w.alloc (.cells #[.string s1] 9)).alloc (.cells #[.int .i64 0] 26)

theorem side_kept {w w' : World} {s1 : ByteArray} {fs : List (GK × Addr)} (hf : ∀ y ∈ fs, y.2.block < w.heap.size)
    (h : KeptBut (boxed w s1) w' (fun b => b = w.heap.size ∨ ∃ y ∈ fs, b = y.2.block)) : w'.cell? ⟨w.heap.size + 1, 0, none⟩ = some (.int .i64 0) ∧ w'.frozen? ⟨w.heap.size + 1, 0, none⟩ = false := by
  have hs : (boxed w s1).heap.size = w.heap.size + 2 := by simp [boxed]
  have hn : ¬ (w.heap.size + 1 = w.heap.size ∨ ∃ y ∈ fs, w.heap.size + 1 = y.2.block) := by
    rintro (e | ⟨y, hy, e⟩)
    · omega
    · have := hf y hy; omega
  have hs1 : (w.alloc (.cells #[.string s1] 9)).heap.size = w.heap.size + 1 := by simp
  rw [h.cell (p := ⟨w.heap.size + 1, 0, none⟩) (by rw [hs]; simp) hn, h.frozen (p := ⟨w.heap.size + 1, 0, none⟩) (by rw [hs]; simp) hn]
  unfold boxed
  rw [← hs1]
  simp

theorem side_end {w w' : World} {s1 : ByteArray} {fs : List (GK × Addr)} {n : Int}
    (h : KeptBut (boxed w s1) w' (fun b => b = w.heap.size ∨ ∃ y ∈ fs, b = y.2.block)) : KeptBut w ((w'.setCell ⟨w.heap.size + 1, 0, none⟩ (.int .i64 n)).alloc (.cells #[] 106)) (fun b => ∃ y ∈ fs, b = y.2.block) := by
  have hs : (boxed w s1).heap.size = w.heap.size + 2 := by simp [boxed]
  have hz := h.size
  rw [hs] at hz
  refine ⟨h.os, h.tape, h.output, by simp; omega, fun k hk hn => ?_⟩
  rw [Below.heap_alloc _ _ _ (by simp; omega), Below.heap_setCell _ _ _ _ (by simp; omega), h.block k (by omega) (fun e => by rcases e with e | e; omega; exact hn e)]
  unfold boxed
  rw [Below.heap_alloc _ _ _ (by simp; omega), Below.heap_alloc _ _ _ hk]

theorem side_some {w w' : World} {s1 r : ByteArray} {fs : List (GK × Addr)} {vs : List Value} (hf : ∀ y ∈ fs, y.2.block < w.heap.size)
    (h : Below (boxed w s1).heap.size (puts ((boxed w s1).setCell ⟨w.heap.size, 0, none⟩ (.string r)) ((fs.map (·.2)).zip vs)) w') :
    w'.cell? ⟨w.heap.size, 0, none⟩ = some (.string r) ∧ w'.cell? ⟨w.heap.size + 1, 0, none⟩ = some (.int .i64 0) ∧ w'.frozen? ⟨w.heap.size + 1, 0, none⟩ = false ∧
      Below w.heap.size (puts w ((fs.map (·.2)).zip vs)) w' ∧ w.heap.size + 2 ≤ w'.heap.size := by
  have hs : (boxed w s1).heap.size = w.heap.size + 2 := by simp [boxed]
  have hz := h.size
  rw [puts_size] at hz
  simp only [World.size_setCell, hs] at hz
  have hs1 : (w.alloc (.cells #[.string s1] 9)).heap.size = w.heap.size + 1 := by simp
  have far : ∀ (b : Nat), w.heap.size ≤ b → ∀ x ∈ (fs.map (·.2)).zip vs, x.1 ≠ ⟨b, 0, none⟩ := by
    intro b hb x hx e
    obtain ⟨y, hy, e1⟩ := List.mem_map.1 (List.of_mem_zip hx).1
    have := hf y hy
    have e2 : y.2 = ⟨b, 0, none⟩ := e1.trans e
    rw [e2] at this
    simp at this; omega
  refine ⟨?_, ?_, ?_, ?_, hz⟩
  · rw [h.cell (p := ⟨w.heap.size, 0, none⟩) (by rw [hs]; simp), puts_cell_out _ _ _ (far _ (Nat.le_refl _)), World.cell?_setCell_same (u := .string s1)]
    unfold boxed
    rw [World.cell?_alloc_lt _ _ _ (by simp)]; simp
  · rw [h.cell (p := ⟨w.heap.size + 1, 0, none⟩) (by rw [hs]; simp), puts_cell_out _ _ _ (far _ (by omega)), World.cell?_setCell_other _ _ _ _ (by simp)]
    unfold boxed
    rw [← hs1]; simp
  · rw [h.frozen (p := ⟨w.heap.size + 1, 0, none⟩) (by rw [hs]; simp), puts_frozen, World.frozen?_setCell]
    unfold boxed
    rw [← hs1]; simp
  · have e1 : Below w.heap.size w ((boxed w s1).setCell ⟨w.heap.size, 0, none⟩ (.string r)) := (((Below.refl _ w).alloc (Nat.le_refl _) _).alloc (by simp) _).setCell (by simp) _
    exact (below_puts_both _ _ _ _ e1).trans (h.mono (by rw [hs]; omega))

theorem zip_kept {w w' : World} {fs : List (GK × Addr)} {vs : List Value} (h : Below w.heap.size (puts w ((fs.map (·.2)).zip vs)) w') : KeptBut w w' (fun b => ∃ y ∈ fs, b = y.2.block) :=
  (puts_kept _ _ _ fun x hx => by
    obtain ⟨y, hy, e1⟩ := List.mem_map.1 (List.of_mem_zip hx).1
    exact ⟨y, hy, by rw [← e1]⟩).trans (KeptBut.of_below (by simpa [puts_size] using h))

set_option maxRecDepth 100000 in
set_option maxHeartbeats 2000000 in
theorem from_any (S m : ByteArray) (fb fo cap : Nat) (fs : List (GK × Addr)) (w : World) (hS : S.size ≤ maxLen) (hlen : fs.length ≤ 1000000) (H : FitsW fs fb fo w) :
    Calls Try.prog 20 #[.string S, .string m, .slice (some ⟨fb, fo, none⟩) fs.length cap] w (FromPost m fs S w) := by
  cases hm : takeMark m S with
  | none =>
    have HM := Lib.hid hm
    have hfin : fromG m (fs.map (·.1)) S = none := by simp only [fromG, hm]
    clear hm
    have hfin := Lib.hid hfin
    go_enter_defers Try.func20, Try.ntmps20
    go_wp2_with (first | (go_at_call 40; refine (hasPrefix_false S m _ HM.out).mono ?_; rintro e w' ⟨rfl, rfl⟩) | (go_at_call 39; refine (right_false _).mono ?_; rintro e w' ⟨rfl, rfl⟩))
    refine leaves_cons (f := 38) (args := #[.pointer (some ⟨w.heap.size + 1, 0, none⟩), .int .i64 140]) (by simp) (by simp [go_sem]) ?_
    refine (done_bad (w.heap.size + 1) 0 140 (.int .i64 0) _ (by simp [go_sem]) (by simp [go_sem])).mono ?_
    rintro e u' w'' ⟨rfl, hu, rfl⟩
    simp only [hu]
    refine ⟨.int .i64 140, by simp [results, Try.results20, go_sem], ?_⟩
    unfold FromPost
    rw [hfin.out]
    refine ⟨rfl, ?_⟩
    exact KeptBut.of_below (((((Below.refl _ _).alloc (Nat.le_refl _) _).alloc (by simp) _).setCell (by simp) _).alloc (by simp; omega) _)
  | some s1 =>
    have hs1 : s1.size ≤ maxLen := by obtain ⟨_, _, rfl⟩ := takeMark_some hm; rw [size_extract]; unfold maxLen at hS ⊢; omega
    have hms : m.size ≤ S.size := (takeMark_some hm).1
    have hs1e : S.extract m.size S.size = s1 := (takeMark_some hm).2.2.symm
    have HM := Lib.hid hm
    have HG := H.fitsG s1
    have HT := fun cap => takes_all w.heap.size 0 s1 fb fo cap fs _ hs1 hlen HG
    have HT := Lib.hid HT
    have hSi : S.size ≤ 9223372036854775807 := hS
    cases ht : takeAllG (fs.map (·.1)) s1 with
    | none =>
      have hfin : fromG m (fs.map (·.1)) S = none := by simp only [fromG, hm, ht]
      have hfin := Lib.hid hfin
      have HE := Lib.hid ht
      have HW : Hid (∀ y ∈ fs, y.2.block < w.heap.size) := Lib.hid (fun x hx => let ⟨_, h⟩ := H.cell x hx; World.block_lt_of_cell? _ _ h)
      clear hm ht H HG
      go_enter_defers Try.func20, Try.ntmps20
      go_wp2_with (first | (go_at_call 40; refine (hasPrefix_true S m s1 _ HM.out).mono ?_; rintro e w' ⟨rfl, rfl⟩) | (go_at_call 39; refine (right_true _).mono ?_; rintro e w' ⟨rfl, rfl⟩))
      refine (HT.out _).mono ?_
      intro e w' hp
      unfold TakesPostG at hp
      rw [HE.out] at hp
      obtain ⟨rfl, hk⟩ := hp
      obtain ⟨q1, q2⟩ := side_kept HW.out hk
      refine leaves_cons (f := 38) (args := #[.pointer (some ⟨w.heap.size + 1, 0, none⟩), .int .i64 140]) (by simp) (by simp [go_sem]) ?_
      refine (done_bad (w.heap.size + 1) 0 140 (.int .i64 0) _ q1 q2).mono ?_
      rintro e u' w'' ⟨rfl, hu, rfl⟩
      simp only [hu]
      have hsz := World.block_lt_of_cell? _ _ q1
      refine ⟨.int .i64 140, ?_, ?_⟩
      · have q3 : (w'.setCell ⟨w.heap.size + 1, 0, none⟩ (.int .i64 140)).cell? ⟨w.heap.size + 1, 0, none⟩ = some (.int .i64 140) := World.cell?_setCell_same _ _ _ q1
        simp only at hsz
        simp [results, Try.results20, go_sem, q3, hsz]
      unfold FromPost
      rw [hfin.out]
      exact ⟨rfl, side_end hk⟩
    | some y =>
      obtain ⟨fvs, r⟩ := y
      have HW : Hid (∀ y ∈ fs, y.2.block < w.heap.size) := Lib.hid (fun x hx => let ⟨_, h⟩ := H.cell x hx; World.block_lt_of_cell? _ _ h)
      have HE := Lib.hid ht
      by_cases hr : r.size = 0
      · have hfin : fromG m (fs.map (·.1)) S = some fvs := by simp only [fromG, hm, ht, hr, if_true]
        have hfin := Lib.hid hfin
        obtain rfl : r = ⟨#[]⟩ := by
          cases r with | mk d => congr 1; exact Array.eq_empty_of_size_eq_zero hr
        clear hm ht H HG hr
        go_enter_defers Try.func20, Try.ntmps20
        go_wp2_with (first | (go_at_call 40; refine (hasPrefix_true S m s1 _ HM.out).mono ?_; rintro e w' ⟨rfl, rfl⟩) | (go_at_call 39; refine (right_true _).mono ?_; rintro e w' ⟨rfl, rfl⟩))
        refine (HT.out _).mono ?_
        intro e w' hp
        unfold TakesPostG at hp
        rw [HE.out] at hp
        obtain ⟨rfl, vs, hb, hrep⟩ := hp
        obtain ⟨q0, q1, q2, q3, q4⟩ := side_some HW.out hb
        have HB := Lib.hid q3
        have HR := Lib.hid hrep
        clear q3 hb hrep
        go_wp2_with (first | (go_at_call 39; refine (right_true _).mono ?_; rintro e w' ⟨rfl, rfl⟩))
        refine leaves_cons (f := 38) (args := #[.pointer (some ⟨w.heap.size + 1, 0, none⟩), .int .i64 140]) (by simp) (by simp [go_sem]) ?_
        refine (done_idle ⟨w.heap.size + 1, 0, none⟩ 140 _).mono ?_
        rintro e u' w'' ⟨rfl, rfl, rfl⟩
        refine ⟨.int .i64 0, ?_, ?_⟩
        · have q3 : (w'.setCell ⟨w.heap.size + 1, 0, none⟩ (.int .i64 0)).cell? ⟨w.heap.size + 1, 0, none⟩ = some (.int .i64 0) := World.cell?_setCell_same _ _ _ q1
          simp [results, Try.results20, go_sem, q3]
        unfold FromPost
        rw [hfin.out]
        refine ⟨rfl, vs, HB.out.setCell (by simp) _, ?_⟩
        refine RepAll.base (B := (boxed w s1).heap.size) (by simp [boxed]; omega) (RepAll.kept (fun b h1 h2 => ?_) HR.out)
        have h1' := h1
        simp only [boxed, World.size_alloc] at h1'
        exact Below.heap_setCell _ _ _ _ (show b ≠ w.heap.size + 1 by omega)
      · have hfin : fromG m (fs.map (·.1)) S = none := by simp only [fromG, hm, ht, hr, if_false]
        have hfin := Lib.hid hfin
        have hr1 : (r.toList == []) = false := by
          have : r.data.toList.length ≠ 0 := by simpa using hr
          cases hx : r.data.toList with
          | nil => rw [hx] at this; simp at this
          | cons a l => simp [ByteArray.toList_eq, hx]
        clear hm ht H HG hr
        go_enter_defers Try.func20, Try.ntmps20
        go_wp2_with (first | (go_at_call 40; refine (hasPrefix_true S m s1 _ HM.out).mono ?_; rintro e w' ⟨rfl, rfl⟩) | (go_at_call 39; refine (right_true _).mono ?_; rintro e w' ⟨rfl, rfl⟩))
        refine (HT.out _).mono ?_
        intro e w' hp
        unfold TakesPostG at hp
        rw [HE.out] at hp
        obtain ⟨rfl, vs, hb, hrep⟩ := hp
        obtain ⟨q0, q1, q2, q3, q4⟩ := side_some HW.out hb
        have HB := Lib.hid q3
        clear q3 hb hrep
        go_wp2_with (first | (go_at_call 39; refine (right_false _).mono ?_; rintro e w' ⟨rfl, rfl⟩))
        refine leaves_cons (f := 38) (args := #[.pointer (some ⟨w.heap.size + 1, 0, none⟩), .int .i64 140]) (by simp) (by simp [go_sem]) ?_
        refine (done_bad (w.heap.size + 1) 0 140 (.int .i64 0) _ q1 q2).mono ?_
        rintro e u' w'' ⟨rfl, hu, rfl⟩
        simp only [hu]
        refine ⟨.int .i64 140, ?_, ?_⟩
        · have q3 : (w'.setCell ⟨w.heap.size + 1, 0, none⟩ (.int .i64 140)).cell? ⟨w.heap.size + 1, 0, none⟩ = some (.int .i64 140) := World.cell?_setCell_same _ _ _ q1
          have hsz : w.heap.size + 1 < w'.heap.size := by omega
          simp [results, Try.results20, go_sem, q3, hsz]
        unfold FromPost
        rw [hfin.out]
        exact ⟨rfl, zip_kept ((HB.out.setCell (by simp) _).alloc (by simp; omega) _)⟩
end Go.Proofs.Ytibmaeckmnkmjaa
