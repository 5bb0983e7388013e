/- The reference's writer: 'num', 'text', 'ends' of rookeryref12's out. -/
import Derived.Test.YtibmaeckmnkmjaaE0
import Derived.Test.YtibmaeckmnkmjaaP1
import Derived.Lib.AppendStr
namespace Go.Proofs.Ytibmaeckmnkmjaa
open Go.RowKit

/-- A writer in block b: what is put, whether something may not be. -/
structure OutS (B b : Nat) (l : List UInt8) (bad : Bool) (w : World) : Prop where
  lies : ∃ v, w.heap[b]? = some (.cells #[v, .bool bad] 73) ∧ w.ownsRow B 5 1 v l.length (Lib.byteCells l)
  ge : B ≤ b

/-- What a number, a text does. -/
def stepB (a : Option (List UInt8)) (x : List UInt8 × Bool) : List UInt8 × Bool :=
  match a with
  | some a => (x.1 ++ a, x.2)
  | none => (x.1, true)

theorem setCell_block {w : World} {b i : Nat} {cs : Array Value} {t : TypeId} {fz : Nat × Nat} (v : Value) (h : w.heap[b]? = some (.cells cs t fz)) : (w.setCell ⟨b, i, none⟩ v).heap[b]? = some (.cells (cs.setIfInBounds i v) t fz) := by
  simp [setCell_upd, Array.getElem?_modify, h, updO]

theorem OutS.own_ne {B b : Nat} {w : World} {v : Value} {n : Nat} {xs : List Value} {cs : Array Value} (h : w.heap[b]? = some (.cells cs 73)) (ho : w.ownsRow B 5 1 v n xs) : some b ≠ v.ownBlock := by
  intro e
  rcases ho.2 with ⟨rfl, _⟩ | ⟨g, cap, cur, rfl, _, hh, _⟩
  · simp [Value.ownBlock] at e
  · simp only [Value.ownBlock, Option.some.injEq] at e
    subst e
    rw [hh] at h
    simp at h

theorem OutS.below {B b : Nat} {l : List UInt8} {bad : Bool} {w w' : World} (h : OutS B b l bad w) (hb : Below w.heap.size w w') : OutS B b l bad w' := by
  obtain ⟨⟨v, h1, h2⟩, h3⟩ := h
  exact ⟨⟨v, (hb.block b (Array.getElem?_eq_some_iff.1 h1).1).trans h1, Ever.own h2 _ hb⟩, h3⟩

/-- Behind an append and the store of its result. -/
theorem OutS.pushed {B b : Nat} {l a : List UInt8} {bad : Bool} {w w2 : World} {v v' : Value} (h1 : w.heap[b]? = some (.cells #[v, .bool bad] 73)) (h2 : w.ownsRow B 5 1 v l.length (Lib.byteCells l)) (h3 : B ≤ b) (hB : B ≤ w.heap.size)
    {k : Nat} (ho : w2.ownsRow B 5 1 v' k (Lib.byteCells l ++ Lib.byteCells a)) (hk : k = l.length + a.length) (hg : w.grownBy w2 v.ownBlock) :
    OutS B b (l ++ a) bad (w2.setCell ⟨b, 0, none⟩ v') ∧ Fr B b w (w2.setCell ⟨b, 0, none⟩ v') := by
  subst hk
  have hne := OutS.own_ne h1 h2
  have hb2 : w2.heap[b]? = some (.cells #[v, .bool bad] 73) := (hg.block b (Array.getElem?_eq_some_iff.1 h1).1 hne).trans h1
  have hne2 := OutS.own_ne hb2 ho
  refine ⟨⟨⟨v', ?_, ?_⟩, h3⟩, ?_, ?_⟩
  · exact setCell_block v' hb2
  · rw [← Lib.byteCells_append, ← List.length_append] at ho
    refine ho.kept (row := some b) ⟨rfl, rfl, rfl, by simp, fun k _ hk => Below.heap_setCell _ _ _ _ (fun e => hk (by rw [e]))⟩ ?_
    exact Or.inr (fun e => hne2 e.symm)
  · exact ((Below.refl _ _).grown hg hB (fun k hk => (h2.lt k hk).1)).setCell h3 _
  · refine ((Lib.OthersKept.refl 5 (some b) w).grown hg ?_).setCell _ rfl _
    intro g hgk
    rcases h2.2 with ⟨rfl, _⟩ | ⟨g', cap, cur, rfl, _, hh, _⟩
    · simp [Value.ownBlock] at hgk
    · simp only [Value.ownBlock, Option.some.injEq] at hgk
      subst hgk
      exact ⟨cur, _, hh⟩

theorem OutS.marked {B b : Nat} {l : List UInt8} {bad : Bool} {w : World} (h : OutS B b l bad w) : OutS B b l true (w.setCell ⟨b, 1, none⟩ (.bool true)) ∧ Fr B b w (w.setCell ⟨b, 1, none⟩ (.bool true)) := by
  obtain ⟨⟨v, h1, h2⟩, h3⟩ := h
  have hne := OutS.own_ne h1 h2
  refine ⟨⟨⟨v, setCell_block _ h1, ?_⟩, h3⟩, (Below.refl _ _).setCell h3 _, (Lib.OthersKept.refl 5 (some b) w).setCell _ rfl _⟩
  refine h2.kept (row := some b) ⟨rfl, rfl, rfl, by simp, fun k _ hk => Below.heap_setCell _ _ _ _ (fun e => hk (by rw [e]))⟩ ?_
  exact Or.inr (fun e => hne e.symm)

theorem OutS.cells {B b : Nat} {l : List UInt8} {bad : Bool} {w : World} {v : Value} (h1 : w.heap[b]? = some (.cells #[v, .bool bad] 73)) :
    w.cell? ⟨b, 0, none⟩ = some v ∧ w.cell? ⟨b, 1, none⟩ = some (.bool bad) ∧ w.frozen? ⟨b, 0, none⟩ = false ∧ w.frozen? ⟨b, 1, none⟩ = false := by
  simp [World.cell?, World.frozen?, h1]

theorem putV_size (m : Nat) (h : m ≤ 9223372036854775807) : (⟨(putV m).toArray⟩ : ByteArray).size ≤ 9 := by
  have := putV_nine h
  simpa [ByteArray.size] using this

theorem strCells_put (l : List UInt8) : Lib.strCells ⟨l.toArray⟩ = Lib.byteCells l := cells_str l

set_option maxRecDepth 100000 in
set_option maxHeartbeats 1000000 in
theorem outNum (B b : Nat) (l : List UInt8) (bad : Bool) (n : Int) (w : World) (h : OutS B b l bad w) (hB : B ≤ w.heap.size) (hl : l.length + 9 ≤ 140737488355328) (hn : n ≤ 9223372036854775807) :
    Calls Try.prog 32 #[.pointer (some ⟨b, 0, none⟩), .int .i64 n] w fun e w' => e = .returned (.tuple #[]) ∧ OutS B b (stepB (numB n) (l, bad)).1 (stepB (numB n) (l, bad)).2 w' ∧ Fr B b w w' := by
  obtain ⟨i0, hi, hz0, hz1, hz2⟩ := info_parts info5
  have hi := Lib.hid hi; have hz0 := Lib.hid hz0; have hz1 := Lib.hid hz1; have hz2 := Lib.hid hz2
  cases hb : numB n with
  | none =>
    have HM := Lib.hid h.marked
    obtain ⟨⟨v, h1, h2⟩, h3⟩ := h
    obtain ⟨c0, c1, f0, f1⟩ := OutS.cells (B := B) (l := l) h1
    have hd := numB_none hb
    clear h1 h2 hb
    by_cases hneg : n < 0
    · clear hd
      go_enter Try.func32, Try.ntmps32
      go_wp2
      refine bodyPost_ret (results_none rfl _ _ _) rfl ?_
      exact ⟨rfl, HM.out⟩
    · have hbig : 1099511627776 < n := by omega
      have hneg' : decide (n < 0) = false := by simpa using hneg
      clear hd
      go_enter Try.func32, Try.ntmps32
      go_wp2
      refine bodyPost_ret (results_none rfl _ _ _) rfl ?_
      exact ⟨rfl, HM.out⟩
  | some a =>
    obtain ⟨m, rfl, hm, rfl⟩ := numB_some hb
    have hlen := putV_size m (by omega)
    have hle : ((m : Int) ≤ 1099511627776) := by omega
    have hH := Lib.hid h
    clear hb h
    go_enter Try.func32, Try.ntmps32
    go_wp2_with (first
      | (go_at_call 48; refine (refPutVar m _ (by omega)).mono ?_; rintro e w1 ⟨rfl, hb1⟩; obtain ⟨⟨v, h1, h2⟩, h3⟩ := hH.out.below hb1; obtain ⟨c0, c1, f0, f1⟩ := OutS.cells (B := B) (l := l) h1; have H1 := Lib.hid h1; have H2 := Lib.hid h2; have HB1 := Lib.hid hb1; clear h1 h2 hb1)
      | (at_builtin; go_loud (refine Lib.wpList_append_own_string _ rfl (.tmp 24) (.tmp 25) 71 9 rfl B 5 i0 Try.underlying71 Try.underlying9 hi.out hz0.out hz1.out hz2.out v l.length (Lib.byteCells l) rfl H2.out ⟨(putV m).toArray⟩ rfl (by unfold maxLen; omega) (by omega) (by have := HB1.out.size; omega) ?_); intro v' w2 hown' hgr _; obtain ⟨ua, uc, rfl⟩ := own_slice hown'; have HO := Lib.hid hown'; have HG := Lib.hid hgr; have c0 := hgr.cell c0 (OutS.own_ne H1.out H2.out); have f0 := (World.frozen?_of_block (hgr.block b (Array.getElem?_eq_some_iff.1 H1.out).1 (OutS.own_ne H1.out H2.out))).trans f0; clear hown' hgr c1 f1))
    go_end0
    have hx := HO.out
    rw [strCells_put] at hx
    obtain ⟨p1, p2⟩ := OutS.pushed H1.out H2.out h3 (by have := HB1.out.size; omega) hx (by simp [ByteArray.size]) HG.out
    exact ⟨rfl, p1, (Fr.of_below HB1.out hB).trans p2⟩

theorem str_size (s : ByteArray) : s.size = s.data.toList.length := by rw [Array.length_toList]; rfl

set_option maxRecDepth 100000 in
set_option maxHeartbeats 1000000 in
theorem outText (B b : Nat) (l : List UInt8) (bad : Bool) (s : ByteArray) (w : World) (h : OutS B b l bad w) (hB : B ≤ w.heap.size) (hl : l.length + 262153 ≤ 140737488355328) (hs : s.size ≤ 9223372036854775807) :
    Calls Try.prog 35 #[.pointer (some ⟨b, 0, none⟩), .string s] w fun e w' => e = .returned (.tuple #[]) ∧ OutS B b (stepB (textB s) (l, bad)).1 (stepB (textB s) (l, bad)).2 w' ∧ Fr B b w w' := by
  obtain ⟨i0, hi, hz0, hz1, hz2⟩ := info_parts info5
  have hi := Lib.hid hi; have hz0 := Lib.hid hz0; have hz1 := Lib.hid hz1; have hz2 := Lib.hid hz2
  by_cases ht : s.size ≤ 262144
  · have ha : textB s = some (putV s.size ++ s.data.toList) := by unfold textB; rw [if_pos ht]
    have hnb : numB (s.size : Int) = some (putV s.size) := by unfold numB; rw [if_pos (by omega)]; rfl
    have hlen := putV_nine (n := s.size) (by omega)
    have hN := fun w => outNum B b l bad (s.size : Int) w
    rw [hnb] at hN
    have HN := Lib.hid hN
    have HA := Lib.hid ha
    have hlt : ((s.size : Int) ≤ 262144) := by omega
    have hH := Lib.hid h
    clear h ha hnb hN ht
    go_enter Try.func35, Try.ntmps35
    go_wp2_with (first
      | (go_at_call 32; refine (HN.out _ hH.out hB (by omega) (by omega)).mono ?_; rintro e w1 ⟨rfl, hb0, hb1⟩; obtain ⟨⟨v, h1, h2⟩, h3⟩ := hb0; obtain ⟨c0, c1, f0, f1⟩ := OutS.cells (B := B) (l := l) h1; have H1 := Lib.hid h1; have H2 := Lib.hid h2; have HB1 := Lib.hid hb1; clear h1 h2 hb1)
      | (at_builtin; go_loud (refine Lib.wpList_append_own_string _ rfl (.tmp 18) (.tmp 19) 71 9 rfl B 5 i0 Try.underlying71 Try.underlying9 hi.out hz0.out hz1.out hz2.out v (l ++ putV s.size).length (Lib.byteCells (l ++ putV s.size)) rfl H2.out s rfl (by unfold maxLen; simp only [List.length_append]; omega) (by simp only [List.length_append]; omega) (by have := HB1.out.1.size; omega) ?_); intro v' w2 hown' hgr _; obtain ⟨ua, uc, rfl⟩ := own_slice hown'; have HO := Lib.hid hown'; have HG := Lib.hid hgr; have c0 := hgr.cell c0 (OutS.own_ne H1.out H2.out); have f0 := (World.frozen?_of_block (hgr.block b (Array.getElem?_eq_some_iff.1 H1.out).1 (OutS.own_ne H1.out H2.out))).trans f0; clear hown' hgr c1 f1))
    go_end0
    have hx := HO.out
    rw [Lib.strCells_eq] at hx
    simp only [List.length_append] at hx
    obtain ⟨p1, p2⟩ := OutS.pushed H1.out H2.out h3 (by have := HB1.out.1.size; omega) hx (by simp only [stepB, List.length_append, ← str_size s]) HG.out
    rw [HA.out]
    refine ⟨rfl, ?_, HB1.out.trans p2⟩
    show OutS B b (l ++ (putV s.size ++ s.data.toList)) bad _
    rw [← List.append_assoc]
    exact p1
  · have ha : textB s = none := by unfold textB; rw [if_neg ht]
    have HM := Lib.hid h.marked
    have HA := Lib.hid ha
    obtain ⟨⟨v, h1, h2⟩, h3⟩ := h
    obtain ⟨c0, c1, f0, f1⟩ := OutS.cells (B := B) (l := l) h1
    have hlt : (262144 : Int) < (s.size : Int) := by omega
    clear h1 h2 ha ht
    go_enter Try.func35, Try.ntmps35
    go_wp2
    refine bodyPost_ret (results_none rfl _ _ _) rfl ?_
    rw [HA.out]
    exact ⟨rfl, HM.out⟩

/-- What 'ends' answers. -/
def EndsPost (l : List UInt8) (bad : Bool) (w : World) (e : Ending) (w' : World) : Prop :=
  e = .returned (if bad then .tuple #[.string ⟨#[]⟩, .int .i64 1] else .tuple #[.string ⟨l.toArray⟩, .int .i64 0]) ∧ w' = w

set_option maxRecDepth 100000 in
set_option maxHeartbeats 1000000 in
theorem outEnds (B b : Nat) (l : List UInt8) (bad : Bool) (w : World) (h : OutS B b l bad w) :
    Calls Try.prog 34 #[.pointer (some ⟨b, 0, none⟩)] w (EndsPost l bad w) := by
  obtain ⟨⟨v, h1, h2⟩, h3⟩ := h
  obtain ⟨c0, c1, f0, f1⟩ := OutS.cells (B := B) (l := l) h1
  have hconv := conv_owned h2
  clear h1
  cases bad with
  | true =>
    go_enter Try.func34, Try.ntmps34
    go_wp2
    go_ret2
    exact ⟨rfl, rfl⟩
  | false =>
    go_enter Try.func34, Try.ntmps34
    go_wp2
    go_ret2
    exact ⟨rfl, rfl⟩
end Go.Proofs.Ytibmaeckmnkmjaa
