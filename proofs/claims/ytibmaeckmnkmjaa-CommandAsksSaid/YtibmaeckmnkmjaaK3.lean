/- 'takes' of the program's package command, over fields of four kinds: numbers, errors' numbers, truths, texts. -/
import Derived.Test.YtibmaeckmnkmjaaK2
import Derived.Test.YtibmaeckmnkmjaaH0
import Derived.Test.YtibmaeckmnkmjaaS1
import Derived.KernelRfl
namespace Go.Proofs.Ytibmaeckmnkmjaa
open Go.RowKit

def FK.ty : FK → Nat
  | .num => 88
  | .err => 83
  | .tru => 103
  | .txt => 87

def TakesPost (sa : Addr) (fs : List (FK × Addr)) (S : ByteArray) (w : World) (e : Ending) (w' : World) : Prop :=
  match takeAll (fs.map (·.1)) S with
  | some (vs, r) => e = .returned (.tuple #[]) ∧ ∃ nd, w' = (puts (w.setCell sa (.string r)) ((fs.map (·.2)).zip vs)).drewN nd
  | none => e = .panicked badChain ∧ ∃ (l : List (Addr × Value)) (nd : Nat), (∀ x ∈ l, x.1 = sa ∨ ∃ y ∈ fs, x.1 = y.2) ∧ w' = (puts w l).drewN nd

/-- Behind k fields: what stands where, and what is to come. -/
structure Took (sa : Addr) (fs : List (FK × Addr)) (S : ByteArray) (w : World) (k : Nat) (r : ByteArray) (wr : World) : Prop where
  size : r.size ≤ S.size
  more : ∃ (vs : List Value) (nd : Nat), vs.length = k ∧ wr = (puts (w.setCell sa (.string r)) (((fs.map (·.2)).take k).zip vs)).drewN nd ∧
    takeAll (fs.map (·.1)) S = (takeAll ((fs.drop k).map (·.1)) r).map fun x => (vs ++ x.1, x.2)

/-- What is asked of the fields, once and for all. -/
structure Fits (sa : Addr) (fs : List (FK × Addr)) (S : ByteArray) (fb fo : Nat) (w : World) : Prop where
  c : w.cell? sa = some (.string S)
  f : w.frozen? sa = false
  row : ∀ i (h : i < fs.length), w.cell? ⟨fb, fo + i, none⟩ = some (.iface (fs[i].1.ty) (.pointer (some fs[i].2)))
  cell : ∀ x ∈ fs, ∃ v, w.cell? x.2 = some v
  fz : ∀ x ∈ fs, w.frozen? x.2 = false
  apart : sa.block ≠ fb
  ne : ∀ x ∈ fs, x.2 ≠ sa ∧ x.2.block ≠ fb

theorem mem_zip_take {fs : List (FK × Addr)} {k : Nat} {vs : List Value} {x : Addr × Value} (h : x ∈ ((fs.map (·.2)).take k).zip vs) : ∃ y ∈ fs, x.1 = y.2 := by
  have h1 := (List.of_mem_zip h).1
  have h2 := List.mem_of_mem_take h1
  obtain ⟨y, hy, e⟩ := List.mem_map.1 h2
  exact ⟨y, hy, e.symm⟩

theorem puts_cell_some (l : List (Addr × Value)) : ∀ (w : World) (a : Addr), (∃ v, w.cell? a = some v) → ∃ v, (puts w l).cell? a = some v := by
  induction l with
  | nil => intro w a h; exact h
  | cons x l ih =>
    intro w a ⟨v, h⟩
    exact ih _ a (cell?_setCell_some h)

theorem took_facts {sa : Addr} {fs : List (FK × Addr)} {S r : ByteArray} {fb fo k : Nat} {w wr : World} (H : Fits sa fs S fb fo w) (T : Took sa fs S w k r wr) (hk : k < fs.length) :
    wr.cell? ⟨fb, fo + k, none⟩ = some (.iface (fs[k].1.ty) (.pointer (some fs[k].2))) ∧ wr.cell? sa = some (.string r) ∧ wr.frozen? sa = false ∧
    (∃ v, wr.cell? fs[k].2 = some v) ∧ wr.frozen? fs[k].2 = false ∧ fs[k].2 ≠ sa ∧ sa ≠ fs[k].2 := by
  obtain ⟨vs, nd, hl, rfl, _⟩ := T.more
  have hm : fs[k] ∈ fs := List.getElem_mem hk
  have hn := H.ne _ hm
  refine ⟨?_, ?_, ?_, ?_, ?_, hn.1, fun e => hn.1 e.symm⟩
  · rw [World.cell?_drewN, puts_cell_out _ _ _ (fun x hx => ?_), World.cell?_setCell_other _ _ _ _ (fun e => H.apart (by rw [e]))]
    · exact H.row k hk
    · obtain ⟨y, hy, e⟩ := mem_zip_take hx
      exact fun e' => (H.ne y hy).2 (by rw [← e, e'])
  · rw [World.cell?_drewN, puts_cell_out _ _ _ (fun x hx => ?_), World.cell?_setCell_same _ _ _ H.c]
    obtain ⟨y, hy, e⟩ := mem_zip_take hx
    exact fun e' => (H.ne y hy).1 (by rw [← e, e'])
  · rw [World.frozen?_drewN, puts_frozen]; simpa using H.f
  · exact puts_cell_some _ _ _ (cell?_setCell_some (H.cell _ hm).choose_spec)
  · rw [World.frozen?_drewN, puts_frozen]; simpa using H.fz _ hm

theorem took_next {sa : Addr} {fs : List (FK × Addr)} {S r r' : ByteArray} {fb fo k : Nat} {w wr : World} {v : Value} (H : Fits sa fs S fb fo w) (T : Took sa fs S w k r wr) (hk : k < fs.length)
    (ho : takeOne fs[k].1 r = some (v, r')) (m : Nat) : Took sa fs S w (k + 1) r' (((wr.setCell sa (.string r')).setCell fs[k].2 v).drewN m) := by
  obtain ⟨vs, nd, hl, rfl, hm⟩ := T.more
  refine ⟨Nat.le_trans (Nat.le_of_lt (takeOne_size ho)) T.size, vs ++ [v], nd + m, by simp [hl], ?_, ?_⟩
  · show ((((puts (w.setCell sa (.string r)) (((fs.map (·.2)).take k).zip vs)).setCell sa (.string r')).setCell fs[k].2 v).drewN nd).drewN m = _
    rw [World.drewN_drewN, puts_setCell _ _ _ _ (fun x hx => ?_), setCell_again, ← puts_snoc]
    · congr 2
      rw [List.take_succ_eq_append_getElem (by simpa using hk), List.zip_append (by simp; omega)]
      simp
    · obtain ⟨y, hy, e⟩ := mem_zip_take hx
      exact fun e' => (H.ne y hy).1 (by rw [← e, e'])
  · rw [hm, List.drop_eq_getElem_cons hk, List.map_cons, takeAll_cons_some ho]
    cases takeAll ((fs.drop (k + 1)).map (·.1)) r' <;> simp

theorem took_fail {sa : Addr} {fs : List (FK × Addr)} {S r : ByteArray} {k : Nat} {w wr : World} (T : Took sa fs S w k r wr) (hk : k < fs.length)
    (ho : takeOne fs[k].1 r = none) : TakesPost sa fs S w (.panicked badChain) wr := by
  obtain ⟨vs, nd, hl, rfl, hm⟩ := T.more
  have e : takeAll (fs.map (·.1)) S = none := by
    rw [hm, List.drop_eq_getElem_cons hk, List.map_cons, takeAll_cons_none ho]; rfl
  unfold TakesPost
  rw [e]
  refine ⟨rfl, (sa, .string r) :: ((fs.map (·.2)).take k).zip vs, nd, fun x hx => ?_, rfl⟩
  rcases List.mem_cons.1 hx with rfl | hx
  · exact Or.inl rfl
  · exact Or.inr (mem_zip_take hx)

theorem took_fail' {sa : Addr} {fs : List (FK × Addr)} {S r : ByteArray} {k : Nat} {w wr : World} (r1 : ByteArray) (T : Took sa fs S w k r wr) (hk : k < fs.length)
    (ho : takeOne fs[k].1 r = none) : TakesPost sa fs S w (.panicked badChain) (wr.setCell sa (.string r1)) := by
  obtain ⟨vs, nd, hl, rfl, hm⟩ := T.more
  have e : takeAll (fs.map (·.1)) S = none := by
    rw [hm, List.drop_eq_getElem_cons hk, List.map_cons, takeAll_cons_none ho]; rfl
  unfold TakesPost
  rw [e]
  refine ⟨rfl, ((sa, .string r) :: ((fs.map (·.2)).take k).zip vs) ++ [(sa, .string r1)], nd, fun x hx => ?_, by rw [puts_snoc]; rfl⟩
  rcases List.mem_append.1 hx with hx | hx
  · rcases List.mem_cons.1 hx with rfl | hx
    · exact Or.inl rfl
    · exact Or.inr (mem_zip_take hx)
  · simp at hx; subst hx; exact Or.inl rfl

theorem took_end {sa : Addr} {fs : List (FK × Addr)} {S r : ByteArray} {k : Nat} {w wr : World} (T : Took sa fs S w k r wr) (hk : fs.length ≤ k) :
    TakesPost sa fs S w (.returned (.tuple #[])) wr := by
  obtain ⟨vs, nd, hl, rfl, hm⟩ := T.more
  have e : takeAll (fs.map (·.1)) S = some (vs, r) := by
    rw [hm, List.drop_eq_nil_of_le hk]; simp [takeAll]
  unfold TakesPost
  rw [e]
  refine ⟨rfl, nd, ?_⟩
  rw [List.take_of_length_le (by simpa using hk)]

/-- The stores of a text, in either order. -/
theorem text_stores (wr : World) (sa ad : Addr) (r1 r2 : ByteArray) (v : Value) (h : sa ≠ ad) :
    ((wr.setCell sa (.string r1)).setCell ad v).setCell sa (.string r2) = (wr.setCell sa (.string r2)).setCell ad v := by
  rw [setCell_comm _ _ _ _ _ h, setCell_again, setCell_comm _ _ _ _ _ h.symm]

theorem ta_88_88 (v : Value) (w : World) : (Instr.typeAssert (.iface 88 v) 20 88 true).run Try.prog w = .ok (.tuple #[v, .bool true]) w := by kernel_rfl
theorem ta_83_88 (v : Value) (w : World) : (Instr.typeAssert (.iface 83 v) 20 88 true).run Try.prog w = .ok (.tuple #[.pointer none, .bool false]) w := by kernel_rfl
theorem ta_83_83 (v : Value) (w : World) : (Instr.typeAssert (.iface 83 v) 20 83 true).run Try.prog w = .ok (.tuple #[v, .bool true]) w := by kernel_rfl
theorem ta_103_88 (v : Value) (w : World) : (Instr.typeAssert (.iface 103 v) 20 88 true).run Try.prog w = .ok (.tuple #[.pointer none, .bool false]) w := by kernel_rfl
theorem ta_103_83 (v : Value) (w : World) : (Instr.typeAssert (.iface 103 v) 20 83 true).run Try.prog w = .ok (.tuple #[.pointer none, .bool false]) w := by kernel_rfl
theorem ta_103_103 (v : Value) (w : World) : (Instr.typeAssert (.iface 103 v) 20 103 true).run Try.prog w = .ok (.tuple #[v, .bool true]) w := by kernel_rfl
theorem ta_87_88 (v : Value) (w : World) : (Instr.typeAssert (.iface 87 v) 20 88 true).run Try.prog w = .ok (.tuple #[.pointer none, .bool false]) w := by kernel_rfl
theorem ta_87_83 (v : Value) (w : World) : (Instr.typeAssert (.iface 87 v) 20 83 true).run Try.prog w = .ok (.tuple #[.pointer none, .bool false]) w := by kernel_rfl
theorem ta_87_103 (v : Value) (w : World) : (Instr.typeAssert (.iface 87 v) 20 103 true).run Try.prog w = .ok (.tuple #[.pointer none, .bool false]) w := by kernel_rfl
theorem ta_87_87 (v : Value) (w : World) : (Instr.typeAssert (.iface 87 v) 20 87 true).run Try.prog w = .ok (.tuple #[v, .bool true]) w := by kernel_rfl
theorem ta_104_88 (v : Value) (w : World) : (Instr.typeAssert (.iface 104 v) 20 88 true).run Try.prog w = .ok (.tuple #[.pointer none, .bool false]) w := by kernel_rfl
theorem ta_104_83 (v : Value) (w : World) : (Instr.typeAssert (.iface 104 v) 20 83 true).run Try.prog w = .ok (.tuple #[.pointer none, .bool false]) w := by kernel_rfl
theorem ta_104_103 (v : Value) (w : World) : (Instr.typeAssert (.iface 104 v) 20 103 true).run Try.prog w = .ok (.tuple #[.pointer none, .bool false]) w := by kernel_rfl
theorem ta_104_87 (v : Value) (w : World) : (Instr.typeAssert (.iface 104 v) 20 87 true).run Try.prog w = .ok (.tuple #[.pointer none, .bool false]) w := by kernel_rfl
theorem ta_104_104 (v : Value) (w : World) : (Instr.typeAssert (.iface 104 v) 20 104 true).run Try.prog w = .ok (.tuple #[v, .bool true]) w := by kernel_rfl
theorem ta_92_88 (v : Value) (w : World) : (Instr.typeAssert (.iface 92 v) 20 88 true).run Try.prog w = .ok (.tuple #[.pointer none, .bool false]) w := by kernel_rfl
theorem ta_92_83 (v : Value) (w : World) : (Instr.typeAssert (.iface 92 v) 20 83 true).run Try.prog w = .ok (.tuple #[.pointer none, .bool false]) w := by kernel_rfl
theorem ta_92_103 (v : Value) (w : World) : (Instr.typeAssert (.iface 92 v) 20 103 true).run Try.prog w = .ok (.tuple #[.pointer none, .bool false]) w := by kernel_rfl
theorem ta_92_87 (v : Value) (w : World) : (Instr.typeAssert (.iface 92 v) 20 87 true).run Try.prog w = .ok (.tuple #[.pointer none, .bool false]) w := by kernel_rfl
theorem ta_92_104 (v : Value) (w : World) : (Instr.typeAssert (.iface 92 v) 20 104 true).run Try.prog w = .ok (.tuple #[.pointer none, .bool false]) w := by kernel_rfl
theorem ta_92_92 (v : Value) (w : World) : (Instr.typeAssert (.iface 92 v) 20 92 true).run Try.prog w = .ok (.tuple #[v, .bool true]) w := by kernel_rfl
attribute [local go_sem] ta_88_88 ta_83_88 ta_83_83 ta_103_88 ta_103_83 ta_103_103 ta_87_88 ta_87_83 ta_87_103 ta_87_87 ta_104_88 ta_104_83 ta_104_103 ta_104_87 ta_104_104 ta_92_88 ta_92_83 ta_92_103 ta_92_87 ta_92_104 ta_92_92

set_option maxRecDepth 100000 in
set_option maxHeartbeats 2000000 in
theorem takes_flat (sa : Addr) (S : ByteArray) (fb fo cap : Nat) (fs : List (FK × Addr)) (w : World)
    (hS : S.size ≤ maxLen) (hlen : fs.length ≤ 1000000) (H : Fits sa fs S fb fo w) :
    Calls Try.prog 41 #[.pointer (some sa), .slice (some ⟨fb, fo, none⟩) fs.length cap] w (TakesPost sa fs S w) := by
  have h0 : Took sa fs S w 0 S w := ⟨Nat.le_refl _, [], 0, rfl, by simp [puts, setCell_held w sa _ H.c, World.drewN], by simp⟩
  have hS' : S.size ≤ 9223372036854775807 := hS
  go_enter Try.func41, Try.ntmps41
  go_wp2
  go_loopw [17] (fun i wr => ∃ (k : Nat) (r : ByteArray), k ≤ fs.length ∧ i = .int .i64 k ∧ Hid (Took sa fs S w k r wr)) (fun i _ => fs.length - (intOf i).toNat)
  case atStart => exact ⟨0, S, by omega, rfl, h0⟩
  case round =>
    clear h0
    obtain ⟨k, r, hk, rfl, HT⟩ := hrel
    by_cases hlt : k < fs.length
    · obtain ⟨c0, c1, f1, ⟨v0, c2⟩, f2, n1, n2⟩ := took_facts H HT.out hlt
      have hr : r.size ≤ maxLen := by have := HT.out.size; unfold maxLen at hS ⊢; omega
      have HN := fun (v : Value) (r' : ByteArray) => took_next (v := v) (r' := r') H HT.out hlt
      have HF := took_fail HT.out hlt
      have HF' := fun r1 => took_fail' r1 HT.out hlt
      generalize hx : fs[k] = x at *
      obtain ⟨kd, ad⟩ := x
      simp only at c0 c1 f1 c2 f2 n1 n2 HN HF HF'
      have HN := Lib.hid HN
      have HF := Lib.hid HF
      have HF' := Lib.hid HF'
      clear hx H
      cases kd with
      | num =>
        simp only [FK.ty] at c0
        cases ho : takeNum r 1099511627776 with
        | none =>
          have HE := Lib.hid ho; clear ho
          go_wp2_with (first | (go_at_call 50; refine (taken_none sa r _ _ hr (by assumption) HE.out).mono ?_; rintro e w' ⟨rfl, rfl⟩))
          exact ⟨rfl, HF.out (by simp only [takeOne, HE.out]; rfl)⟩
        | some y =>
          obtain ⟨n, r'⟩ := y
          have HE := Lib.hid ho; clear ho
          go_wp2_with (first | (go_at_call 50; refine (taken_some sa r r' n _ _ hr (by assumption) (by assumption) HE.out).mono ?_; rintro e w' ⟨rfl, rfl⟩))
          exact ⟨⟨k + 1, r', by omega, by go_num, HN.out _ _ (by simp only [takeOne, HE.out]; rfl) 0⟩, by simp [intOf]; omega⟩
      | err =>
        simp only [FK.ty] at c0
        cases ho : takeNum r 1099511627776 with
        | none =>
          have HE := Lib.hid ho; clear ho
          go_wp2_with (first | (go_at_call 50; refine (taken_none sa r _ _ hr (by assumption) HE.out).mono ?_; rintro e w' ⟨rfl, rfl⟩))
          exact ⟨rfl, HF.out (by simp only [takeOne, HE.out]; rfl)⟩
        | some y =>
          obtain ⟨n, r'⟩ := y
          have HE := Lib.hid ho; clear ho
          go_wp2_with (first | (go_at_call 50; refine (taken_some sa r r' n _ _ hr (by assumption) (by assumption) HE.out).mono ?_; rintro e w' ⟨rfl, rfl⟩))
          exact ⟨⟨k + 1, r', by omega, by go_num, HN.out _ _ (by simp only [takeOne, HE.out]; rfl) 0⟩, by simp [intOf]; omega⟩
      | tru =>
        simp only [FK.ty] at c0
        cases ho : takeNum r 1 with
        | none =>
          have HE := Lib.hid ho; clear ho
          go_wp2_with (first | (go_at_call 50; refine (taken_none sa r _ _ hr (by assumption) HE.out).mono ?_; rintro e w' ⟨rfl, rfl⟩))
          exact ⟨rfl, HF.out (by simp only [takeOne, HE.out]; rfl)⟩
        | some y =>
          obtain ⟨n, r'⟩ := y
          have HE := Lib.hid ho; clear ho
          go_wp2_with (first | (go_at_call 50; refine (taken_some sa r r' n _ _ hr (by assumption) (by assumption) HE.out).mono ?_; rintro e w' ⟨rfl, rfl⟩))
          exact ⟨⟨k + 1, r', by omega, by go_num, HN.out _ _ (by simp only [takeOne, HE.out]; rfl) 0⟩, by simp [intOf]; omega⟩
      | txt =>
        simp only [FK.ty] at c0
        cases ho : takeText r with
        | none =>
          rcases takeText_none ho with hn | ⟨n, r1, hn, hgt⟩
          · have HE := Lib.hid hn; have HO := Lib.hid ho; clear hn ho
            go_wp2_with (first | (go_at_call 50; refine (taken_none sa r _ _ hr (by assumption) HE.out).mono ?_; rintro e w' ⟨rfl, rfl⟩))
            exact ⟨rfl, HF.out (by simp only [takeOne, HO.out]; rfl)⟩
          · have HE := Lib.hid hn; have HO := Lib.hid ho; clear hn ho
            have hd : decide (n ≤ r1.size) = false := by simp; omega
            go_wp2_with (first | (go_at_call 50; refine (taken_some sa r r1 n _ _ hr (by assumption) (by assumption) HE.out).mono ?_; rintro e w' ⟨rfl, rfl⟩) | (go_at_call 39; refine (right_false _).mono ?_; rintro e w' ⟨rfl, rfl⟩))
            exact ⟨rfl, HF'.out r1 (by simp only [takeOne, HO.out]; rfl)⟩
        | some y =>
          obtain ⟨tx, r2⟩ := y
          obtain ⟨n, r1, hn, hle, rfl, rfl⟩ := takeText_some ho
          have HE := Lib.hid hn; have HO := Lib.hid ho; clear hn ho
          have hd : decide (n ≤ r1.size) = true := by simpa using hle
          have hr1 := takeNum_size HE.out
          go_wp2_with (first | (go_at_call 50; refine (taken_some sa r r1 n _ _ hr (by assumption) (by assumption) HE.out).mono ?_; rintro e w' ⟨rfl, rfl⟩) | (go_at_call 39; refine (right_true _).mono ?_; rintro e w' ⟨rfl, rfl⟩))
          go_region
          all_goals go_wp2
          rw [text_stores _ _ _ _ _ _ n2]
          exact ⟨⟨k + 1, _, by omega, by go_num, HN.out _ _ (by simp only [takeOne, HO.out]; rfl) 1⟩, by simp [intOf]; omega⟩
    · go_wp2
      go_end0
      exact took_end HT.out (by omega)
end Go.Proofs.Ytibmaeckmnkmjaa
