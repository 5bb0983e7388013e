/- 'puts' of the program's package command. -/
import Derived.Test.YtibmaeckmnkmjaaB3
import Derived.Test.YtibmaeckmnkmjaaK3
import Derived.StillTailTactics
import Derived.Deep.RegionLaw
import Derived.RegionDies
namespace Go.Proofs.Ytibmaeckmnkmjaa
open Go.RowKit
attribute [local go_sem] ta_88_88 ta_83_88 ta_83_83 ta_103_88 ta_103_83 ta_103_103 ta_87_88 ta_87_83 ta_87_103 ta_87_87 ta_104_88 ta_104_83 ta_104_103 ta_104_87 ta_104_104 ta_92_88 ta_92_83 ta_92_103 ta_92_87 ta_92_104 ta_92_92

theorem HoldsPosts.form {B b : Nat} {w : World} {v : Value} {ps : List (ByteArray × ByteArray)} (h : HoldsPosts B b w v ps) : ∃ o cap, v = .slice o ps.length cap ∧
    (∀ i (hi : i < ps.length), ∃ pb po, o = some ⟨pb, po, none⟩ ∧ safe B b w pb ∧ w.cell? ⟨pb, po + i * 2, none⟩ = some (.string ps[i].1) ∧ w.cell? ⟨pb, po + i * 2 + 1, none⟩ = some (.string ps[i].2)) := h

/-- What is asked of the inner call, over two texts. -/
def PairCalls : Prop := ∀ (B b : Nat) (l0 : List UInt8) (t1 t2 : ByteArray) (a1 a2 : Addr) (fb : Nat) (w : World), PutFits B b [(.txt t1, a1), (.txt t2, a2)] fb 0 w → l0.length + 600000 ≤ 140737488355328 →
  Lib.IsBuilderF 96 5 B b (Lib.byteCells l0) w → Calls Try.prog 52 #[.pointer (some ⟨b, 0, none⟩), .slice (some ⟨fb, 0, none⟩) 2 2] w (PutsPost B b [(.txt t1, a1), (.txt t2, a2)] l0 w)

theorem alloc_fr (B b : Nat) (w : World) (o : Obj) (hB : B ≤ w.heap.size) : Fr B b w (w.alloc o) := Fr.of_below ((Below.refl _ _).alloc (Nat.le_refl _) o) hB
theorem drew_fr {B b : Nat} {w w' : World} (h : Fr B b w w') : Fr B b w w'.drew := ⟨h.1.drew, h.2.drew⟩

/-- A world with the two texts' addresses laid down. -/
def Laid2 (b1 o1 b2 o2 : Nat) (w w' : World) : Prop := w' = (w.alloc (.cells #[.iface 87 (.pointer (some ⟨b1, o1, none⟩)), .iface 87 (.pointer (some ⟨b2, o2, none⟩))] 20)).drew

theorem laid2_facts {B b b1 o1 b2 o2 : Nat} {bs : List Value} {w w' : World} (h : Laid2 b1 o1 b2 o2 w w') (hi : Lib.IsBuilderF 96 5 B b bs w) :
    Fr B b w w' ∧ Lib.IsBuilderF 96 5 B b bs w' ∧ w'.cell? ⟨w.heap.size, 0, none⟩ = some (.iface 87 (.pointer (some ⟨b1, o1, none⟩))) ∧ w'.cell? ⟨w.heap.size, 1, none⟩ = some (.iface 87 (.pointer (some ⟨b2, o2, none⟩))) ∧ safe B b w' w.heap.size := by
  have hb : Below w.heap.size w w' := by rw [h]; exact ((Below.refl _ _).alloc (Nat.le_refl _) _).drew
  have hg : w'.heap[w.heap.size]? = some (.cells #[.iface 87 (.pointer (some ⟨b1, o1, none⟩)), .iface 87 (.pointer (some ⟨b2, o2, none⟩))] 20) := by rw [h]; exact heap_alloc_new w _
  have := isb_ge hi
  refine ⟨Fr.of_below hb (isb_size hi), isB_base hi hb, ?_, ?_, Or.inr ⟨_, hg, by omega, ?_⟩⟩
  · simp [World.cell?, hg]
  · simp [World.cell?, hg]
  · intro c fz e; simp at e

theorem HPair_some {B b pb o1 o2 : Nat} {l0 : List UInt8} {p : ByteArray × ByteArray} {w : World} {a : List UInt8} (hP : PairCalls) (ha : pairB p = some a) (hsp : safe B b w pb)
    (d1 : w.cell? ⟨pb, o1, none⟩ = some (.string p.1)) (d2 : w.cell? ⟨pb, o2, none⟩ = some (.string p.2)) (hi : Lib.IsBuilderF 96 5 B b (Lib.byteCells l0) w) (hz : p.1.size ≤ 9223372036854775807 ∧ p.2.size ≤ 9223372036854775807) (hl : l0.length + 600000 ≤ 140737488355328)
    (w' : World) (hw : Laid2 pb o1 pb o2 w w') :
    Calls Try.prog 52 #[.pointer (some ⟨b, 0, none⟩), .slice (some ⟨w.heap.size, 0, none⟩) 2 2] w' fun e w2 => e = .returned (.tuple #[]) ∧ Lib.IsBuilderF 96 5 B b (Lib.byteCells (l0 ++ a)) w2 ∧ Fr B b w w2 := by
  obtain ⟨f1, f2, f3, f4, f5⟩ := laid2_facts hw hi
  refine (hP B b l0 p.1 p.2 ⟨pb, o1, none⟩ ⟨pb, o2, none⟩ w.heap.size w' ⟨?_, ?_, f5, ?_, ?_, ?_⟩ hl f2).mono ?_
  · intro i h
    match i, h with
    | 0, _ => exact f3
    | 1, _ => exact f4
  · intro x hx
    simp only [List.mem_cons, List.not_mem_nil, or_false] at hx
    rcases hx with rfl | rfl
    · exact (safe.cell (p := ⟨pb, _, none⟩) hsp f1).trans d1
    · exact (safe.cell (p := ⟨pb, _, none⟩) hsp f1).trans d2
  · intro x hx
    simp only [List.mem_cons, List.not_mem_nil, or_false] at hx
    rcases hx with rfl | rfl
    · exact hsp.fr f1
    · exact hsp.fr f1
  · intro x hx
    simp only [List.mem_cons, List.not_mem_nil, or_false] at hx
    rcases hx with rfl | rfl
    · exact hz.1
    · exact hz.2
  · intro x hx v ps e
    simp only [List.mem_cons, List.not_mem_nil, or_false] at hx
    rcases hx with rfl | rfl <;> simp at e
  · intro e w2 h
    unfold PutsPost at h
    rw [show ([(PF.txt p.1, (⟨pb, o1, none⟩ : Addr)), (PF.txt p.2, ⟨pb, o2, none⟩)].map (·.1)) = [.txt p.1, .txt p.2] from rfl, pair_put, ha] at h
    exact ⟨h.1, h.2.1, f1.trans h.2.2⟩

theorem HPair_none {B b pb o1 o2 : Nat} {l0 : List UInt8} {p : ByteArray × ByteArray} {w : World} (hP : PairCalls) (ha : pairB p = none) (hsp : safe B b w pb)
    (d1 : w.cell? ⟨pb, o1, none⟩ = some (.string p.1)) (d2 : w.cell? ⟨pb, o2, none⟩ = some (.string p.2)) (hi : Lib.IsBuilderF 96 5 B b (Lib.byteCells l0) w) (hz : p.1.size ≤ 9223372036854775807 ∧ p.2.size ≤ 9223372036854775807) (hl : l0.length + 600000 ≤ 140737488355328)
    (w' : World) (hw : Laid2 pb o1 pb o2 w w') :
    Calls Try.prog 52 #[.pointer (some ⟨b, 0, none⟩), .slice (some ⟨w.heap.size, 0, none⟩) 2 2] w' fun e w2 => e = .panicked badChain ∧ Fr B b w w2 := by
  obtain ⟨f1, f2, f3, f4, f5⟩ := laid2_facts hw hi
  refine (hP B b l0 p.1 p.2 ⟨pb, o1, none⟩ ⟨pb, o2, none⟩ w.heap.size w' ⟨?_, ?_, f5, ?_, ?_, ?_⟩ hl f2).mono ?_
  · intro i h
    match i, h with
    | 0, _ => exact f3
    | 1, _ => exact f4
  · intro x hx
    simp only [List.mem_cons, List.not_mem_nil, or_false] at hx
    rcases hx with rfl | rfl
    · exact (safe.cell (p := ⟨pb, _, none⟩) hsp f1).trans d1
    · exact (safe.cell (p := ⟨pb, _, none⟩) hsp f1).trans d2
  · intro x hx
    simp only [List.mem_cons, List.not_mem_nil, or_false] at hx
    rcases hx with rfl | rfl
    · exact hsp.fr f1
    · exact hsp.fr f1
  · intro x hx
    simp only [List.mem_cons, List.not_mem_nil, or_false] at hx
    rcases hx with rfl | rfl
    · exact hz.1
    · exact hz.2
  · intro x hx v ps e
    simp only [List.mem_cons, List.not_mem_nil, or_false] at hx
    rcases hx with rfl | rfl <;> simp at e
  · intro e w2 h
    unfold PutsPost at h
    rw [show ([(PF.txt p.1, (⟨pb, o1, none⟩ : Addr)), (PF.txt p.2, ⟨pb, o2, none⟩)].map (·.1)) = [.txt p.1, .txt p.2] from rfl, pair_put, ha] at h
    exact ⟨h.1, f1.trans h.2⟩

set_option maxRecDepth 100000 in
set_option maxHeartbeats 2000000 in
theorem puts_gen (β B b fb fo cap : Nat) (l0 : List UInt8) (fs : List (PF × Addr)) (w : World) (H : PutFits B b fs fb fo w) (hβ : 300000 ≤ β) (hP : (∃ x ∈ fs, x.1.isPosts) → 40000000 ≤ β ∧ PairCalls)
    (hlen : fs.length ≤ 1000) (hl : l0.length + fs.length * β ≤ 140737488355328) (hi : Lib.IsBuilderF 96 5 B b (Lib.byteCells l0) w) :
    Calls Try.prog 52 #[.pointer (some ⟨b, 0, none⟩), .slice (some ⟨fb, fo, none⟩) fs.length cap] w (PutsPost B b fs l0 w) := by
  have h0 : PutRel β B b fs l0 w 0 [] w := ⟨by simpa using hi, Fr.refl _ _ _, by simp, by simp⟩
  have h0 := Lib.hid h0
  have hl := Lib.hid hl
  have hP := Lib.hid hP
  have hβ := Lib.hid hβ
  clear hi
  go_enter Try.func52, Try.ntmps52
  go_wp2
  go_loopw [17] (fun i wr => ∃ (k : Nat) (l : List UInt8), k ≤ fs.length ∧ i = .int .i64 k ∧ Hid (PutRel β B b fs l0 w k l wr)) (fun i _ => fs.length - (intOf i).toNat)
  case atStart => exact ⟨0, [], by omega, rfl, h0⟩
  case round =>
    clear h0
    obtain ⟨k, l, hk, rfl, HR⟩ := hrel
    by_cases hlt : k < fs.length
    · have G := H.fr HR.out.fr
      have c0 := G.row k hlt
      have hm : fs[k] ∈ fs := List.getElem_mem hlt
      have c1 := G.cell _ hm
      have hsz := G.size _ hm
      have hsf := G.safeC _ hm
      have hps := G.posts _ hm
      have hPk : fs[k].1.isPosts → 40000000 ≤ β ∧ PairCalls := fun hh => hP.out ⟨_, hm, hh⟩
      have HN := fun (a : List UInt8) (w2 : World) => put_next (a := a) (w2 := w2) HR.out hlt
      have HF := fun (w2 : World) => put_fail (w2 := w2) HR.out hlt
      have hL : Hid (l0.length + l.length + β ≤ 140737488355328) := by
        have h1 := hl.out
        have h2 := HR.out.len
        have h3 : (k + 1) * β ≤ fs.length * β := Nat.mul_le_mul_right _ hlt
        rw [Nat.add_mul] at h3
        exact Lib.hid (by omega)
      clear hm G
      generalize hx : fs[k] = x at *
      obtain ⟨kd, ad⟩ := x
      simp only at c0 c1 hsz hsf hps hPk HN HF
      have HN := Lib.hid HN
      have HF := Lib.hid HF
      clear hx H
      cases kd with
      | num n =>
        simp only [PF.ty, PF.val, PF.sized] at c0 c1 hsz
        cases ho : numB n with
        | none =>
          have HE := Lib.hid ho; clear ho
          go_wp2_with (first | (go_at_call 55; refine (number_none B b n _ (isb_size HR.out.isb) hsz HE.out).mono ?_; rintro e w2 ⟨rfl, hb2⟩))
          exact ⟨rfl, HF.out _ HE.out hb2⟩
        | some a =>
          have HE := Lib.hid ho; clear ho
          go_wp2_with (first | (go_at_call 55; refine (number_some B b _ a n _ HR.out.isb (isb_size HR.out.isb) (by have := hL.out; simp only [List.length_append]; omega) HE.out).mono ?_; rintro e w2 ⟨rfl, hb2, hf2⟩))
          exact ⟨⟨k + 1, l ++ a, by omega, by go_num, Lib.hid (HN.out _ _ HE.out (by have := numB_len HE.out; have := hβ.out; omega) hb2 hf2)⟩, by simp [intOf]; omega⟩
      | err n =>
        simp only [PF.ty, PF.val, PF.sized] at c0 c1 hsz
        cases ho : numB n with
        | none =>
          have HE := Lib.hid ho; clear ho
          go_wp2_with (first | (go_at_call 55; refine (number_none B b n _ (isb_size HR.out.isb) hsz HE.out).mono ?_; rintro e w2 ⟨rfl, hb2⟩))
          exact ⟨rfl, HF.out _ HE.out hb2⟩
        | some a =>
          have HE := Lib.hid ho; clear ho
          go_wp2_with (first | (go_at_call 55; refine (number_some B b _ a n _ HR.out.isb (isb_size HR.out.isb) (by have := hL.out; simp only [List.length_append]; omega) HE.out).mono ?_; rintro e w2 ⟨rfl, hb2, hf2⟩))
          exact ⟨⟨k + 1, l ++ a, by omega, by go_num, Lib.hid (HN.out _ _ HE.out (by have := numB_len HE.out; have := hβ.out; omega) hb2 hf2)⟩, by simp [intOf]; omega⟩
      | tru t =>
        simp only [PF.ty, PF.val, PF.sized] at c0 c1 hsz
        cases t with
        | true =>
          have HE : Hid (numB 1 = some (putV 1)) := Lib.hid (by unfold numB; rfl)
          go_wp2_with (first | (go_at_call 55; refine (number_some B b _ _ 1 _ HR.out.isb (isb_size HR.out.isb) (by have := hL.out; have := hβ.out; simp only [List.length_append]; omega) HE.out).mono ?_; rintro e w2 ⟨rfl, hb2, hf2⟩))
          exact ⟨⟨k + 1, _, by omega, by go_num, Lib.hid (HN.out _ _ HE.out (by have := numB_len HE.out; have := hβ.out; omega) hb2 hf2)⟩, by simp [intOf]; omega⟩
        | false =>
          have HE : Hid (numB 0 = some (putV 0)) := Lib.hid (by unfold numB; rfl)
          go_wp2_with (first | (go_at_call 55; refine (number_some B b _ _ 0 _ HR.out.isb (isb_size HR.out.isb) (by have := hL.out; have := hβ.out; simp only [List.length_append]; omega) HE.out).mono ?_; rintro e w2 ⟨rfl, hb2, hf2⟩))
          exact ⟨⟨k + 1, _, by omega, by go_num, Lib.hid (HN.out _ _ HE.out (by have := numB_len HE.out; have := hβ.out; omega) hb2 hf2)⟩, by simp [intOf]; omega⟩
      | txt t =>
        simp only [PF.ty, PF.val, PF.sized] at c0 c1 hsz
        by_cases ht : t.size ≤ 262144
        · have HE : Hid (numB (t.size : Int) = some (putV t.size)) := Lib.hid (by unfold numB; rw [if_pos (by omega)]; rfl)
          have HE2 : Hid ((PF.txt t).put = some (putV t.size ++ t.data.toList)) := Lib.hid (by simp only [PF.put, textB, if_pos ht])
          have hd : decide ((t.size : Int) ≤ 262144) = true := by simp; omega
          go_wp2_with (first
            | (go_at_call 39; refine (right_true _).mono ?_; rintro e w' ⟨rfl, rfl⟩)
            | (go_at_call 55; refine (number_some B b _ _ _ _ HR.out.isb (isb_size HR.out.isb) (by have := hL.out; have := hβ.out; simp only [List.length_append]; omega) HE.out).mono ?_; rintro e w2 ⟨rfl, hb2, hf2⟩; have c2 := (safe.cell hsf hf2).trans c1)
            | (go_at_call 45; refine (write_string B b _ _ _ hb2 (by have := hL.out; have := hβ.out; have := numB_len HE.out; simp only [Lib.byteCells_length, List.length_append]; omega) (isb_size hb2)).mono ?_; rintro e w3 ⟨rfl, hb3, hf3, hf4⟩))
          refine ⟨⟨k + 1, _, by omega, by go_num, Lib.hid (HN.out _ _ HE2.out (by have := textB_len (t := t) (by simpa [PF.put] using HE2.out); have := hβ.out; omega) ?_ (hf2.trans ⟨hf3, hf4⟩))⟩, by simp [intOf]; omega⟩
          have h4 : Lib.IsBuilderF 96 5 B b (Lib.byteCells (l0 ++ l ++ putV t.size) ++ Lib.strCells t) w3 := Or.inr hb3
          rw [Lib.strCells_eq, ← Lib.byteCells_append, List.append_assoc] at h4
          exact h4
        · have HE2 : Hid ((PF.txt t).put = none) := Lib.hid (by simp only [PF.put, textB, if_neg ht])
          have hd : decide ((t.size : Int) ≤ 262144) = false := by simp; omega
          go_wp2_with (first
            | (go_at_call 39; refine (right_false _).mono ?_; rintro e w' ⟨rfl, rfl⟩))
          exact ⟨rfl, HF.out _ HE2.out (Fr.refl _ _ _)⟩
      | posts v ps =>
        obtain ⟨hβ4, hPair⟩ := hPk trivial
        obtain ⟨o, pcap, rfl, hrow⟩ := (hps v ps rfl).form
        simp only [PF.ty, PF.val, PF.sized] at c0 c1 hsz
        obtain ⟨hszl, hsze⟩ := hsz
        have hPair := Lib.hid hPair
        have hrow := Lib.hid hrow
        have hsze := Lib.hid hsze
        clear hPk hps
        by_cases h64 : ps.length ≤ 64
        · have HE : Hid (numB (ps.length : Int) = some (putV ps.length)) := Lib.hid (by unfold numB; rw [if_pos (by omega)]; rfl)
          have hd : decide ((ps.length : Int) ≤ 64) = true := by simp; omega
          go_wp2_with (first
            | (go_at_call 39; refine (right_true _).mono ?_; rintro e w' ⟨rfl, rfl⟩)
            | (go_at_call 55; refine (number_some B b _ _ _ _ HR.out.isb (isb_size HR.out.isb) (by have := hL.out; have := hβ.out; simp only [List.length_append]; omega) HE.out).mono ?_; rintro e w2 ⟨rfl, hb2, hf2⟩; have c2 := (safe.cell hsf hf2).trans c1))
          have R0 := Lib.hid (PostRel.first h64 hb2 hf2)
          obtain ⟨wo, rfl⟩ : ∃ wo : World, wo = wr := ⟨_, rfl⟩
          go_loopw [126] (fun j wi => ∃ (m : Nat) (l2 : List UInt8), m ≤ ps.length ∧ j = .int .i64 m ∧ Hid (PostRel B b ps (l0 ++ l) wo m l2 wi)) (fun j _ => ps.length - (intOf j).toNat)
          case atStart => exact ⟨0, _, by omega, rfl, R0⟩
          case round =>
            clear R0
            obtain ⟨m, l2, hm, rfl, HQ⟩ := hrel
            by_cases hmn : m < ps.length
            · obtain ⟨pb, po, ho, hsp, q1, q2⟩ := hrow.out m hmn
              have d1 := (safe.cell (p := ⟨pb, _, none⟩) hsp HQ.out.fr).trans q1
              have d2 := (safe.cell (p := ⟨pb, _, none⟩) hsp HQ.out.fr).trans q2
              have d0 := (safe.cell hsf HQ.out.fr).trans c1
              subst ho
              cases hpb : pairB ps[m] with
              | some a =>
                have HE := Lib.hid hpb; clear hpb
                have HX := Lib.hid (fun w' => HPair_some hPair.out HE.out (hsp.fr HQ.out.fr) d1 d2 HQ.out.isb (hsze.out _ (List.getElem_mem hmn)) (by have := hL.out; have := HQ.out.len; simp only [List.length_append]; omega) w')
                go_wp2
                go_region_law (go_simp; go_at_call 52; go_loud (refine (HX.out _ rfl).mono ?_); rintro e w3 ⟨rfl, hb3, hf3⟩)
                all_goals go_wp2
                all_goals exact ⟨⟨m + 1, _, by omega, by go_num, Lib.hid (HQ.out.next hmn HE.out hb3 hf3)⟩, by simp [intOf]; omega⟩
              | none =>
                have HE := Lib.hid hpb; clear hpb
                have HX := Lib.hid (fun w' => HPair_none hPair.out HE.out (hsp.fr HQ.out.fr) d1 d2 HQ.out.isb (hsze.out _ (List.getElem_mem hmn)) (by have := hL.out; have := HQ.out.len; simp only [List.length_append]; omega) w')
                go_wp2
                have HE2 := Lib.hid (HQ.out.none (v := .slice (some ⟨pb, po, none⟩) ps.length pcap) h64 hmn HE.out)
                have hfr := Lib.hid HQ.out.fr
                go_region_dies
                all_goals (refine (HX.out _ rfl).mono ?_; rintro e w3 ⟨rfl, hb3⟩)
                all_goals exact ⟨rfl, HF.out _ HE2.out (hfr.out.trans hb3)⟩
            · have hme : m = ps.length := by omega
              have HE3 := Lib.hid (HQ.out.all (v := .slice o ps.length pcap) h64 (by omega))
              have hgoal := Lib.hid (HN.out l2 _ HE3.out (by have := HQ.out.len; omega) HQ.out.isb HQ.out.fr)
              go_wp2
              exact ⟨⟨k + 1, _, by omega, by go_num, hgoal⟩, by simp [intOf]; omega⟩
        · have HE2 : Hid ((PF.posts (.slice o ps.length pcap) ps).put = none) := Lib.hid (by simp only [PF.put, if_neg h64])
          have hd : decide ((ps.length : Int) ≤ 64) = false := by simp; omega
          go_wp2_with (first
            | (go_at_call 39; refine (right_false _).mono ?_; rintro e w' ⟨rfl, rfl⟩))
          exact ⟨rfl, HF.out _ HE2.out (Fr.refl _ _ _)⟩
    · have hk' : k = fs.length := by omega
      subst hk'
      have HE := Lib.hid (put_done HR.out (Nat.le_refl _))
      clear hlt hk
      go_wp2
      go_end0
      exact HE.out

theorem puts_pair : PairCalls := fun B b l0 t1 t2 a1 a2 fb w H hl hi =>
  puts_gen 300000 B b fb 0 2 l0 [(.txt t1, a1), (.txt t2, a2)] w H (Nat.le_refl _) (by rintro ⟨x, hx, hp⟩; simp only [List.mem_cons, List.not_mem_nil, or_false] at hx; rcases hx with rfl | rfl <;> exact hp.elim) (by simp) (by simpa using hl) hi

theorem puts_any (B b fb fo cap : Nat) (l0 : List UInt8) (fs : List (PF × Addr)) (w : World) (H : PutFits B b fs fb fo w)
    (hlen : fs.length ≤ 1000) (hl : l0.length + fs.length * 40000000 ≤ 140737488355328) (hi : Lib.IsBuilderF 96 5 B b (Lib.byteCells l0) w) :
    Calls Try.prog 52 #[.pointer (some ⟨b, 0, none⟩), .slice (some ⟨fb, fo, none⟩) fs.length cap] w (PutsPost B b fs l0 w) :=
  puts_gen 40000000 B b fb fo cap l0 fs w H (by decide) (fun _ => ⟨Nat.le_refl _, puts_pair⟩) hlen hl hi
end Go.Proofs.Ytibmaeckmnkmjaa
