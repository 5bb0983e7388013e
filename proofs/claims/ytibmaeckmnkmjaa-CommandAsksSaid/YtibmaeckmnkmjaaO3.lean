/- The reference's 'op' and 'PutAsk'. -/
import Derived.Test.YtibmaeckmnkmjaaO1
import Derived.Test.YtibmaeckmnkmjaaB6
import Derived.Test.YtibmaeckmnkmjaaL2
namespace Go.Proofs.Ytibmaeckmnkmjaa
open Go.RowKit

theorem cell_of {w : World} {b i : Nat} {cs : Array Value} {t : TypeId} {fz : Nat × Nat} {v : Value} (h : w.heap[b]? = some (.cells cs t fz)) (hv : cs[i]? = some v) : w.cell? ⟨b, i, none⟩ = some v := by
  simp [World.cell?, h, hv]

def foldB (zs : List (Option (List UInt8))) (x : List UInt8 × Bool) : List UInt8 × Bool := zs.foldl (fun x a => stepB a x) x

theorem foldB_put : ∀ (fs : List PF) (l : List UInt8), match putAll fs with
    | some a => foldB (fs.map PF.put) (l, false) = (l ++ a, false)
    | none => (foldB (fs.map PF.put) (l, false)).2 = true := by
  have hbad : ∀ (zs : List (Option (List UInt8))) (l : List UInt8), (foldB zs (l, true)).2 = true := by
    intro zs
    induction zs with
    | nil => intro l; rfl
    | cons a zs ih => intro l; cases a <;> exact ih _
  intro fs
  induction fs with
  | nil => intro l; simp [putAll, allB, foldB]
  | cons f fs ih =>
    intro l
    unfold putAll
    cases hf : f.put with
    | none =>
      rw [allB_none hf]
      show (foldB (f.put :: fs.map PF.put) (l, false)).2 = true
      rw [hf]
      exact hbad _ _
    | some a =>
      rw [allB_some hf]
      have h := ih (l ++ a)
      unfold putAll at h
      cases hr : allB PF.put fs with
      | none =>
        rw [hr] at h
        show (foldB (f.put :: fs.map PF.put) (l, false)).2 = true
        rw [hf]; exact h
      | some r =>
        rw [hr] at h
        show foldB (f.put :: fs.map PF.put) (l, false) = (l ++ (a ++ r), false)
        rw [hf, ← List.append_assoc]; exact h

/-- A writer on its way: what it holds, how long that is at the most, what has stood. -/
structure OutC (B b c : Nat) (x : List UInt8 × Bool) (w0 w : World) : Prop where
  out : OutS B b x.1 x.2 w
  len : x.1.length ≤ c
  fr : Fr B b w0 w
  le : B ≤ w.heap.size

theorem OutC.step {B b c : Nat} {x : List UInt8 × Bool} {w0 w w' : World} {a : Option (List UInt8)} (h : OutC B b c x w0 w) (ha : ∀ l, a = some l → l.length ≤ 262153) (ho : OutS B b (stepB a x).1 (stepB a x).2 w') (hf : Fr B b w w') :
    OutC B b (c + 262153) (stepB a x) w0 w' := by
  refine ⟨ho, ?_, h.fr.trans hf, Nat.le_trans h.le hf.1.size⟩
  have := h.len
  cases a with
  | none => simp only [stepB]; omega
  | some l => have := ha l rfl; simp only [stepB, List.length_append]; omega

theorem OutC.box {B b c k : Nat} {x : List UInt8 × Bool} {w0 w : World} {cs : Array Value} {t : TypeId} (h : OutC B b c x w0 w) (hk : w0.heap[k]? = some (.cells cs t)) (hne : k ≠ b) (ht : t ≠ 5) : w.heap[k]? = some (.cells cs t) :=
  h.fr.2 k _ hk (by simpa using hne) (by intro c fz e; simp only [Obj.cells.injEq] at e; exact ht e.2.1)

theorem OutC.num {B b c : Nat} {x : List UInt8 × Bool} {w0 w : World} (h : OutC B b c x w0 w) (n : Int) (hc : c + 262153 ≤ 140737488355328) (hn : n ≤ 9223372036854775807) :
    Calls Try.prog 32 #[.pointer (some ⟨b, 0, none⟩), .int .i64 n] w fun e w' => e = .returned (.tuple #[]) ∧ OutC B b (c + 262153) (stepB (numB n) x) w0 w' := by
  refine (outNum B b x.1 x.2 n w h.out h.le (by have := h.len; omega) hn).mono ?_
  rintro e w' ⟨rfl, ho, hf⟩
  exact ⟨rfl, h.step (fun l hl => by have := numB_len hl; omega) ho hf⟩

theorem OutC.text {B b c : Nat} {x : List UInt8 × Bool} {w0 w : World} (h : OutC B b c x w0 w) (s : ByteArray) (hc : c + 262153 ≤ 140737488355328) (hs : s.size ≤ 9223372036854775807) :
    Calls Try.prog 35 #[.pointer (some ⟨b, 0, none⟩), .string s] w fun e w' => e = .returned (.tuple #[]) ∧ OutC B b (c + 262153) (stepB (textB s) x) w0 w' := by
  refine (outText B b x.1 x.2 s w h.out h.le (by have := h.len; omega) hs).mono ?_
  rintro e w' ⟨rfl, ho, hf⟩
  exact ⟨rfl, h.step (fun l hl => textB_len hl) ho hf⟩

theorem OutC.more {B b c : Nat} {x : List UInt8 × Bool} {w0 w w' : World} (h : OutC B b c x w0 w) (hb : Below w.heap.size w w') : OutC B b c x w0 w' :=
  ⟨h.out.below hb, h.len, h.fr.trans (Fr.of_below hb h.le), Nat.le_trans h.le hb.size⟩

def AskV.opB (x : AskV) : List (Option (List UInt8)) := [numB x.k, textB x.a, textB x.b, textB x.c, textB x.d, textB x.e, textB x.f, numB x.m, numB x.n]

theorem op_fold (x : AskV) (y : List UInt8 × Bool) : foldB x.opB y = stepB (numB x.n) (stepB (numB x.m) (stepB (textB x.f) (stepB (textB x.e) (stepB (textB x.d) (stepB (textB x.c) (stepB (textB x.b) (stepB (textB x.a) (stepB (numB x.k) y)))))))) := by
  simp only [foldB, AskV.opB, List.foldl_cons, List.foldl_nil]
theorem outOp_end {B b c : Nat} {y : List UInt8 × Bool} {w0 w1 w : World} (h : OutC B b (c + 262153 + 262153 + 262153 + 262153 + 262153 + 262153 + 262153 + 262153 + 262153) y w1 w) (hf : Fr B b w0 w1) : OutC B b (c + 3000000) y w0 w :=
  ⟨h.out, Nat.le_trans h.len (by omega), hf.trans h.fr, h.le⟩

set_option maxRecDepth 100000 in
set_option maxHeartbeats 4000000 in
theorem outOp {B b c : Nat} {y : List UInt8 × Bool} {w0 w : World} (h : OutC B b c y w0 w) (x : AskV) (hc : c + 3000000 ≤ 140737488355328) (hx : x.sized) :
    Calls Try.prog 33 #[.pointer (some ⟨b, 0, none⟩), .agg x.opv] w fun e w' => e = .returned (.tuple #[]) ∧ OutC B b (c + 3000000) (foldB x.opB y) w0 w' := by
  have C0 := Lib.hid (show OutC B b c y (w.alloc (.cells x.opv 25)) (w.alloc (.cells x.opv 25)) from ⟨h.out.below ((Below.refl _ _).alloc (Nat.le_refl _) _), h.len, Fr.refl _ _ _, by have := h.le; simp; omega⟩)
  have HF := Lib.hid (h.fr.trans (Fr.of_below (b := b) ((Below.refl _ _).alloc (Nat.le_refl _) (.cells x.opv 25)) h.le))
  have HX := Lib.hid (heap_alloc_new w (.cells x.opv 25))
  have hne : Hid (w.heap.size ≠ b) := Lib.hid (by obtain ⟨⟨v, h1, _⟩, _⟩ := h.out; have := (Array.getElem?_eq_some_iff.1 h1).1; omega)
  have HS := Lib.hid hx
  clear h hx
  unfold AskV.opv at C0 HF HX ⊢
  rw [op_fold]
  have q0 := cell_of (i := 0) (C0.out.box HX.out hne.out (by decide)) rfl
  go_enter Try.func33, Try.ntmps33
  go_wp2_with fail
  refine (OutC.num C0.out x.k (by omega) HS.out.k).mono ?_
  rintro o w1 ⟨rfl, hq⟩
  have C1 := Lib.hid hq
  clear hq C0 q0
  have q1 := cell_of (i := 1) (C1.out.box HX.out hne.out (by decide)) rfl
  go_wp2_with fail
  refine (OutC.text C1.out x.a (by omega) HS.out.a).mono ?_
  rintro o w2 ⟨rfl, hq⟩
  have C2 := Lib.hid hq
  clear hq C1 q1
  have q2 := cell_of (i := 2) (C2.out.box HX.out hne.out (by decide)) rfl
  go_wp2_with fail
  refine (OutC.text C2.out x.b (by omega) HS.out.b).mono ?_
  rintro o w3 ⟨rfl, hq⟩
  have C3 := Lib.hid hq
  clear hq C2 q2
  have q3 := cell_of (i := 3) (C3.out.box HX.out hne.out (by decide)) rfl
  go_wp2_with fail
  refine (OutC.text C3.out x.c (by omega) HS.out.c).mono ?_
  rintro o w4 ⟨rfl, hq⟩
  have C4 := Lib.hid hq
  clear hq C3 q3
  have q4 := cell_of (i := 4) (C4.out.box HX.out hne.out (by decide)) rfl
  go_wp2_with fail
  refine (OutC.text C4.out x.d (by omega) HS.out.d).mono ?_
  rintro o w5 ⟨rfl, hq⟩
  have C5 := Lib.hid hq
  clear hq C4 q4
  have q5 := cell_of (i := 5) (C5.out.box HX.out hne.out (by decide)) rfl
  go_wp2_with fail
  refine (OutC.text C5.out x.e (by omega) HS.out.e).mono ?_
  rintro o w6 ⟨rfl, hq⟩
  have C6 := Lib.hid hq
  clear hq C5 q5
  have q6 := cell_of (i := 6) (C6.out.box HX.out hne.out (by decide)) rfl
  go_wp2_with fail
  refine (OutC.text C6.out x.f (by omega) HS.out.f).mono ?_
  rintro o w7 ⟨rfl, hq⟩
  have C7 := Lib.hid hq
  clear hq C6 q6
  have q7 := cell_of (i := 7) (C7.out.box HX.out hne.out (by decide)) rfl
  go_wp2_with fail
  refine (OutC.num C7.out x.m (by omega) HS.out.m).mono ?_
  rintro o w8 ⟨rfl, hq⟩
  have C8 := Lib.hid hq
  clear hq C7 q7
  have q8 := cell_of (i := 8) (C8.out.box HX.out hne.out (by decide)) rfl
  go_wp2_with fail
  refine (OutC.num C8.out x.n (by omega) HS.out.n).mono ?_
  rintro o w9 ⟨rfl, hq⟩
  have C9 := Lib.hid hq
  clear hq C8 q8
  go_wp2_with fail
  go_end0
  exact ⟨rfl, outOp_end C9.out HF.out⟩

theorem foldB_app (zs bs : List (Option (List UInt8))) (x : List UInt8 × Bool) : foldB (zs ++ bs) x = foldB bs (foldB zs x) := List.foldl_append

theorem ask_fold (x : AskV) : x.pfs.map PF.put = [numB x.s, numB x.q] ++ x.opB := rfl

/-- A writer in a world where it was just made. -/
theorem out_new (w : World) (c : UInt8) : OutC w.heap.size (w.heap.size + 1) 1 ([c], false) ((w.alloc (.cells #[.int .u8 c.toNat] 5)).alloc (.cells #[.slice (some ⟨w.heap.size, 0, none⟩) 1 1, .bool false] 73))
    ((w.alloc (.cells #[.int .u8 c.toNat] 5)).alloc (.cells #[.slice (some ⟨w.heap.size, 0, none⟩) 1 1, .bool false] 73)) := by
  have e1 : ((w.alloc (.cells #[.int .u8 c.toNat] 5)).alloc (.cells #[.slice (some ⟨w.heap.size, 0, none⟩) 1 1, .bool false] 73)).heap[w.heap.size]? = some (.cells #[.int .u8 c.toNat] 5) := heap_last2 w _ _ _ rfl
  have e2 : ((w.alloc (.cells #[.int .u8 c.toNat] 5)).alloc (.cells #[.slice (some ⟨w.heap.size, 0, none⟩) 1 1, .bool false] 73)).heap[w.heap.size + 1]? = some (.cells #[.slice (some ⟨w.heap.size, 0, none⟩) 1 1, .bool false] 73) := heap_last _ _ _ (by simp)
  exact ⟨⟨⟨_, e2, own_of_block e1 (Nat.le_refl _) rfl (by decide)⟩, by omega⟩, by simp, Fr.refl _ _ _, by simp; omega⟩

set_option maxRecDepth 100000 in
set_option maxHeartbeats 4000000 in
theorem refPutAsk (x : AskV) (w : World) (hx : x.sized) : Calls Try.prog 15 #[.agg x.idv, .agg x.opv] w (PutAskPost x w) := by
  have hA : ((w.alloc (.cells x.idv 23)).alloc (.cells x.opv 25)).heap[w.heap.size]? = some (.cells x.idv 23) := heap_last2 w _ _ _ rfl
  have hB : ((w.alloc (.cells x.idv 23)).alloc (.cells x.opv 25)).heap[w.heap.size + 1]? = some (.cells x.opv 25) := heap_last _ _ _ (by simp)
  have hC : Below w.heap.size w ((w.alloc (.cells x.idv 23)).alloc (.cells x.opv 25)) := ((Below.refl _ _).alloc (Nat.le_refl _) _).alloc (by simp) _
  have hD : ((w.alloc (.cells x.idv 23)).alloc (.cells x.opv 25)).heap.size = w.heap.size + 2 := by simp
  have C0 := out_new ((w.alloc (.cells x.idv 23)).alloc (.cells x.opv 25)) 81
  have hE : ∀ k o, ((w.alloc (.cells x.idv 23)).alloc (.cells x.opv 25)).heap[k]? = some o → ((((w.alloc (.cells x.idv 23)).alloc (.cells x.opv 25)).alloc (.cells #[.int .u8 (81 : UInt8).toNat] 5)).alloc (.cells #[.slice (some ⟨((w.alloc (.cells x.idv 23)).alloc (.cells x.opv 25)).heap.size, 0, none⟩) 1 1, .bool false] 73)).heap[k]? = some o := fun k o hk => by
    have := (Array.getElem?_eq_some_iff.1 hk).1
    rw [Below.heap_alloc _ _ _ (by simp only [World.size_alloc]; simp only [World.size_alloc] at this; omega), Below.heap_alloc _ _ _ this]; exact hk
  rw [hD] at C0 hE
  have HI := Lib.hid (hE _ _ hA); have HO := Lib.hid (hE _ _ hB)
  have HL : Hid (Below w.heap.size w ((((w.alloc (.cells x.idv 23)).alloc (.cells x.opv 25)).alloc (.cells #[.int .u8 (81 : UInt8).toNat] 5)).alloc (.cells #[.slice (some ⟨w.heap.size + 2, 0, none⟩) 1 1, .bool false] 73))) :=
    Lib.hid ((hC.alloc (by simp; omega) _).alloc (by simp; omega) _)
  have HS := Lib.hid hx
  have C0 := Lib.hid C0
  clear hA hB hC hE hx hD
  have hfold := foldB_put x.pfs [81]
  rw [ask_fold, foldB_app] at hfold
  have HP := Lib.hid hfold
  clear hfold
  unfold AskV.idv AskV.opv at C0 HI HO HL ⊢
  have q0 := cell_of (i := 0) (C0.out.box HI.out (by omega) (by decide)) rfl
  go_enter Try.func15, Try.ntmps15
  go_wp2_with fail
  refine (OutC.num C0.out x.s (by omega) HS.out.s).mono ?_
  rintro o w1 ⟨rfl, hq⟩
  have C1 := Lib.hid hq
  clear hq C0 q0
  have q1 := cell_of (i := 1) (C1.out.box HI.out (by omega) (by decide)) rfl
  go_wp2_with fail
  refine (OutC.num C1.out x.q (by omega) HS.out.q).mono ?_
  rintro o w2 ⟨rfl, hq⟩
  have C2 := Lib.hid hq
  clear hq C1 q1
  go_wp2_with (first | ((with_reducible refine wpList_sel 19 ?_); refine wpList_load_row rfl 25 (.tmp 3) rfl (w.heap.size + 1) rfl 25 #[.int .i64 x.k, .string x.a, .string x.b, .string x.c, .string x.d, .string x.e, .string x.f, .int .i64 x.m, .int .i64 x.n] (0, 0) _ (C2.out.box HO.out (by omega) (by decide)) Try.underlying25 rfl info25 ?_))
  refine (outOp C2.out x (by omega) HS.out).mono ?_
  rintro o w3 ⟨rfl, hq⟩
  have C3 := Lib.hid hq
  clear hq C2
  go_wp2_with fail
  refine (outEnds _ _ _ _ _ C3.out.out).mono ?_
  rintro o w4 ⟨rfl, rfl⟩
  have HB := Lib.hid (HL.out.trans (C3.out.fr.1.mono (by omega)))
  have hz : foldB x.opB (stepB (numB x.q) (stepB (numB x.s) ([81], false))) = foldB x.opB (foldB [numB x.s, numB x.q] ([81], false)) := by simp only [foldB, List.foldl_cons, List.foldl_nil]
  rw [hz]
  have hP := HP.out
  generalize foldB x.opB (foldB [numB x.s, numB x.q] ([81], false)) = y at *
  clear hz HP C3 HI HO HL
  cases hp : putAll x.pfs with
  | none =>
    rw [hp] at hP
    simp only at hP
    rw [hP]
    have HQ := Lib.hid hp
    clear hP hp
    go_wp2_with fail
    go_ret2
    unfold PutAskPost
    rw [HQ.out]
    exact ⟨rfl, HB.out⟩
  | some l =>
    rw [hp] at hP
    simp only at hP
    rw [hP]
    have HQ := Lib.hid hp
    clear hP hp
    go_wp2_with fail
    go_ret2
    unfold PutAskPost
    rw [HQ.out]
    exact ⟨rfl, HB.out⟩
end Go.Proofs.Ytibmaeckmnkmjaa
