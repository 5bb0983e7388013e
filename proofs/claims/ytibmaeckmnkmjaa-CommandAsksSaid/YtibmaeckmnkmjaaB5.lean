/- 'tried' and 'put' of the program's package command. -/
import Derived.Test.YtibmaeckmnkmjaaB4
import Derived.Test.YtibmaeckmnkmjaaK8
namespace Go.Proofs.Ytibmaeckmnkmjaa
open Go.RowKit

theorem isB_setCell {B b : Nat} {bs : List Value} {w : World} {k : Nat} {o : Obj} (h : Lib.IsBuilderF 96 5 B b bs w) (hk : w.heap[k]? = some o) (hb : k ≠ b) (hn : ∀ c fz, o ≠ .cells c 5 fz) (p : Nat) (v : Value) :
    Lib.IsBuilderF 96 5 B b bs (w.setCell ⟨k, p, none⟩ v) := by
  have key : ∀ q, Lib.BuilderAtF 96 5 B b q bs w → Lib.BuilderAtF 96 5 B b q bs (w.setCell ⟨k, p, none⟩ v) := by
    rintro q ⟨hB, u, hbk, hown, hne⟩
    refine ⟨hB, u, (Below.heap_setCell _ _ _ _ (fun e => hb e.symm)).trans hbk, ?_, hne⟩
    refine hown.kept (row := some k) ⟨rfl, rfl, rfl, by simp [World.setCell], fun i _ hi => Below.heap_setCell _ _ _ _ (fun e => hi (by simp [e]))⟩ ?_
    refine Or.inr (fun e => ?_)
    have h2 := Lib.ownsRowF_kind hown k e
    obtain ⟨c, fz, h3⟩ := h2
    rw [hk] at h3
    exact hn c fz (Option.some.inj h3)
  exact h.imp (key _) (key _)

theorem puts_post_none {B b : Nat} {fs : List (PF × Addr)} {l0 : List UInt8} {w w' : World} {e : Ending} (h : putAll (fs.map (·.1)) = none) (hp : PutsPost B b fs l0 w e w') : e = .panicked badChain ∧ Fr B b w w' := by
  unfold PutsPost at hp
  rw [h] at hp
  exact hp

theorem puts_post_some {B b : Nat} {fs : List (PF × Addr)} {l0 l : List UInt8} {w w' : World} {e : Ending} (h : putAll (fs.map (·.1)) = some l) (hp : PutsPost B b fs l0 w e w') :
    e = .returned (.tuple #[]) ∧ Lib.IsBuilderF 96 5 B b (Lib.byteCells (l0 ++ l)) w' ∧ Fr B b w w' := by
  unfold PutsPost at hp
  rw [h] at hp
  exact hp

def TriedPost (B b : Nat) (fs : List (PF × Addr)) (l0 : List UInt8) (w : World) (e : Ending) (w' : World) : Prop :=
  match putAll (fs.map (·.1)) with
  | some l => e = .returned (.int .i64 0) ∧ Lib.IsBuilderF 96 5 B b (Lib.byteCells (l0 ++ l)) w' ∧ Below B w w'
  | none => e = .returned (.int .i64 1) ∧ Below B w w'

set_option maxRecDepth 100000 in
set_option maxHeartbeats 2000000 in
theorem tried_any (B b fb fo cap : Nat) (l0 : List UInt8) (fs : List (PF × Addr)) (w : World) (H : PutFits B b fs fb fo w)
    (hlen : fs.length ≤ 1000) (hl : l0.length + fs.length * 40000000 ≤ 140737488355328) (hi : Lib.IsBuilderF 96 5 B b (Lib.byteCells l0) w) :
    Calls Try.prog 46 #[.pointer (some ⟨b, 0, none⟩), .slice (some ⟨fb, fo, none⟩) fs.length cap] w (TriedPost B b fs l0 w) := by
  have hge := isb_ge hi
  have f1 := alloc_fr B b w (.cells #[.int .i64 0] 26) (isb_size hi)
  have HT := puts_any B b fb fo cap l0 fs _ (H.fr f1) hlen hl (isB_base hi ((Below.refl _ _).alloc (Nat.le_refl _) (.cells #[.int .i64 0] 26)))
  have hsafe : safe B b (w.alloc (.cells #[.int .i64 0] 26)) w.heap.size := Or.inr ⟨_, heap_alloc_new w _, by omega, by intro c fz e; simp at e⟩
  have HT := Lib.hid HT
  have hbox : Hid (∀ w', Fr B b (w.alloc (.cells #[.int .i64 0] 26)) w' → w'.heap[w.heap.size]? = some (.cells #[.int .i64 0] 26) ∧ w'.cell? ⟨w.heap.size, 0, none⟩ = some (.int .i64 0) ∧ w'.frozen? ⟨w.heap.size, 0, none⟩ = false) := Lib.hid (fun w' hf => by
    have e := (hsafe.heap hf).trans (heap_alloc_new w _)
    exact ⟨e, by simp [World.cell?, e], by simp [World.frozen?, e]⟩)
  clear H hi
  cases ht : putAll (fs.map (·.1)) with
  | none =>
    have HE := Lib.hid ht; clear ht
    go_enter_defers Try.func46, Try.ntmps46
    go_wp2_with (go_at_call 52; refine HT.out.mono ?_; intro e w' hp; obtain ⟨rfl, hfr⟩ := puts_post_none HE.out hp; obtain ⟨hh, hc, hz⟩ := hbox.out _ hfr)
    refine leaves_cons (f := 38) (args := #[.pointer (some ⟨w.heap.size, 0, none⟩), .int .i64 1]) (by simp) (by simp [go_sem]) ?_
    refine (done_bad w.heap.size 0 1 (.int .i64 0) _ hc hz).mono ?_
    rintro e u' w'' ⟨rfl, hu, rfl⟩
    simp only [hu]
    have hsz := World.block_lt_of_cell? _ _ hc
    refine ⟨.int .i64 1, ?_, ?_⟩
    · have q3 : (w'.setCell ⟨w.heap.size, 0, none⟩ (.int .i64 1)).cell? ⟨w.heap.size, 0, none⟩ = some (.int .i64 1) := World.cell?_setCell_same _ _ _ hc
      simp only at hsz
      simp [results, Try.results46, go_sem, q3, hsz]
    unfold TriedPost
    rw [HE.out]
    refine ⟨rfl, (((f1.trans hfr).1.setCell (p := ⟨w.heap.size, 0, none⟩) (by have := hge; simp only; omega) _).alloc ?_ _)⟩
    have := hge; simp only [World.size_setCell]; simp only at hsz; omega
  | some l =>
    have HE := Lib.hid ht; clear ht
    go_enter_defers Try.func46, Try.ntmps46
    go_wp2_with (go_at_call 52; refine HT.out.mono ?_; intro e w' hp; obtain ⟨rfl, hisb, hfr⟩ := puts_post_some HE.out hp; obtain ⟨hh, hc, hz⟩ := hbox.out _ hfr)
    refine leaves_cons (f := 38) (args := #[.pointer (some ⟨w.heap.size, 0, none⟩), .int .i64 1]) (by simp) (by simp [go_sem]) ?_
    refine (done_idle ⟨w.heap.size, 0, none⟩ 1 _).mono ?_
    rintro e u' w'' ⟨rfl, rfl, rfl⟩
    refine ⟨.int .i64 0, ?_, ?_⟩
    · have q3 : (w'.setCell ⟨w.heap.size, 0, none⟩ (.int .i64 0)).cell? ⟨w.heap.size, 0, none⟩ = some (.int .i64 0) := World.cell?_setCell_same _ _ _ hc
      simp [results, Try.results46, go_sem, q3]
    unfold TriedPost
    rw [HE.out]
    refine ⟨rfl, isB_setCell hisb hh (by omega) (by intro c fz e; simp at e) _ _, (f1.trans hfr).1.setCell (p := ⟨w.heap.size, 0, none⟩) (by have := hge; simp only; omega) _⟩

theorem tried_post_none {B b : Nat} {fs : List (PF × Addr)} {l0 : List UInt8} {w w' : World} {e : Ending} (h : putAll (fs.map (·.1)) = none) (hp : TriedPost B b fs l0 w e w') : e = .returned (.int .i64 1) ∧ Below B w w' := by
  unfold TriedPost at hp
  rw [h] at hp
  exact hp

theorem tried_post_some {B b : Nat} {fs : List (PF × Addr)} {l0 l : List UInt8} {w w' : World} {e : Ending} (h : putAll (fs.map (·.1)) = some l) (hp : TriedPost B b fs l0 w e w') :
    e = .returned (.int .i64 0) ∧ Lib.IsBuilderF 96 5 B b (Lib.byteCells (l0 ++ l)) w' ∧ Below B w w' := by
  unfold TriedPost at hp
  rw [h] at hp
  exact hp

/-- What is asked of fields that are put: all lie in the world as it is. -/
structure PutFits0 (fs : List (PF × Addr)) (fb fo : Nat) (w : World) : Prop where
  row : ∀ i (h : i < fs.length), w.cell? ⟨fb, fo + i, none⟩ = some (.iface (fs[i].1.ty) (.pointer (some fs[i].2)))
  lt : fb < w.heap.size
  cell : ∀ x ∈ fs, w.cell? x.2 = some x.1.val
  size : ∀ x ∈ fs, x.1.sized
  posts : ∀ x ∈ fs, ∀ v ps, x.1 = .posts v ps → ∀ b, HoldsPosts w.heap.size b w v ps

theorem PutFits0.fits {fs : List (PF × Addr)} {fb fo b : Nat} {w w' : World} (h : PutFits0 fs fb fo w) (hb : Below w.heap.size w w') : PutFits w.heap.size b fs fb fo w' where
  row i hi := (hb.cell h.lt).trans (h.row i hi)
  cell x hx := (hb.cell (World.block_lt_of_cell? _ _ (h.cell x hx))).trans (h.cell x hx)
  safeF := Or.inl h.lt
  safeC x hx := Or.inl (World.block_lt_of_cell? _ _ (h.cell x hx))
  size := h.size
  posts x hx v ps e := by
    obtain ⟨o, cap, rfl, hc⟩ := h.posts x hx v ps e b
    refine ⟨o, cap, rfl, fun i hi => ?_⟩
    obtain ⟨pb, po, ho, hs, c1, c2⟩ := hc i hi
    have hl : pb < w.heap.size := World.block_lt_of_cell? _ _ c1
    exact ⟨pb, po, ho, Or.inl hl, (hb.cell (p := ⟨pb, _, none⟩) hl).trans c1, (hb.cell (p := ⟨pb, _, none⟩) hl).trans c2⟩

def PutPost (m : ByteArray) (fs : List (PF × Addr)) (w : World) (e : Ending) (w' : World) : Prop :=
  match putAll (fs.map (·.1)) with
  | some l => e = .returned (.tuple #[.string ⟨(m.data.toList ++ l).toArray⟩, .int .i64 0]) ∧ Below w.heap.size w w'
  | none => e = .returned (.tuple #[.string ⟨#[]⟩, .int .i64 1]) ∧ Below w.heap.size w w'

set_option maxRecDepth 100000 in
set_option maxHeartbeats 2000000 in
theorem put_any (m : ByteArray) (fb fo cap : Nat) (fs : List (PF × Addr)) (w : World) (H : PutFits0 fs fb fo w) (hm : m.size ≤ 1000) (hlen : fs.length ≤ 1000) :
    Calls Try.prog 31 #[.string m, .slice (some ⟨fb, fo, none⟩) fs.length cap] w (PutPost m fs w) := by
  have h0 : Lib.IsBuilderF 96 5 w.heap.size w.heap.size [] (w.alloc (.cells #[.pointer none, .slice none 0 0] 96)) := Lib.IsBuilderF.of (Lib.fresh_isBuilder 96 5 w)
  have hb0 : Below w.heap.size w (w.alloc (.cells #[.pointer none, .slice none 0 0] 96)) := (Below.refl _ _).alloc (Nat.le_refl _) _
  have HT := fun (w' : World) (hb : Below w.heap.size w w') (hi : Lib.IsBuilderF 96 5 w.heap.size w.heap.size (Lib.byteCells m.data.toList) w') =>
    tried_any w.heap.size w.heap.size fb fo cap m.data.toList fs w' (H.fits hb) hlen (by have e : m.data.toList.length = m.size := by rw [Array.length_toList]; rfl
                                                                                         omega) hi
  have HT := Lib.hid HT
  clear H
  cases ht : putAll (fs.map (·.1)) with
  | none =>
    have HE := Lib.hid ht; clear ht
    go_enter Try.func31, Try.ntmps31
    go_wp2_with (first
      | (go_at_call 45; refine (write_string w.heap.size w.heap.size [] m _ h0 (by simp; omega) (by simp)).mono ?_; rintro e w1 ⟨rfl, hb1, hb2, hb3⟩)
      | (go_at_call 46; refine (HT.out w1 (hb0.trans hb2) (Or.inr hb1)).mono ?_; intro e w2 hp; obtain ⟨rfl, hb4⟩ := tried_post_none HE.out hp))
    go_ret2
    unfold PutPost
    rw [HE.out]
    exact ⟨rfl, hb0.trans (hb2.trans hb4)⟩
  | some l =>
    have HE := Lib.hid ht; clear ht
    go_enter Try.func31, Try.ntmps31
    go_wp2_with (first
      | (go_at_call 45; refine (write_string w.heap.size w.heap.size [] m _ h0 (by simp; omega) (by simp)).mono ?_; rintro e w1 ⟨rfl, hb1, hb2, hb3⟩)
      | (go_at_call 46; refine (HT.out w1 (hb0.trans hb2) (Or.inr hb1)).mono ?_; intro e w2 hp; obtain ⟨rfl, hi2, hb4⟩ := tried_post_some HE.out hp)
      | (go_at_call 47; refine (builder_string _ _ _ _ hi2 (isb_size hi2)).mono ?_; rintro e w3 ⟨rfl, _, hb5, _⟩))
    go_ret2
    unfold PutPost
    rw [HE.out]
    exact ⟨rfl, hb0.trans (hb2.trans (hb4.trans hb5))⟩
end Go.Proofs.Ytibmaeckmnkmjaa
