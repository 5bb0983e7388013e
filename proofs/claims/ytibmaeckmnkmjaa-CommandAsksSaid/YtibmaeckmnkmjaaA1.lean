/- Arguments opened: an id, an op, a reply. -/
import Derived.Test.YtibmaeckmnkmjaaL5
import Derived.Lib.SmallJoins
import Derived.Deep.Slices
import Derived.Deep.Fields
import Derived.ChangeSame
import Derived.ProofKit
import Derived.OpenShut
namespace Go.Proofs.Ytibmaeckmnkmjaa
open Go.Joins Go.ChangeShapes Go.WideShapes Go.RowKit Go.Deep

section
variable {H : Type} {enc : TypeId × Value → H} {P : Program} {w : World} {base : Nat} {spare : Nat → Bool} {held : Bool}
theorem open_slice_fields {t e : TypeId} {fs : Array Field} {fuel : Nat} {cs : List Value} {x : DataW H × List MemPlace} (ht : P.underlying t = some (.slice e)) (he : P.underlying e = some (.struct fs))
    (hone : oneCellFields P fs = true) (hC : P.cellsOf e = fs.size) (h : DataW.trod enc P w base spare held fuel t cs = some x) :
    cs = [.slice none 0 0] ∨
    ∃ (a : Addr) (len cap m : Nat), cs = [.slice (some a) len cap] ∧ len ≤ cap ∧ cap ≤ maxLen ∧ m = (if spare a.block then cap else len) ∧
      ∀ i, i < m → ∃ (n : Nat), ∀ (j : Nat) (f : Field), fs[j]? = some f → ∃ (v : Value) (y : DataW H × List MemPlace), w.cell? (a.add (i * fs.size + j)) = some v ∧ DataW.trod enc P w base spare held n f.type [v] = some y := by
  rcases open_slice ht h with h0 | ⟨a, len, cap, m, n, D, Pl, hcs, hb, hl, hm, hmm, hx, hi⟩
  · exact .inl h0.1
  · refine .inr ⟨a, len, cap, m, hcs, hl, hm, hmm, fun i him => ?_⟩
    obtain ⟨cs', hc, ht'⟩ := hi i him
    rw [hC] at hc
    obtain ⟨ys, n', hn', hy, hlen, hyl, hf⟩ := DataW.trod_struct he ht'
    obtain ⟨_, hcl, hat⟩ := World.cells?_some hc
    refine ⟨n', fun j f hj => ?_⟩
    obtain ⟨ho, hk⟩ := hone_of hone j f hj
    have hjl : j < fs.size := (Array.getElem?_eq_some_iff.1 hj).1
    have hcell := hat j hjl
    have hv : cs'[j]? = some (cs'[j]'(by omega)) := List.getElem?_eq_getElem (by omega)
    have h1 := hf j f hj
    rw [ho, hk] at h1
    have hone' : (cs'.drop j).take 1 = [cs'[j]'(by omega)] := by
      rw [List.drop_eq_getElem_cons (by omega)]
      rfl
    rw [hone'] at h1
    have hys : ys[j]? = some (ys[j]'(by omega)) := List.getElem?_eq_getElem (by omega)
    refine ⟨_, _, ?_, h1.trans hys⟩
    rw [← Go.Deep.add_add, hcell, hv]

theorem open_agg9 {r : Reach} {b0 : Nat} {t : TypeId} {f0 f1 f2 f3 f4 f5 f6 f7 f8 : Field} {v : Value} {d : DataW H} {p : List MemPlace} (hs : P.underlying t = some (.struct #[f0, f1, f2, f3, f4, f5, f6, f7, f8])) (hone : oneCellFields P #[f0, f1, f2, f3, f4, f5, f6, f7, f8] = true) (hC : P.cellsOf t = 9)
    (hv : Value.okWide P w r b0 t v) (h : DataW.Trod enc P w base spare held t v d p) :
    ∃ (v0 v1 v2 v3 v4 v5 v6 v7 v8 : Value) (y0 y1 y2 y3 y4 y5 y6 y7 y8 : DataW H × List MemPlace) (n : Nat), v = .agg #[v0, v1, v2, v3, v4, v5, v6, v7, v8] ∧
      DataW.trod enc P w base spare held n f0.type [v0] = some y0 ∧ DataW.trod enc P w base spare held n f1.type [v1] = some y1 ∧ DataW.trod enc P w base spare held n f2.type [v2] = some y2 ∧ DataW.trod enc P w base spare held n f3.type [v3] = some y3 ∧ DataW.trod enc P w base spare held n f4.type [v4] = some y4 ∧ DataW.trod enc P w base spare held n f5.type [v5] = some y5 ∧ DataW.trod enc P w base spare held n f6.type [v6] = some y6 ∧ DataW.trod enc P w base spare held n f7.type [v7] = some y7 ∧ DataW.trod enc P w base spare held n f8.type [v8] = some y8 := by
  obtain ⟨cs, rfl, hsz⟩ := okWide_struct hs hv
  obtain ⟨l⟩ := cs
  match l, hsz.trans hC with
  | [c0, c1, c2, c3, c4, c5, c6, c7, c8], _ =>
    obtain ⟨fuel, hf⟩ := h
    obtain ⟨xs, n, _, hx, _, hlen, hg⟩ := DataW.trod_struct hs hf
    obtain ⟨o0, k0⟩ := hone_of hone 0 f0 rfl
    obtain ⟨o1, k1⟩ := hone_of hone 1 f1 rfl
    obtain ⟨o2, k2⟩ := hone_of hone 2 f2 rfl
    obtain ⟨o3, k3⟩ := hone_of hone 3 f3 rfl
    obtain ⟨o4, k4⟩ := hone_of hone 4 f4 rfl
    obtain ⟨o5, k5⟩ := hone_of hone 5 f5 rfl
    obtain ⟨o6, k6⟩ := hone_of hone 6 f6 rfl
    obtain ⟨o7, k7⟩ := hone_of hone 7 f7 rfl
    obtain ⟨o8, k8⟩ := hone_of hone 8 f8 rfl
    match xs, hlen with
    | [y0, y1, y2, y3, y4, y5, y6, y7, y8], _ =>
      exact ⟨c0, c1, c2, c3, c4, c5, c6, c7, c8, y0, y1, y2, y3, y4, y5, y6, y7, y8, n, rfl, by simpa [Value.cells, o0, k0] using hg 0 f0 rfl, by simpa [Value.cells, o1, k1] using hg 1 f1 rfl, by simpa [Value.cells, o2, k2] using hg 2 f2 rfl, by simpa [Value.cells, o3, k3] using hg 3 f3 rfl, by simpa [Value.cells, o4, k4] using hg 4 f4 rfl, by simpa [Value.cells, o5, k5] using hg 5 f5 rfl, by simpa [Value.cells, o6, k6] using hg 6 f6 rfl, by simpa [Value.cells, o7, k7] using hg 7 f7 rfl, by simpa [Value.cells, o8, k8] using hg 8 f8 rfl⟩
end

section
variable {H : Type} {enc : TypeId × Value → H} {w : World} {base : Nat} {spare : Nat → Bool} {held : Bool} {r : Reach} {b0 : Nat} {v : Value} {d : DataW H} {p : List MemPlace}

theorem i64_le {n : Int} (h : (Lit.int .i64 n).wf = true) : n ≤ 9223372036854775807 := (bounds_i64 h).2

theorem one_int {n t : Nat} {v : Value} {y : DataW H × List MemPlace} (ht : Try.prog.underlying t = some (.int .i64)) (h : DataW.trod enc Try.prog w base spare held n t [v] = some y) : ∃ k : Int, v = .int .i64 k ∧ k ≤ 9223372036854775807 := by
  obtain ⟨k, hk, _, hw⟩ := DataW.trod_int ht h
  exact ⟨k, by simpa using hk, i64_le hw⟩
theorem one_str {n : Nat} {v : Value} {y : DataW H × List MemPlace} (h : DataW.trod enc Try.prog w base spare held n 9 [v] = some y) : ∃ s : ByteArray, v = .string s ∧ s.size ≤ maxLen := by
  obtain ⟨s, hs, _, hw⟩ := DataW.trod_string Try.underlying9 h
  exact ⟨s, by simpa using hs, hw⟩

set_option maxRecDepth 100000 in
theorem open_id (hv : Value.okWide Try.prog w r b0 23 v) (h : DataW.Trod enc Try.prog w base spare held 23 v d p) :
    ∃ s q : Int, v = .agg #[.int .i64 s, .int .i64 q] ∧ s ≤ 9223372036854775807 ∧ q ≤ 9223372036854775807 := by
  obtain ⟨v0, v1, y0, y1, n, rfl, _, _, h0, h1⟩ := open_agg2 Try.underlying23 (by kernel_rfl) (by kernel_rfl) hv h
  obtain ⟨s, rfl, hs⟩ := one_int Try.underlying3 h0
  obtain ⟨q, rfl, hq⟩ := one_int Try.underlying3 h1
  exact ⟨s, q, rfl, hs, hq⟩

set_option maxRecDepth 100000 in
theorem open_op (hv : Value.okWide Try.prog w r b0 25 v) (h : DataW.Trod enc Try.prog w base spare held 25 v d p) :
    ∃ (k : Int) (a b c d e f : ByteArray) (m n : Int), v = .agg #[.int .i64 k, .string a, .string b, .string c, .string d, .string e, .string f, .int .i64 m, .int .i64 n] ∧
      (k ≤ 9223372036854775807 ∧ m ≤ 9223372036854775807 ∧ n ≤ 9223372036854775807) ∧ a.size ≤ maxLen ∧ b.size ≤ maxLen ∧ c.size ≤ maxLen ∧ d.size ≤ maxLen ∧ e.size ≤ maxLen ∧ f.size ≤ maxLen := by
  obtain ⟨v0, v1, v2, v3, v4, v5, v6, v7, v8, y0, y1, y2, y3, y4, y5, y6, y7, y8, n, rfl, h0, h1, h2, h3, h4, h5, h6, h7, h8⟩ := open_agg9 Try.underlying25 (by kernel_rfl) (by kernel_rfl) hv h
  obtain ⟨k, rfl, hk⟩ := one_int Try.underlying3 h0
  obtain ⟨a, rfl, ha⟩ := one_str h1
  obtain ⟨b, rfl, hb⟩ := one_str h2
  obtain ⟨c, rfl, hc⟩ := one_str h3
  obtain ⟨d, rfl, hd⟩ := one_str h4
  obtain ⟨e, rfl, he⟩ := one_str h5
  obtain ⟨f, rfl, hf⟩ := one_str h6
  obtain ⟨m, rfl, hm⟩ := one_int Try.underlying3 h7
  obtain ⟨n, rfl, hn⟩ := one_int Try.underlying3 h8
  exact ⟨k, a, b, c, d, e, f, m, n, rfl, ⟨hk, hm, hn⟩, ha, hb, hc, hd, he, hf⟩

set_option maxRecDepth 100000 in
theorem open_posts {n : Nat} {v : Value} {y : DataW H × List MemPlace} (h : DataW.trod enc Try.prog w base spare held n 29 [v] = some y) :
    ∃ (ua : Option Addr) (n uc : Nat) (ps : List (ByteArray × ByteArray)), v = .slice ua n uc ∧ PostsAt w ua n uc ps ∧ n ≤ maxLen ∧ ∀ p ∈ ps, p.1.size ≤ maxLen ∧ p.2.size ≤ maxLen := by
  rcases open_slice_fields Try.underlying29 Try.underlying38 (by kernel_rfl) (by kernel_rfl) h with h0 | ⟨a, len, cap, m, hcs, hl, hm, hmm, hi⟩
  · refine ⟨none, 0, 0, [], by simpa using h0, ⟨rfl, Nat.le_refl _, fun i hi => absurd hi (Nat.not_lt_zero i)⟩, Nat.zero_le _, fun p hp => by simp at hp⟩
  · have hlm : len ≤ m := by rw [hmm]; split <;> omega
    have hex : ∀ i, i < len → ∃ x : ByteArray × ByteArray, w.cell? (a.add (i * 2)) = some (.string x.1) ∧ w.cell? (a.add (i * 2 + 1)) = some (.string x.2) ∧ x.1.size ≤ maxLen ∧ x.2.size ≤ maxLen := by
      intro i hil
      obtain ⟨n', hf⟩ := hi i (by omega)
      obtain ⟨u0, z0, hc0, hz0⟩ := hf 0 _ rfl
      obtain ⟨u1, z1, hc1, hz1⟩ := hf 1 _ rfl
      obtain ⟨t1, rfl, ht1⟩ := one_str hz0
      obtain ⟨t2, rfl, ht2⟩ := one_str hz1
      exact ⟨(t1, t2), hc0, hc1, ht1, ht2⟩
    obtain ⟨f, hf⟩ := choose_lt hex
    have hlen : ((List.range len).map f).length = len := by simp
    refine ⟨some a, len, cap, (List.range len).map f, by simpa using hcs, ⟨hlen.symm, hl, fun i hil => ?_⟩, Nat.le_trans hl hm, ?_⟩
    · rw [hlen] at hil
      obtain ⟨c1, c2, _, _⟩ := hf i hil
      obtain ⟨b, off, spot⟩ := a
      have hspot : spot = none := by simpa [Addr.add] using World.cell?_spot (hf 0 (by omega)).1
      subst hspot
      rw [Go.WideShapes.add_plain] at c1 c2
      refine ⟨b, off, rfl, World.block_lt_of_cell? _ _ c1, ?_, ?_⟩
      · simpa using c1
      · simpa [Nat.add_assoc] using c2
    · intro p hp
      obtain ⟨i, hi', rfl⟩ := List.mem_map.1 hp
      have := hf i (List.mem_range.1 hi')
      exact ⟨this.2.2.1, this.2.2.2⟩

set_option maxRecDepth 100000 in
theorem open_rep (hv : Value.okWide Try.prog w r b0 31 v) (h : DataW.Trod enc Try.prog w base spare held 31 v d p) :
    ∃ (e a : Int) (ua : Option Addr) (n uc : Nat) (ps : List (ByteArray × ByteArray)), v = .agg #[.int .i64 e, .int .i64 a, .slice ua n uc] ∧ (e ≤ 9223372036854775807 ∧ a ≤ 9223372036854775807) ∧ PostsAt w ua n uc ps ∧ n ≤ maxLen ∧ ∀ p ∈ ps, p.1.size ≤ maxLen ∧ p.2.size ≤ maxLen := by
  obtain ⟨v0, v1, v2, y0, y1, y2, m, rfl, _, _, h0, h1, h2⟩ := open_agg3 Try.underlying31 (by kernel_rfl) (by kernel_rfl) hv h
  obtain ⟨e, rfl, he⟩ := one_int Try.underlying26 h0
  obtain ⟨a, rfl, ha⟩ := one_int Try.underlying3 h1
  obtain ⟨ua, n, uc, ps, rfl, hp, hn, hs⟩ := open_posts h2
  exact ⟨e, a, ua, n, uc, ps, rfl, ⟨he, ha⟩, hp, hn, hs⟩
end

theorem asks_row (s q : Int) (k : Int) (a b c d e f : ByteArray) (m n : Int) (er at' : Int) (ua : Option Addr) (len cap : Nat) (ps : List (ByteArray × ByteArray)) (w : World)
    (hs : s ≤ 9223372036854775807 ∧ q ≤ 9223372036854775807) (ho : k ≤ 9223372036854775807 ∧ m ≤ 9223372036854775807 ∧ n ≤ 9223372036854775807)
    (hx : a.size ≤ maxLen ∧ b.size ≤ maxLen ∧ c.size ≤ maxLen ∧ d.size ≤ maxLen ∧ e.size ≤ maxLen ∧ f.size ≤ maxLen) (hr : er ≤ 9223372036854775807 ∧ at' ≤ 9223372036854775807)
    (hp : PostsAt w ua len cap ps) (hl : len ≤ maxLen) (hps : ∀ p ∈ ps, p.1.size ≤ maxLen ∧ p.2.size ≤ maxLen) :
    Calls Try.prog 4 #[.agg #[.int .i64 s, .int .i64 q], .agg #[.int .i64 k, .string a, .string b, .string c, .string d, .string e, .string f, .int .i64 m, .int .i64 n], .agg #[.int .i64 er, .int .i64 at', .slice ua len cap]] w
      fun o w' => o = .returned (.bool true) ∧ Below w.heap.size w w' := by
  have hM : ∀ z : Nat, z ≤ maxLen → z ≤ 9223372036854775807 := fun z hz => by unfold maxLen at hz; omega
  refine asks_any ⟨s, q, k, a, b, c, d, e, f, m, n⟩ er at' ua len cap ps w ?_ hx ?_ hps hp (hM _ hl)
  · exact ⟨hs.1, hs.2, ho.1, hM _ hx.1, hM _ hx.2.1, hM _ hx.2.2.1, hM _ hx.2.2.2.1, hM _ hx.2.2.2.2.1, hM _ hx.2.2.2.2.2, ho.2.1, ho.2.2⟩
  · exact ⟨hs.1, hs.2, hr.1, hr.2, by have := hM _ hl; have := hp.1; simp only; omega, fun p h => ⟨hM _ (hps p h).1, hM _ (hps p h).2⟩⟩
end Go.Proofs.Ytibmaeckmnkmjaa
