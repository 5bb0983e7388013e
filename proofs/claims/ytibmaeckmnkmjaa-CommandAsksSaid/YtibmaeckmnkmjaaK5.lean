/- 'takes' of the program's package command: what is asked of the fields and what is said of them, lists among them. -/
import Derived.Test.YtibmaeckmnkmjaaK4
import Derived.Deep.AppendLies
namespace Go.Proofs.Ytibmaeckmnkmjaa
open Go.RowKit

def GK.ty : GK → Nat
  | .flat k => k.ty
  | .ents => 104
  | .posts => 92

def Rep (B : Nat) (w : World) : GK → FV → Value → Prop
  | .flat _, .val v, u => u = v
  | .ents, .row n cs, u => w.ownsRow B 109 2 u n cs
  | .posts, .row n cs, u => w.ownsRow B 38 2 u n cs
  | _, _, _ => False

def RepAll (B : Nat) (w : World) : List GK → List FV → List Value → Prop
  | [], [], [] => True
  | k :: ks, f :: fs, v :: vs => Rep B w k f v ∧ RepAll B w ks fs vs
  | _, _, _ => False

theorem RepAll.snoc {B : Nat} {w : World} {k : GK} {f : FV} {v : Value} (h : Rep B w k f v) : ∀ {ks : List GK} {fs : List FV} {vs : List Value}, RepAll B w ks fs vs → RepAll B w (ks ++ [k]) (fs ++ [f]) (vs ++ [v])
  | [], [], [], _ => ⟨h, trivial⟩
  | _ :: _, _ :: _, _ :: _, ⟨h1, h2⟩ => ⟨h1, RepAll.snoc h h2⟩

theorem ownsRow_kept {w w' : World} {B : Nat} {e : TypeId} {size : Nat} {v : Value} {n : Nat} {xs : List Value} (h : w.ownsRow B e size v n xs) (hk : ∀ b, B ≤ b → b < w.heap.size → w'.heap[b]? = w.heap[b]?) : w'.ownsRow B e size v n xs := by
  obtain ⟨h1, h2⟩ := h
  refine ⟨h1, ?_⟩
  rcases h2 with h2 | ⟨g, cap, cur, hv, hg, hh, r⟩
  · exact Or.inl h2
  · have hlt : g < w.heap.size := by
      rcases Nat.lt_or_ge g w.heap.size with h' | h'
      · exact h'
      · rw [Array.getElem?_eq_none h'] at hh; cases hh
    exact Or.inr ⟨g, cap, cur, hv, hg, by rw [hk g hg hlt]; exact hh, r⟩

theorem ownsRow_base {w : World} {B B' : Nat} {e : TypeId} {size : Nat} {v : Value} {n : Nat} {xs : List Value} (h : w.ownsRow B e size v n xs) (hB : B' ≤ B) : w.ownsRow B' e size v n xs := by
  obtain ⟨h1, h2⟩ := h
  refine ⟨h1, ?_⟩
  rcases h2 with h2 | ⟨g, cap, cur, hv, hg, r⟩
  · exact Or.inl h2
  · exact Or.inr ⟨g, cap, cur, hv, by omega, r⟩

theorem Rep.kept {B : Nat} {w w' : World} (hk : ∀ b, B ≤ b → b < w.heap.size → w'.heap[b]? = w.heap[b]?) : ∀ {k : GK} {f : FV} {v : Value}, Rep B w k f v → Rep B w' k f v
  | .flat _, .val _, _, h => h
  | .ents, .row _ _, _, h => ownsRow_kept h hk
  | .posts, .row _ _, _, h => ownsRow_kept h hk

theorem RepAll.kept {B : Nat} {w w' : World} (hk : ∀ b, B ≤ b → b < w.heap.size → w'.heap[b]? = w.heap[b]?) : ∀ {ks : List GK} {fs : List FV} {vs : List Value}, RepAll B w ks fs vs → RepAll B w' ks fs vs
  | [], [], [], _ => trivial
  | _ :: _, _ :: _, _ :: _, ⟨h1, h2⟩ => ⟨h1.kept hk, RepAll.kept hk h2⟩

def TakesPostG (sa : Addr) (fs : List (GK × Addr)) (S : ByteArray) (w : World) (e : Ending) (w' : World) : Prop :=
  match takeAllG (fs.map (·.1)) S with
  | some (fvs, r) => e = .returned (.tuple #[]) ∧ ∃ vs : List Value, Below w.heap.size (puts (w.setCell sa (.string r)) ((fs.map (·.2)).zip vs)) w' ∧ RepAll w.heap.size w' (fs.map (·.1)) fvs vs
  | none => e = .panicked badChain ∧ KeptBut w w' (fun b => b = sa.block ∨ ∃ y ∈ fs, b = y.2.block)

structure TookG (sa : Addr) (fs : List (GK × Addr)) (S : ByteArray) (w : World) (k : Nat) (r : ByteArray) (wr : World) : Prop where
  size : r.size ≤ S.size
  more : ∃ (vs : List Value) (fvs : List FV), vs.length = k ∧ Below w.heap.size (puts (w.setCell sa (.string r)) (((fs.map (·.2)).take k).zip vs)) wr ∧
    RepAll w.heap.size wr ((fs.map (·.1)).take k) fvs vs ∧
    takeAllG (fs.map (·.1)) S = (takeAllG ((fs.drop k).map (·.1)) r).map fun x => (fvs ++ x.1, x.2)

/-- What is asked of the fields. -/
structure FitsG (sa : Addr) (fs : List (GK × Addr)) (S : ByteArray) (fb fo : Nat) (w : World) : Prop where
  c : w.cell? sa = some (.string S)
  f : w.frozen? sa = false
  row : ∀ i (h : i < fs.length), w.cell? ⟨fb, fo + i, none⟩ = some (.iface (fs[i].1.ty) (.pointer (some fs[i].2)))
  cell : ∀ x ∈ fs, ∃ v, w.cell? x.2 = some v
  nil : ∀ x ∈ fs, (x.1 = .ents ∨ x.1 = .posts) → w.cell? x.2 = some (.slice none 0 0)
  fz : ∀ x ∈ fs, w.frozen? x.2 = false
  apart : sa.block ≠ fb
  ne : ∀ x ∈ fs, x.2 ≠ sa ∧ x.2.block ≠ fb
  spot : ∀ x ∈ fs, x.2.spot = none
  nodup : (fs.map (·.2)).Nodup

theorem mem_zip_takeG {fs : List (GK × Addr)} {k : Nat} {vs : List Value} {x : Addr × Value} (h : x ∈ ((fs.map (·.2)).take k).zip vs) : ∃ y ∈ fs, x.1 = y.2 := by
  have h1 := (List.of_mem_zip h).1
  have h2 := List.mem_of_mem_take h1
  obtain ⟨y, hy, e⟩ := List.mem_map.1 h2
  exact ⟨y, hy, e.symm⟩

theorem mem_zip_lt {fs : List (GK × Addr)} {k : Nat} {vs : List Value} {x : Addr × Value} (hn : (fs.map (·.2)).Nodup) (hk : k < fs.length) (h : x ∈ ((fs.map (·.2)).take k).zip vs) : x.1 ≠ fs[k].2 := by
  have h1 := (List.of_mem_zip h).1
  intro e
  have hk' : k < (fs.map (·.2)).length := by simpa using hk
  have h2 : (fs.map (·.2))[k] = fs[k].2 := by simp
  rw [e, ← h2] at h1
  obtain ⟨i, hi, e2⟩ := List.getElem_of_mem h1
  rw [List.getElem_take] at e2
  have hi' : i < k := by simp at hi; omega
  exact List.pairwise_iff_getElem.1 hn i k (by omega) hk' hi' e2

theorem below_cell {B : Nat} {w w' : World} (h : Below B w w') {p : Addr} (hp : p.block < B) : w'.cell? p = w.cell? p := h.cell hp

theorem lt_size_of_FitsG {sa : Addr} {fs : List (GK × Addr)} {S : ByteArray} {fb fo : Nat} {w : World} (H : FitsG sa fs S fb fo w) : sa.block < w.heap.size ∧ ∀ x ∈ fs, x.2.block < w.heap.size :=
  ⟨World.block_lt_of_cell? _ _ H.c, fun x hx => let ⟨_, h⟩ := H.cell x hx; World.block_lt_of_cell? _ _ h⟩

theorem tookG_facts {sa : Addr} {fs : List (GK × Addr)} {S r : ByteArray} {fb fo k : Nat} {w wr : World} (H : FitsG sa fs S fb fo w) (T : TookG sa fs S w k r wr) (hk : k < fs.length) :
    wr.cell? ⟨fb, fo + k, none⟩ = some (.iface (fs[k].1.ty) (.pointer (some fs[k].2))) ∧ wr.cell? sa = some (.string r) ∧ wr.frozen? sa = false ∧
    (∃ v, wr.cell? fs[k].2 = some v) ∧ ((fs[k].1 = .ents ∨ fs[k].1 = .posts) → wr.cell? fs[k].2 = some (.slice none 0 0)) ∧ wr.frozen? fs[k].2 = false ∧ fs[k].2 ≠ sa ∧ sa ≠ fs[k].2 := by
  obtain ⟨vs, fvs, hl, hb, _⟩ := T.more
  have hm : fs[k] ∈ fs := List.getElem_mem hk
  have hn := H.ne _ hm
  obtain ⟨hs1, hs2⟩ := lt_size_of_FitsG H
  have hfb : fb < w.heap.size := World.block_lt_of_cell? w ⟨fb, fo + k, none⟩ (H.row k hk)
  refine ⟨?_, ?_, ?_, ?_, ?_, ?_, hn.1, fun e => hn.1 e.symm⟩
  · rw [hb.cell (p := ⟨fb, fo + k, none⟩) hfb, puts_cell_out _ _ _ (fun x hx => ?_), World.cell?_setCell_other _ _ _ _ (fun e => H.apart (by rw [e]))]
    · exact H.row k hk
    · obtain ⟨y, hy, e⟩ := mem_zip_takeG hx
      exact fun e' => (H.ne y hy).2 (by rw [← e, e'])
  · rw [hb.cell hs1, puts_cell_out _ _ _ (fun x hx => ?_), World.cell?_setCell_same _ _ _ H.c]
    obtain ⟨y, hy, e⟩ := mem_zip_takeG hx
    exact fun e' => (H.ne y hy).1 (by rw [← e, e'])
  · rw [hb.frozen hs1, puts_frozen]; simpa using H.f
  · rw [hb.cell (hs2 _ hm)]
    exact puts_cell_some _ _ _ (cell?_setCell_some (H.cell _ hm).choose_spec)
  · intro hkd
    rw [hb.cell (hs2 _ hm), puts_cell_out _ _ _ (fun x hx => mem_zip_lt H.nodup hk hx), World.cell?_setCell_other _ _ _ _ (fun e => hn.1 e.symm)]
    exact H.nil _ hm hkd
  · rw [hb.frozen (hs2 _ hm), puts_frozen]; simpa using H.fz _ hm

theorem tookG_next {sa : Addr} {fs : List (GK × Addr)} {S r r' : ByteArray} {fb fo k : Nat} {w wr w' : World} {v : Value} {fv : FV} (H : FitsG sa fs S fb fo w) (T : TookG sa fs S w k r wr) (hk : k < fs.length)
    (ho : takeOneG fs[k].1 r = some (fv, r')) (hb : Below wr.heap.size ((wr.setCell sa (.string r')).setCell fs[k].2 v) w') (hr : Rep w.heap.size w' fs[k].1 fv v) : TookG sa fs S w (k + 1) r' w' := by
  obtain ⟨vs, fvs, hl, hbw, hrep, hm⟩ := T.more
  obtain ⟨hs1, hs2⟩ := lt_size_of_FitsG H
  have hmem : fs[k] ∈ fs := List.getElem_mem hk
  have hsz : w.heap.size ≤ wr.heap.size := by have := hbw.size; simpa [puts_size] using this
  refine ⟨Nat.le_trans (takeOneG_size ho) T.size, vs ++ [v], fvs ++ [fv], by simp [hl], ?_, ?_, ?_⟩
  · have h1 := below_setCell_both (below_setCell_both hbw sa (.string r')) fs[k].2 v
    rw [puts_setCell _ _ _ _ (fun x hx => ?_), setCell_again, ← puts_snoc] at h1
    · have h2 : ((fs.map (·.2)).take k).zip vs ++ [(fs[k].2, v)] = ((fs.map (·.2)).take (k + 1)).zip (vs ++ [v]) := by
        rw [List.take_succ_eq_append_getElem (by simpa using hk), List.zip_append (by simp; omega)]
        simp
      rw [h2] at h1
      exact h1.trans (hb.mono hsz)
    · obtain ⟨y, hy, e⟩ := mem_zip_takeG hx
      exact fun e' => (H.ne y hy).1 (by rw [← e, e'])
  · rw [List.take_succ_eq_append_getElem (by simpa using hk)]
    have h3 := RepAll.kept (w' := w') (fun b hb1 hb2 => ?_) hrep
    · have := RepAll.snoc hr h3
      simpa using this
    · rw [hb.block b hb2, Below.heap_setCell _ _ _ _ (by have := hs2 _ hmem; omega), Below.heap_setCell _ _ _ _ (by omega)]
  · rw [hm, List.drop_eq_getElem_cons hk, List.map_cons, takeAllG_cons_some ho]
    cases takeAllG ((fs.drop (k + 1)).map (·.1)) r' <;> simp

theorem tookG_fail {sa : Addr} {fs : List (GK × Addr)} {S r : ByteArray} {k : Nat} {w wr w' : World} (T : TookG sa fs S w k r wr) (hk : k < fs.length)
    (ho : takeOneG fs[k].1 r = none) (hw : KeptBut wr w' (fun b => b = sa.block ∨ ∃ y ∈ fs, b = y.2.block)) : TakesPostG sa fs S w (.panicked badChain) w' := by
  obtain ⟨vs, fvs, hl, hbw, hrep, hm⟩ := T.more
  have e : takeAllG (fs.map (·.1)) S = none := by
    rw [hm, List.drop_eq_getElem_cons hk, List.map_cons, takeAllG_cons_none ho]; rfl
  unfold TakesPostG
  rw [e]
  refine ⟨rfl, ?_⟩
  have h3 : KeptBut w (puts (w.setCell sa (.string r)) (((fs.map (·.2)).take k).zip vs)) (fun b => b = sa.block ∨ ∃ y ∈ fs, b = y.2.block) := by
    refine (KeptBut.setCell w sa _ (Or.inl rfl)).trans (puts_kept _ _ _ fun x hx => ?_)
    obtain ⟨y, hy, e⟩ := mem_zip_takeG hx
    exact Or.inr ⟨y, hy, by rw [e]⟩
  exact (h3.trans (KeptBut.of_below (by have := hbw; simpa [puts_size] using this))).trans hw

theorem tookG_end {sa : Addr} {fs : List (GK × Addr)} {S r : ByteArray} {k : Nat} {w wr : World} (T : TookG sa fs S w k r wr) (hk : fs.length ≤ k) :
    TakesPostG sa fs S w (.returned (.tuple #[])) wr := by
  obtain ⟨vs, fvs, hl, hbw, hrep, hm⟩ := T.more
  have e : takeAllG (fs.map (·.1)) S = some (fvs, r) := by
    rw [hm, List.drop_eq_nil_of_le hk]; simp [takeAllG]
  unfold TakesPostG
  rw [e]
  rw [List.take_of_length_le (by simpa using hk)] at hbw hrep
  exact ⟨rfl, vs, hbw, hrep⟩
end Go.Proofs.Ytibmaeckmnkmjaa
