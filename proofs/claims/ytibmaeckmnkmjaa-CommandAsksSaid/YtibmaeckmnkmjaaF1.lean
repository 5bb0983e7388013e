/- 'FromAsk' of the program's package command. -/
import Derived.Test.YtibmaeckmnkmjaaK9
namespace Go.Proofs.Ytibmaeckmnkmjaa
open Go.RowKit

theorem puts_cell_at : ∀ (l : List (Addr × Value)) (w : World), (l.map (·.1)).Nodup → (∀ x ∈ l, ∃ v, w.cell? x.1 = some v) → ∀ x ∈ l, (puts w l).cell? x.1 = some x.2
  | [], _, _, _, x, hx => by simp at hx
  | y :: l, w, hn, hc, x, hx => by
    show (puts (w.setCell y.1 y.2) l).cell? x.1 = some x.2
    have hn' := List.nodup_cons.1 (by simpa using hn : (y.1 :: l.map (·.1)).Nodup)
    rcases List.mem_cons.1 hx with rfl | hx
    · rw [puts_cell_out _ _ _ (fun z hz e => hn'.1 (by rw [← e]; exact List.mem_map.2 ⟨z, hz, rfl⟩))]
      obtain ⟨v, hv⟩ := hc x (List.mem_cons_self ..)
      exact World.cell?_setCell_same _ _ _ hv
    · exact puts_cell_at l _ hn'.2 (fun z hz => cell?_setCell_some (hc z (List.mem_cons_of_mem _ hz)).choose_spec) x hx

theorem num_inv {ks : List GK} {s r : ByteArray} {fvs : List FV} (h : takeAllG (.flat .num :: ks) s = some (fvs, r)) : ∃ n r1 fvs', fvs = .val (.int .i64 n) :: fvs' ∧ takeAllG ks r1 = some (fvs', r) := by
  cases ho : takeOneG (.flat .num) s with
  | none => rw [takeAllG_cons_none ho] at h; simp at h
  | some y =>
    obtain ⟨v, r1⟩ := y
    rw [takeAllG_cons_some ho] at h
    simp only [Option.map_eq_some_iff, Prod.exists, Prod.mk.injEq] at h
    obtain ⟨a, b, h1, rfl, rfl⟩ := h
    simp only [takeOneG, takeOne, Option.map_eq_some_iff, Prod.exists, Prod.mk.injEq] at ho
    obtain ⟨_, _, ⟨n, _, _, rfl, rfl⟩, rfl, rfl⟩ := ho
    exact ⟨n, _, a, rfl, h1⟩

theorem err_inv {ks : List GK} {s r : ByteArray} {fvs : List FV} (h : takeAllG (.flat .err :: ks) s = some (fvs, r)) : ∃ n r1 fvs', fvs = .val (.int .i64 n) :: fvs' ∧ takeAllG ks r1 = some (fvs', r) := by
  cases ho : takeOneG (.flat .err) s with
  | none => rw [takeAllG_cons_none ho] at h; simp at h
  | some y =>
    obtain ⟨v, r1⟩ := y
    rw [takeAllG_cons_some ho] at h
    simp only [Option.map_eq_some_iff, Prod.exists, Prod.mk.injEq] at h
    obtain ⟨a, b, h1, rfl, rfl⟩ := h
    simp only [takeOneG, takeOne, Option.map_eq_some_iff, Prod.exists, Prod.mk.injEq] at ho
    obtain ⟨_, _, ⟨n, _, _, rfl, rfl⟩, rfl, rfl⟩ := ho
    exact ⟨n, _, a, rfl, h1⟩

theorem tru_inv {ks : List GK} {s r : ByteArray} {fvs : List FV} (h : takeAllG (.flat .tru :: ks) s = some (fvs, r)) : ∃ b r1 fvs', fvs = .val (.bool b) :: fvs' ∧ takeAllG ks r1 = some (fvs', r) := by
  cases ho : takeOneG (.flat .tru) s with
  | none => rw [takeAllG_cons_none ho] at h; simp at h
  | some y =>
    obtain ⟨v, r1⟩ := y
    rw [takeAllG_cons_some ho] at h
    simp only [Option.map_eq_some_iff, Prod.exists, Prod.mk.injEq] at h
    obtain ⟨a, b, h1, rfl, rfl⟩ := h
    simp only [takeOneG, takeOne, Option.map_eq_some_iff, Prod.exists, Prod.mk.injEq] at ho
    obtain ⟨_, _, ⟨n, _, _, rfl, rfl⟩, rfl, rfl⟩ := ho
    exact ⟨_, _, a, rfl, h1⟩

theorem txt_inv {ks : List GK} {s r : ByteArray} {fvs : List FV} (h : takeAllG (.flat .txt :: ks) s = some (fvs, r)) : ∃ t r1 fvs', fvs = .val (.string t) :: fvs' ∧ takeAllG ks r1 = some (fvs', r) := by
  cases ho : takeOneG (.flat .txt) s with
  | none => rw [takeAllG_cons_none ho] at h; simp at h
  | some y =>
    obtain ⟨v, r1⟩ := y
    rw [takeAllG_cons_some ho] at h
    simp only [Option.map_eq_some_iff, Prod.exists, Prod.mk.injEq] at h
    obtain ⟨a, b, h1, rfl, rfl⟩ := h
    simp only [takeOneG, takeOne, Option.map_eq_some_iff, Prod.exists, Prod.mk.injEq] at ho
    obtain ⟨_, _, ⟨n, _, _, rfl, rfl⟩, rfl, rfl⟩ := ho
    exact ⟨n, _, a, rfl, h1⟩

theorem posts_inv {ks : List GK} {s r : ByteArray} {fvs : List FV} (h : takeAllG (.posts :: ks) s = some (fvs, r)) : ∃ n cs r1 fvs', fvs = .row n cs :: fvs' ∧ takeAllG ks r1 = some (fvs', r) := by
  cases ho : takeOneG .posts s with
  | none => rw [takeAllG_cons_none ho] at h; simp at h
  | some y =>
    obtain ⟨v, r1⟩ := y
    rw [takeAllG_cons_some ho] at h
    simp only [Option.map_eq_some_iff, Prod.exists, Prod.mk.injEq] at h
    obtain ⟨a, b, h1, rfl, rfl⟩ := h
    simp only [takeOneG] at ho
    split at ho
    · simp at ho
    · simp only [Option.map_eq_some_iff, Prod.exists, Prod.mk.injEq] at ho
      obtain ⟨_, _, _, rfl, rfl⟩ := ho
      exact ⟨_, _, _, a, rfl, h1⟩

theorem fromG_inv {m s : ByteArray} {ks : List GK} {fvs : List FV} (h : fromG m ks s = some fvs) : ∃ s1 r, takeAllG ks s1 = some (fvs, r) := by
  unfold fromG at h
  split at h
  · simp at h
  · split at h
    · simp at h
    · rename_i s1 _ _ fs r ht
      split at h
      · simp at h; subst h; exact ⟨s1, r, ht⟩
      · simp at h

/-- The fields of an op. -/
def opKs : List GK := [.flat .num, .flat .txt, .flat .txt, .flat .txt, .flat .txt, .flat .txt, .flat .txt, .flat .num, .flat .num]
def askKs : List GK := .flat .num :: .flat .num :: opKs

theorem opKs_inv {ks : List GK} {s r : ByteArray} {fvs : List FV} (h : takeAllG (opKs ++ ks) s = some (fvs, r)) : ∃ (k : Int) (a b c d e f : ByteArray) (m n : Int) (r1 : ByteArray) (fvs' : List FV),
    fvs = [.val (.int .i64 k), .val (.string a), .val (.string b), .val (.string c), .val (.string d), .val (.string e), .val (.string f), .val (.int .i64 m), .val (.int .i64 n)] ++ fvs' ∧ takeAllG ks r1 = some (fvs', r) := by
  obtain ⟨k, _, _, rfl, h1⟩ := num_inv h
  obtain ⟨a, _, _, rfl, h2⟩ := txt_inv h1
  obtain ⟨b, _, _, rfl, h3⟩ := txt_inv h2
  obtain ⟨c, _, _, rfl, h4⟩ := txt_inv h3
  obtain ⟨d, _, _, rfl, h5⟩ := txt_inv h4
  obtain ⟨e, _, _, rfl, h6⟩ := txt_inv h5
  obtain ⟨f, _, _, rfl, h7⟩ := txt_inv h6
  obtain ⟨m, _, _, rfl, h8⟩ := num_inv h7
  obtain ⟨n, r1, fvs', rfl, h9⟩ := num_inv h8
  exact ⟨k, a, b, c, d, e, f, m, n, r1, fvs', rfl, h9⟩

/-- An ask out of bytes: id's numbers, the op's fields. -/
structure AskV where
  s : Int
  q : Int
  k : Int
  a : ByteArray
  b : ByteArray
  c : ByteArray
  d : ByteArray
  e : ByteArray
  f : ByteArray
  m : Int
  n : Int

def AskV.fvs (x : AskV) : List FV := [.val (.int .i64 x.s), .val (.int .i64 x.q), .val (.int .i64 x.k), .val (.string x.a), .val (.string x.b), .val (.string x.c), .val (.string x.d), .val (.string x.e), .val (.string x.f), .val (.int .i64 x.m), .val (.int .i64 x.n)]

theorem ask_shape {m s : ByteArray} {fvs : List FV} (h : fromG m askKs s = some fvs) : ∃ x : AskV, fvs = x.fvs := by
  obtain ⟨s1, r, ht⟩ := fromG_inv h
  obtain ⟨n0, _, _, rfl, ht1⟩ := num_inv ht
  obtain ⟨n1, _, _, rfl, ht2⟩ := num_inv ht1
  have ht3 : takeAllG (opKs ++ []) _ = _ := ht2
  obtain ⟨k, a, b, c, d, e, f, m, n, r1, fvs', rfl, h3⟩ := opKs_inv ht3
  simp only [takeAllG, Option.some.injEq, Prod.mk.injEq] at h3
  rw [← h3.1]
  exact ⟨⟨n0, n1, k, a, b, c, d, e, f, m, n⟩, rfl⟩

/-- Where an ask's fields go. -/
def askFs (b1 b2 : Nat) : List (GK × Addr) := [(.flat .num, ⟨b1, 0, none⟩), (.flat .num, ⟨b1, 1, none⟩), (.flat .num, ⟨b2, 0, none⟩), (.flat .txt, ⟨b2, 1, none⟩), (.flat .txt, ⟨b2, 2, none⟩),
  (.flat .txt, ⟨b2, 3, none⟩), (.flat .txt, ⟨b2, 4, none⟩), (.flat .txt, ⟨b2, 5, none⟩), (.flat .txt, ⟨b2, 6, none⟩), (.flat .num, ⟨b2, 7, none⟩), (.flat .num, ⟨b2, 8, none⟩)]

/-- A block whose cells may all be written. -/
def Plain (w : World) (b n : Nat) : Prop := ∃ cs t, w.heap[b]? = some (.cells cs t (0, 0)) ∧ cs.size = n

theorem Plain.cell {w : World} {b n : Nat} (h : Plain w b n) (i : Nat) (hi : i < n) : ∃ v, w.cell? ⟨b, i, none⟩ = some v := by
  obtain ⟨cs, t, hb, rfl⟩ := h
  exact ⟨cs[i], by simp [World.cell?, hb, hi]⟩

theorem Plain.frozen {w : World} {b n : Nat} (h : Plain w b n) (i : Nat) : w.frozen? ⟨b, i, none⟩ = false := by
  obtain ⟨cs, t, hb, rfl⟩ := h
  simp [World.frozen?, hb]

theorem Plain.lt {w : World} {b n : Nat} (h : Plain w b n) : b < w.heap.size := by
  obtain ⟨cs, t, hb, rfl⟩ := h
  rcases Nat.lt_or_ge b w.heap.size with h' | h'
  · exact h'
  · rw [Array.getElem?_eq_none h'] at hb; cases hb

theorem Plain.below {w w' : World} {b n B : Nat} (h : Plain w b n) (hb : Below B w w') (hlt : b < B) : Plain w' b n := by
  obtain ⟨cs, t, h1, h2⟩ := h
  exact ⟨cs, t, by rw [hb.block b hlt]; exact h1, h2⟩

theorem ask_fits {w : World} {b1 b2 g cap : Nat} {base : Nat} (h1 : Plain w b1 2) (h2 : Plain w b2 9) (hne : b1 ≠ b2) (hb1 : b1 < base) (hb2 : b2 < base)
    (ho : w.ownsRow base 20 1 (.slice (some ⟨g, 0, none⟩) 11 cap) 11 ([ifc 88 b1 0, ifc 88 b1 1] ++ opIfs b2 0)) : FitsW (askFs b1 b2) g 0 w := by
  obtain ⟨_, h | ⟨g', cap', cur, hv, hg, hh, hcap, _, hcur, htake⟩⟩ := ho
  · simp at h
  simp only [Value.slice.injEq, Option.some.injEq, Addr.mk.injEq, and_true] at hv
  obtain ⟨rfl, _, rfl⟩ := hv
  have hlt : g < w.heap.size := by
    rcases Nat.lt_or_ge g w.heap.size with h' | h'
    · exact h'
    · rw [Array.getElem?_eq_none h'] at hh; cases hh
  refine ⟨hlt, ?_, ?_, ?_, ?_, ?_, ?_, ?_⟩
  · intro i hi
    have hi' : i < 11 := hi
    have e1 : w.cell? ⟨g, 0 + i, none⟩ = cur.toList[i]? := by simp [World.cell?, hh]
    rw [e1]
    have e2 : cur.toList[i]? = (cur.toList.take (11 * 1))[i]? := by rw [List.getElem?_take]; simp [hi']
    rw [e2, htake]
    match i, hi' with
    | 0, _ | 1, _ | 2, _ | 3, _ | 4, _ | 5, _ | 6, _ | 7, _ | 8, _ | 9, _ | 10, _ => rfl
    | n + 11, h => omega
  · intro x hx
    simp only [askFs, List.mem_cons, List.not_mem_nil, or_false] at hx
    rcases hx with rfl | rfl | rfl | rfl | rfl | rfl | rfl | rfl | rfl | rfl | rfl
    · exact h1.cell _ (by decide)
    · exact h1.cell _ (by decide)
    all_goals exact h2.cell _ (by decide)
  · intro x hx hk
    simp only [askFs, List.mem_cons, List.not_mem_nil, or_false] at hx
    rcases hx with rfl | rfl | rfl | rfl | rfl | rfl | rfl | rfl | rfl | rfl | rfl <;> simp at hk
  · intro x hx
    simp only [askFs, List.mem_cons, List.not_mem_nil, or_false] at hx
    rcases hx with rfl | rfl | rfl | rfl | rfl | rfl | rfl | rfl | rfl | rfl | rfl
    · exact h1.frozen _
    · exact h1.frozen _
    all_goals exact h2.frozen _
  · intro x hx
    simp only [askFs, List.mem_cons, List.not_mem_nil, or_false] at hx
    rcases hx with rfl | rfl | rfl | rfl | rfl | rfl | rfl | rfl | rfl | rfl | rfl <;> simp only <;> omega
  · intro x hx
    simp only [askFs, List.mem_cons, List.not_mem_nil, or_false] at hx
    rcases hx with rfl | rfl | rfl | rfl | rfl | rfl | rfl | rfl | rfl | rfl | rfl <;> rfl
  · simp [askFs]
end Go.Proofs.Ytibmaeckmnkmjaa
