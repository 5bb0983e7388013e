/- 'PutAnswer' of the program's package command, and of the reference. -/
import Derived.Test.YtibmaeckmnkmjaaO3
import Derived.Test.YtibmaeckmnkmjaaO2
namespace Go.Proofs.Ytibmaeckmnkmjaa
open Go.RowKit

/-- An answer: an id's numbers, an error, a place, posts. -/
structure RepV where
  s : Int
  q : Int
  e : Int
  a : Int
  ps : List (ByteArray × ByteArray)

/-- Where posts lie that came in. -/
def PostsAt (w : World) (ua : Option Addr) (n uc : Nat) (ps : List (ByteArray × ByteArray)) : Prop :=
  n = ps.length ∧ n ≤ uc ∧ ∀ i (h : i < ps.length), ∃ g o, ua = some ⟨g, o, none⟩ ∧ g < w.heap.size ∧ w.cell? ⟨g, o + i * 2, none⟩ = some (.string ps[i].1) ∧ w.cell? ⟨g, o + i * 2 + 1, none⟩ = some (.string ps[i].2)

theorem PostsAt.later {w w' : World} {ua : Option Addr} {n uc : Nat} {ps : List (ByteArray × ByteArray)} (h : PostsAt w ua n uc ps) (hb : Below w.heap.size w w') : PostsAt w' ua n uc ps := by
  obtain ⟨hn, hu, hc⟩ := h
  refine ⟨hn, hu, fun i hi => ?_⟩
  obtain ⟨g, o, ho, hg, c1, c2⟩ := hc i hi
  exact ⟨g, o, ho, Nat.lt_of_lt_of_le hg hb.size, (hb.cell (p := ⟨g, _, none⟩) hg).trans c1, (hb.cell (p := ⟨g, _, none⟩) hg).trans c2⟩

theorem PostsAt.holds {w : World} {ua : Option Addr} {n uc : Nat} {ps : List (ByteArray × ByteArray)} (h : PostsAt w ua n uc ps) (b : Nat) : HoldsPosts w.heap.size b w (.slice ua n uc) ps := by
  obtain ⟨hn, _, hc⟩ := h
  subst hn
  refine ⟨ua, uc, rfl, fun i hi => ?_⟩
  obtain ⟨g, o, ho, hg, c1, c2⟩ := hc i hi
  exact ⟨g, o, ho, Or.inl hg, c1, c2⟩

def RepV.idv (x : RepV) : Array Value := #[.int .i64 x.s, .int .i64 x.q]
def RepV.rv (x : RepV) (ua : Option Addr) (n uc : Nat) : Array Value := #[.int .i64 x.e, .int .i64 x.a, .slice ua n uc]
def RepV.pfs (x : RepV) (v : Value) : List PF := [.num x.s, .num x.q, .err x.e, .num x.a, .posts v x.ps]

structure RepV.sized (x : RepV) : Prop where
  s : x.s ≤ 9223372036854775807
  q : x.q ≤ 9223372036854775807
  e : x.e ≤ 9223372036854775807
  a : x.a ≤ 9223372036854775807
  n : x.ps.length ≤ 9223372036854775807
  t : ∀ p ∈ x.ps, p.1.size ≤ 9223372036854775807 ∧ p.2.size ≤ 9223372036854775807

def ansPs (x : RepV) (v : Value) (b1 b2 : Nat) : List (PF × Addr) := [(.num x.s, ⟨b1, 0, none⟩), (.num x.q, ⟨b1, 1, none⟩), (.err x.e, ⟨b2, 0, none⟩), (.num x.a, ⟨b2, 1, none⟩), (.posts v x.ps, ⟨b2, 2, none⟩)]
theorem ansPs_pfs (x : RepV) (v : Value) (b1 b2 : Nat) : (ansPs x v b1 b2).map (·.1) = x.pfs v := rfl

/-- What 'PutAnswer' answers. -/
def PutAnsPost (x : RepV) (w : World) (e : Ending) (w' : World) : Prop :=
  match putAll (x.pfs .nilIface) with
  | some l => e = .returned (.tuple #[.string ⟨(65 :: l).toArray⟩, .int .i64 0]) ∧ Below w.heap.size w w'
  | none => e = .returned (.tuple #[.string ⟨#[]⟩, .int .i64 1]) ∧ Below w.heap.size w w'

theorem ans_puts {w : World} {x : RepV} {ua : Option Addr} {n uc b1 b2 g : Nat} {t1 t2 : TypeId} (hx : x.sized) (h1 : w.heap[b1]? = some (.cells x.idv t1)) (h2 : w.heap[b2]? = some (.cells (x.rv ua n uc) t2))
    (hh : w.heap[g]? = some (.cells #[ifc 88 b1 0, ifc 88 b1 1, ifc 83 b2 0, ifc 88 b2 1, ifc 92 b2 2] 20)) (hp : PostsAt w ua n uc x.ps) : PutFits0 (ansPs x (.slice ua n uc) b1 b2) g 0 w := by
  have hlt : g < w.heap.size := (Array.getElem?_eq_some_iff.1 hh).1
  refine ⟨?_, hlt, ?_, ?_, ?_⟩
  · intro i hi
    have hi' : i < 5 := hi
    have e1 : w.cell? ⟨g, 0 + i, none⟩ = (#[ifc 88 b1 0, ifc 88 b1 1, ifc 83 b2 0, ifc 88 b2 1, ifc 92 b2 2] : Array Value)[i]? := by simp [World.cell?, hh]
    rw [e1]
    match i, hi' with
    | 0, _ | 1, _ | 2, _ | 3, _ | 4, _ => rfl
    | n + 5, h => omega
  · intro y hy
    simp only [ansPs, List.mem_cons, List.not_mem_nil, or_false] at hy
    rcases hy with rfl | rfl | rfl | rfl | rfl
    · exact cell_of h1 rfl
    · exact cell_of h1 rfl
    · exact cell_of h2 rfl
    · exact cell_of h2 rfl
    · exact cell_of h2 rfl
  · intro y hy
    simp only [ansPs, List.mem_cons, List.not_mem_nil, or_false] at hy
    rcases hy with rfl | rfl | rfl | rfl | rfl
    · exact hx.s
    · exact hx.q
    · exact hx.e
    · exact hx.a
    · exact ⟨hx.n, hx.t⟩
  · intro y hy v ps e
    simp only [ansPs, List.mem_cons, List.not_mem_nil, or_false] at hy
    rcases hy with rfl | rfl | rfl | rfl | rfl <;> simp only [PF.posts.injEq, reduceCtorEq] at e
    obtain ⟨rfl, rfl⟩ := e
    exact hp.holds

theorem pfs_put (x : RepV) (v : Value) : putAll (x.pfs v) = putAll (x.pfs .nilIface) := rfl

/-- Behind 'answer': what lies where. -/
theorem ansP_start (x : RepV) (ua : Option Addr) (n uc : Nat) (w w1 : World) (hx : x.sized) (hp : PostsAt w ua n uc x.ps)
    (hw : (((w.alloc (.cells x.idv 23)).alloc (.cells (x.rv ua n uc) 31)).alloc (.cells #[ifc 88 w.heap.size 0, ifc 88 w.heap.size 1, ifc 83 (w.heap.size + 1) 0, ifc 88 (w.heap.size + 1) 1, ifc 92 (w.heap.size + 1) 2] 20)).drew = w1) :
    PutFits0 (ansPs x (.slice ua n uc) w.heap.size (w.heap.size + 1)) (w.heap.size + 2) 0 w1 ∧ Below w.heap.size w w1 := by
  subst hw
  have hb : Below w.heap.size w (((w.alloc (.cells x.idv 23)).alloc (.cells (x.rv ua n uc) 31)).alloc (.cells #[ifc 88 w.heap.size 0, ifc 88 w.heap.size 1, ifc 83 (w.heap.size + 1) 0, ifc 88 (w.heap.size + 1) 1, ifc 92 (w.heap.size + 1) 2] 20)).drew :=
    ((((Below.refl _ _).alloc (Nat.le_refl _) _).alloc (by simp) _).alloc (by simp; omega) _).drew
  refine ⟨ans_puts (t1 := 23) (t2 := 31) hx ?_ ?_ ?_ (hp.later hb), hb⟩
  · show (((w.alloc (.cells x.idv 23)).alloc (.cells (x.rv ua n uc) 31)).alloc _).heap[_]? = _
    rw [Below.heap_alloc _ _ _ (by simp; omega)]; exact heap_last2 w _ _ _ rfl
  · show (((w.alloc (.cells x.idv 23)).alloc (.cells (x.rv ua n uc) 31)).alloc _).heap[_]? = _
    exact heap_last2 _ _ _ _ (by simp)
  · exact heap_last ((w.alloc (.cells x.idv 23)).alloc (.cells (x.rv ua n uc) 31)) _ _ (by simp)

set_option maxRecDepth 100000 in
set_option maxHeartbeats 2000000 in
theorem putAns_any (x : RepV) (ua : Option Addr) (n uc : Nat) (w : World) (hx : x.sized) (hp : PostsAt w ua n uc x.ps) : Calls Try.prog 16 #[.agg x.idv, .agg (x.rv ua n uc)] w (PutAnsPost x w) := by
  have HS := Lib.hid (fun w1 => ansP_start x ua n uc w w1 hx hp)
  clear hx hp
  unfold RepV.idv RepV.rv at HS ⊢
  go_enter Try.func16, Try.ntmps16
  go_wp2_with (first
    | (go_at_call 26; refine (answer_any _ _ _ _ _).mono ?_; rintro e w1 ⟨rfl, hw⟩; have HW := Lib.hid hw; clear hw))
  obtain ⟨F, hbw⟩ := HS.out w1 HW.out
  refine (put_any mA (w.heap.size + 2) 0 5 (ansPs x (.slice ua n uc) w.heap.size (w.heap.size + 1)) w1 F (by decide) (by simp [ansPs])).mono ?_
  intro e w2 hq
  unfold PutPost at hq
  rw [ansPs_pfs, pfs_put] at hq
  clear F HS HW
  cases hpa : putAll (x.pfs .nilIface) with
  | none =>
    rw [hpa] at hq
    obtain ⟨rfl, hb⟩ := hq
    have HW := Lib.hid (hbw.trans (hb.mono hbw.size)); have HQ := Lib.hid hpa; clear hpa hb hbw
    go_wp2
    go_ret2
    unfold PutAnsPost
    rw [HQ.out]
    exact ⟨rfl, HW.out⟩
  | some l =>
    rw [hpa] at hq
    obtain ⟨rfl, hb⟩ := hq
    have HW := Lib.hid (hbw.trans (hb.mono hbw.size)); have HQ := Lib.hid hpa; clear hpa hb hbw
    go_wp2
    go_ret2
    unfold PutAnsPost
    rw [HQ.out]
    exact ⟨rfl, HW.out⟩

/-! ### the reference -/

def textsB (ps : List (ByteArray × ByteArray)) : List (Option (List UInt8)) := ps.flatMap fun p => [textB p.1, textB p.2]

theorem textsB_succ (ps : List (ByteArray × ByteArray)) (k : Nat) (h : k < ps.length) : textsB (ps.take (k + 1)) = textsB (ps.take k) ++ [textB ps[k].1, textB ps[k].2] := by
  unfold textsB
  rw [List.take_succ_eq_append_getElem h, List.flatMap_append]
  rfl

theorem allB_app (fs gs : List PF) : putAll (fs ++ gs) = (putAll fs).bind fun a => (putAll gs).map (a ++ ·) := by
  induction fs with
  | nil => simp [putAll, allB]
  | cons f fs ih =>
    unfold putAll at *
    rw [List.cons_append]
    cases hf : f.put with
    | none => rw [allB_none hf, allB_none hf]; rfl
    | some a =>
      rw [allB_some hf, allB_some hf, ih]
      cases allB PF.put fs with
      | none => rfl
      | some b => simp [Function.comp_def]

def txtPs (ps : List (ByteArray × ByteArray)) : List PF := ps.flatMap fun p => [.txt p.1, .txt p.2]

theorem txtPs_put : ∀ ps : List (ByteArray × ByteArray), putAll (txtPs ps) = allB pairB ps
  | [] => rfl
  | p :: ps => by
    have e : txtPs (p :: ps) = [.txt p.1, .txt p.2] ++ txtPs ps := rfl
    rw [e, allB_app, txtPs_put ps, pair_put]
    cases hp : pairB p with
    | none => rw [allB_none hp]; rfl
    | some a => rw [allB_some hp]; rfl

theorem txtPs_map : ∀ ps : List (ByteArray × ByteArray), (txtPs ps).map PF.put = textsB ps
  | [] => rfl
  | p :: ps => by
    have e : txtPs (p :: ps) = [.txt p.1, .txt p.2] ++ txtPs ps := rfl
    have e2 : textsB (p :: ps) = [textB p.1, textB p.2] ++ textsB ps := rfl
    rw [e, e2, List.map_append, txtPs_map ps]; rfl

def RepV.five (x : RepV) : List PF := [.num x.s, .num x.q, .err x.e, .num x.a, .num x.ps.length]

theorem RepV.wide (x : RepV) (h : x.ps.length ≤ 64) : putAll (x.pfs .nilIface) = putAll (x.five ++ txtPs x.ps) := by
  have e : x.pfs .nilIface = [.num x.s, .num x.q, .err x.e, .num x.a] ++ [.posts .nilIface x.ps] := rfl
  have e2 : x.five ++ txtPs x.ps = [.num x.s, .num x.q, .err x.e, .num x.a] ++ ([.num x.ps.length] ++ txtPs x.ps) := rfl
  rw [e, e2, allB_app, allB_app]
  congr 1
  funext a
  congr 1
  rw [allB_app, txtPs_put]
  have h1 : putAll [PF.posts .nilIface x.ps] = (allB pairB x.ps).map (putV x.ps.length ++ ·) := by
    unfold putAll
    rw [show [PF.posts .nilIface x.ps] = PF.posts .nilIface x.ps :: [] from rfl]
    cases hp : (PF.posts .nilIface x.ps).put with
    | none => rw [allB_none hp, ← PF.put_posts (v := .nilIface) h, hp]
    | some b => rw [allB_some hp, ← PF.put_posts (v := .nilIface) h, hp]; simp [allB]
  have h2 : putAll [PF.num x.ps.length] = some (putV x.ps.length) := by
    unfold putAll
    have : (PF.num x.ps.length).put = some (putV x.ps.length) := by show numB _ = _; unfold numB; rw [if_pos (by omega)]; rfl
    rw [allB_some this]; simp [allB]
  rw [h1, h2]
  rfl

theorem RepV.narrow (x : RepV) (h : ¬ x.ps.length ≤ 64) : putAll (x.pfs .nilIface) = none := by
  have e : x.pfs .nilIface = [.num x.s, .num x.q, .err x.e, .num x.a] ++ [.posts .nilIface x.ps] := rfl
  rw [e, allB_app]
  have h1 : putAll [PF.posts .nilIface x.ps] = none := by
    unfold putAll
    exact allB_none (by simp only [PF.put, if_neg h])
  rw [h1]
  cases putAll [PF.num x.s, PF.num x.q, PF.err x.e, PF.num x.a] <;> rfl

theorem five_fold (x : RepV) (y : List UInt8 × Bool) : foldB (x.five.map PF.put) y = stepB (numB x.ps.length) (stepB (numB x.a) (stepB (numB x.e) (stepB (numB x.q) (stepB (numB x.s) y)))) := by
  simp only [foldB, RepV.five, List.map_cons, List.map_nil, List.foldl_cons, List.foldl_nil, PF.put]

theorem round_fold (ps : List (ByteArray × ByteArray)) (k : Nat) (h : k < ps.length) (y : List UInt8 × Bool) : foldB (textsB (ps.take (k + 1))) y = stepB (textB ps[k].2) (stepB (textB ps[k].1) (foldB (textsB (ps.take k)) y)) := by
  rw [textsB_succ ps k h, foldB_app]
  simp only [foldB, List.foldl_cons, List.foldl_nil]

/-- Two new blocks, then a writer. -/
theorem out_start (w : World) (c1 c2 : Array Value) (t1 t2 : TypeId) (c : UInt8) :
    let W := (((w.alloc (.cells c1 t1)).alloc (.cells c2 t2)).alloc (.cells #[.int .u8 c.toNat] 5)).alloc (.cells #[.slice (some ⟨w.heap.size + 2, 0, none⟩) 1 1, .bool false] 73)
    OutC (w.heap.size + 2) (w.heap.size + 3) 1 ([c], false) W W ∧ W.heap[w.heap.size]? = some (.cells c1 t1) ∧ W.heap[w.heap.size + 1]? = some (.cells c2 t2) ∧ Below w.heap.size w W := by
  intro W
  have hs : ((w.alloc (.cells c1 t1)).alloc (.cells c2 t2)).heap.size = w.heap.size + 2 := by simp
  have C0 := out_new ((w.alloc (.cells c1 t1)).alloc (.cells c2 t2)) c
  rw [hs] at C0
  have hE : ∀ k o, ((w.alloc (.cells c1 t1)).alloc (.cells c2 t2)).heap[k]? = some o → W.heap[k]? = some o := fun k o hk => by
    have := (Array.getElem?_eq_some_iff.1 hk).1
    rw [Below.heap_alloc _ _ _ (by simp only [World.size_alloc]; simp only [World.size_alloc] at this; omega), Below.heap_alloc _ _ _ this]; exact hk
  exact ⟨C0, hE _ _ (heap_last2 w _ _ _ rfl), hE _ _ (heap_last _ _ _ (by simp)), ((((Below.refl _ _).alloc (Nat.le_refl _) _).alloc (by simp) _).alloc (by simp; omega) _).alloc (by simp; omega) _⟩

set_option maxRecDepth 100000 in
set_option maxHeartbeats 4000000 in
theorem refPutAns_long (x : RepV) (ua : Option Addr) (n uc : Nat) (w : World) (hp : PostsAt w ua n uc x.ps) (h64 : ¬ x.ps.length ≤ 64) : Calls Try.prog 17 #[.agg x.idv, .agg (x.rv ua n uc)] w (PutAnsPost x w) := by
  have HN := Lib.hid (x.narrow h64)
  have hn := hp.1
  have hlt : (64 : Int) < (n : Int) := by omega
  clear hp h64 hn
  unfold RepV.idv RepV.rv
  go_enter Try.func17, Try.ntmps17
  go_wp2
  go_ret2
  unfold PutAnsPost
  rw [HN.out]
  exact ⟨rfl, ((Below.refl _ _).alloc (Nat.le_refl _) _).alloc (by simp) _⟩

theorem posts_in {w W wr : World} {ua : Option Addr} {n uc B : Nat} {ps : List (ByteArray × ByteArray)} (hp : PostsAt w ua n uc ps) (hL : Below w.heap.size w W) (hB : w.heap.size ≤ B) (hF : Below B W wr) (k : Nat) (h : k < ps.length) :
    ∃ g o, ua = some ⟨g, o, none⟩ ∧ wr.cell? ⟨g, o + k * 2, none⟩ = some (.string ps[k].1) ∧ wr.cell? ⟨g, o + k * 2 + 1, none⟩ = some (.string ps[k].2) := by
  obtain ⟨_, _, hc⟩ := hp
  obtain ⟨g, o, ho, hg, c1, c2⟩ := hc k h
  have hb : Below w.heap.size w wr := hL.trans (hF.mono hB)
  exact ⟨g, o, ho, (hb.cell (p := ⟨g, _, none⟩) hg).trans c1, (hb.cell (p := ⟨g, _, none⟩) hg).trans c2⟩

theorem addr_fix {a : Option Addr} {g o g2 o2 : Nat} (h : a = some ⟨g, o, none⟩) (h2 : a = some ⟨g2, o2, none⟩) : g2 = g ∧ o2 = o := by
  rw [h] at h2
  simp only [Option.some.injEq, Addr.mk.injEq, and_true] at h2
  exact ⟨h2.1.symm, h2.2.symm⟩

set_option maxRecDepth 100000 in
set_option maxHeartbeats 4000000 in
theorem refPutAns_short (x : RepV) (ua : Option Addr) (n uc : Nat) (w : World) (hx : x.sized) (hp : PostsAt w ua n uc x.ps) (h64 : x.ps.length ≤ 64) : Calls Try.prog 17 #[.agg x.idv, .agg (x.rv ua n uc)] w (PutAnsPost x w) := by
  obtain ⟨C0, HI, HO, HL⟩ := out_start w x.idv (x.rv ua n uc) 23 31 65
  have hfold := foldB_put (x.five ++ txtPs x.ps) [65]
  rw [List.map_append, foldB_app, five_fold, txtPs_map] at hfold
  have HP := Lib.hid hfold
  have HW := Lib.hid (x.wide h64)
  obtain rfl := hp.1
  have HPA := Lib.hid hp
  have HI := Lib.hid HI; have HO := Lib.hid HO; have HL := Lib.hid HL; have C0 := Lib.hid C0; have HS := Lib.hid hx
  have hle : (x.ps.length : Int) ≤ 64 := by omega
  clear hfold hp hx
  unfold RepV.idv RepV.rv at C0 HI HO HL ⊢
  have q0 := cell_of (i := 0) (C0.out.box HI.out (by omega) (by decide)) rfl
  have r0 := cell_of (i := 2) HO.out rfl
  go_enter Try.func17, Try.ntmps17
  go_wp2_with fail
  refine (OutC.num C0.out x.s (by omega) HS.out.s).mono ?_
  rintro o w1 ⟨rfl, hq⟩
  have C1 := Lib.hid hq
  clear hq C0 q0 r0
  have q1 := cell_of (i := 1) (C1.out.box HI.out (by omega) (by decide)) rfl
  go_wp2_with fail
  refine (OutC.num C1.out x.q (by omega) HS.out.q).mono ?_
  rintro o w2 ⟨rfl, hq⟩
  have C2 := Lib.hid hq
  clear hq C1 q1
  have q2 := cell_of (i := 0) (C2.out.box HO.out (by omega) (by decide)) rfl
  go_wp2_with fail
  refine (OutC.num C2.out x.e (by omega) HS.out.e).mono ?_
  rintro o w3 ⟨rfl, hq⟩
  have C3 := Lib.hid hq
  clear hq C2 q2
  have q3 := cell_of (i := 1) (C3.out.box HO.out (by omega) (by decide)) rfl
  go_wp2_with fail
  refine (OutC.num C3.out x.a (by omega) HS.out.a).mono ?_
  rintro o w4 ⟨rfl, hq⟩
  have C4 := Lib.hid hq
  clear hq C3 q3
  have q4 := cell_of (i := 2) (C4.out.box HO.out (by omega) (by decide)) rfl
  go_wp2_with fail
  refine (OutC.num C4.out (x.ps.length : Int) (by omega) (by omega)).mono ?_
  rintro o w5 ⟨rfl, hq⟩
  have K := And.intro hq HP.out
  generalize stepB (numB (x.ps.length : Int)) (stepB (numB x.a) (stepB (numB x.e) (stepB (numB x.q) (stepB (numB x.s) ([65], false))))) = y at K
  obtain ⟨k5, kp⟩ := K
  have C5 := Lib.hid k5
  have HP2 := Lib.hid kp
  clear hq C4 q4 k5 kp HP HI
  have q5 := cell_of (i := 2) (C5.out.box HO.out (by omega) (by decide)) rfl
  go_wp2_with fail
  go_loopw [7] (fun i wr => ∃ k : Nat, k ≤ x.ps.length ∧ i = .int .i64 k ∧ Hid (OutC (w.heap.size + 2) (w.heap.size + 3) (1400000 + k * 524306) (foldB (textsB (x.ps.take k)) y) ((((w.alloc (.cells #[.int .i64 x.s, .int .i64 x.q] 23)).alloc (.cells #[.int .i64 x.e, .int .i64 x.a, .slice ua x.ps.length uc] 31)).alloc (.cells #[.int .u8 (65 : UInt8).toNat] 5)).alloc (.cells #[.slice (some ⟨w.heap.size + 2, 0, none⟩) 1 1, .bool false] 73)) wr)) (fun i _ => x.ps.length - (intOf i).toNat)
  case atStart => exact ⟨0, by omega, rfl, Lib.hid ⟨C5.out.out, by have := C5.out.len; show y.1.length ≤ _; omega, C5.out.fr, C5.out.le⟩⟩
  case round =>
    clear C5 q5
    obtain ⟨k, hk, rfl, C⟩ := hrel
    have qo := cell_of (i := 2) (C.out.box HO.out (by omega) (by decide)) rfl
    by_cases hlt : k < x.ps.length
    · obtain ⟨g, o, hua, d1, d2⟩ := posts_in HPA.out HL.out (by omega) C.out.fr.1 k hlt
      have HD2 := Lib.hid (fun wr hF => posts_in (wr := wr) HPA.out HL.out (Nat.le_add_right _ 2) hF k hlt)
      subst hua
      have hz := HS.out.t _ (List.getElem_mem hlt)
      have HZ := Lib.hid hz
      have HR := Lib.hid (round_fold x.ps k hlt y)
      have hkn : (k : Int) < (x.ps.length : Int) := by omega
      clear hz
      generalize x.ps[k] = p at *
      obtain ⟨t1, t2⟩ := p
      clear d2
      go_wp2_with fail
      refine (OutC.text C.out t1 (by omega) HZ.out.1).mono ?_
      rintro o1 w6 ⟨rfl, hq⟩
      have D := Lib.hid hq
      clear hq C qo d1
      have qo := cell_of (i := 2) (D.out.box HO.out (by omega) (by decide)) rfl
      obtain ⟨g2, o2, hua, _, d2⟩ := HD2.out _ D.out.fr.1
      obtain ⟨rfl, rfl⟩ := addr_fix rfl hua
      go_wp2_with fail
      refine (OutC.text D.out t2 (by omega) HZ.out.2).mono ?_
      rintro o1 w7 ⟨rfl, hq⟩
      have E := Lib.hid hq
      clear hq D qo d2 hua
      go_wp2_with fail
      refine ⟨⟨k + 1, by omega, by go_num, Lib.hid ?_⟩, by simp [intOf]; omega⟩
      have hE := E.out
      rw [← HR.out] at hE
      exact ⟨hE.out, by have := hE.len; omega, hE.fr, hE.le⟩
    · obtain rfl : k = x.ps.length := by omega
      have HC := C.out
      rw [List.take_length] at HC
      have C := Lib.hid HC
      clear hlt hk HC
      go_wp2_with fail
      refine (outEnds _ _ _ _ _ C.out.out).mono ?_
      rintro o w8 ⟨rfl, rfl⟩
      have HB := Lib.hid (HL.out.trans (C.out.fr.1.mono (by omega)))
      have hP := HP2.out
      rw [← HW.out] at hP
      generalize foldB (textsB x.ps) y = z at *
      clear HP2 C HO HL HW
      cases hp : putAll (x.pfs .nilIface) with
      | none =>
        rw [hp] at hP
        simp only at hP
        rw [hP]
        have HQ := Lib.hid hp
        clear hP hp
        go_wp2_with fail
        go_ret2
        unfold PutAnsPost
        rw [HQ.out]
        exact ⟨rfl, HB.out⟩
      | some l =>
        rw [hp] at hP
        simp only at hP
        rw [hP]
        have HQ := Lib.hid hp
        clear hP hp
        go_wp2_with fail
        go_ret2
        unfold PutAnsPost
        rw [HQ.out]
        exact ⟨rfl, HB.out⟩
end Go.Proofs.Ytibmaeckmnkmjaa
