/- The statement's walk: nothing is one of two kinds. -/
import Derived.Test.YtibmaeckmnkmjaaC5
import Derived.Test.YtibmaeckmnkmjaaL2
namespace Go.Proofs.Ytibmaeckmnkmjaa
open Go.RowKit

/-- A store into a new block. -/
theorem wpList_one {P : Program} {ops : Array Oper} {rest : List Oper} {o : Oper} {a : Act} {w : World} {Q : Exit → Act → World → Prop} {p : World → Prop} {z1 : Array Value} {t1 : TypeId} {n : Nat}
    (hgd : o.guard = none) (ty : TypeId) (x y : Operand) (ho : o.op = .store ty x y) (c1 : Array Value) (hn : w.heap.size = n) (hx : a.eval x = .pointer (some ⟨n, 0, none⟩)) (hy : a.eval y = .agg c1)
    (hi : (P.info? ty).map (·.size) = some c1.size) (hold : z1.size = c1.size) (h1 : c1.all (·.oneCell') = true) (hp : Ever w p)
    (h : ∀ W, Hid (Ever W p) → wpList P ops Q rest (a.put o.dst undef) W) :
    wpList P ops Q (o :: rest) a (w.alloc (.cells z1 t1)) := by
  refine wpList_store_row hgd ty x y ho n c1 hx hy t1 z1 (heap_last _ _ _ hn) hi hold h1 (h _ (Lib.hid (hp.later ?_)))
  exact below_setRow ((Below.refl _ _).alloc (Nat.le_refl _) _) (by omega) _

theorem mark_head {c : UInt8} {ks : List GK} {S : ByteArray} {fvs : List FV} (h : fromG ⟨#[c]⟩ ks S = some fvs) : S.data.toList.head? = some c := by
  by_cases hc : S.data.toList.head? = some c
  · exact hc
  · unfold fromG at h; rw [take1_no hc] at h; simp at h

def CmdK (er : Int) (w : World) (e : Ending) (w' : World) : Prop := ∃ arr : Array Value, e = .returned (.tuple #[.agg arr, .int .i64 er]) ∧ arr.size = 20 ∧ arr.all (·.oneCell') = true ∧ Below w.heap.size w w'
def MsgK (er : Int) (w : World) (e : Ending) (w' : World) : Prop := ∃ arr : Array Value, e = .returned (.tuple #[.agg arr, .int .i64 er]) ∧ arr.size = 11 ∧ arr.all (·.oneCell') = true ∧ Below w.heap.size w w'
def AskK (er : Int) (w : World) (e : Ending) (w' : World) : Prop := ∃ x : AskV, e = .returned (.tuple #[.agg x.idv, .agg x.opv, .int .i64 er]) ∧ Below w.heap.size w w'
def AnsK (er : Int) (w : World) (e : Ending) (w' : World) : Prop := ∃ (s q r a : Int) (n : Nat) (ua : Option Addr) (uc : Nat), e = .returned (.tuple #[.agg #[.int .i64 s, .int .i64 q], .agg #[.int .i64 r, .int .i64 a, .slice ua n uc], .int .i64 er]) ∧ Below w.heap.size w w'

theorem cmd_shape {m s : ByteArray} {fvs : List FV} (h : fromG m cmdKs s = some fvs) : ∃ x : CmdV, fvs = x.fvs := by
  obtain ⟨s1, r, ht⟩ := fromG_inv h
  obtain ⟨n0, _, _, rfl, h0⟩ := num_inv ht
  obtain ⟨n1, _, _, rfl, h1⟩ := num_inv h0
  obtain ⟨n2, _, _, rfl, h2⟩ := num_inv h1
  obtain ⟨n3, _, _, rfl, h3⟩ := num_inv h2
  obtain ⟨n4, _, _, rfl, h4⟩ := num_inv h3
  obtain ⟨n5, _, _, rfl, h5⟩ := num_inv h4
  obtain ⟨n6, _, _, rfl, h6⟩ := num_inv h5
  obtain ⟨n7, _, _, rfl, h7⟩ := num_inv h6
  obtain ⟨b8, _, _, rfl, h8⟩ := tru_inv h7
  obtain ⟨n9, _, _, rfl, h9⟩ := err_inv h8
  have h9' : takeAllG (opKs ++ [.flat .txt]) _ = _ := h9
  obtain ⟨k, a, b, c, d, e, f, m, n, r1, fvs', rfl, hb⟩ := opKs_inv h9'
  obtain ⟨t, _, _, rfl, hc⟩ := txt_inv hb
  simp only [takeAllG, Option.some.injEq, Prod.mk.injEq] at hc
  rw [← hc.1]
  exact ⟨{ kd := n0, s := n1, q := n2, tx := n3, pl := n4, sl := n5, ep := n6, gr := n7, ok := b8, er := n9, k := k, a := a, b := b, c := c, d := d, e := e, f := f, m := m, n := n, dt := t }, rfl⟩

theorem cmd_kind (S : ByteArray) (hS : S.size ≤ maxLen) : (∀ w, Calls Try.prog 18 #[.string S] w (CmdK 140 w)) ∨ (S.data.toList.head? = some 67 ∧ ∀ w, Calls Try.prog 18 #[.string S] w (CmdK 0 w)) := by
  cases h : fromG mC cmdKs S with
  | none => exact Or.inl fun w => (fromCmd_none S w hS h).mono fun e w' he => ⟨_, he.1, rfl, zeroCmd_one, he.2⟩
  | some fvs =>
    obtain ⟨x, rfl⟩ := cmd_shape h
    exact Or.inr ⟨mark_head h, fun w => (fromCmd_some S w x hS h).mono fun e w' he => ⟨_, he.1, rfl, arr_one x, he.2⟩⟩
theorem msg_kind (S : ByteArray) (hS : S.size ≤ maxLen) : (∀ w, Calls Try.prog 19 #[.string S] w (MsgK 140 w)) ∨ (S.data.toList.head? = some 77 ∧ ∀ w, Calls Try.prog 19 #[.string S] w (MsgK 0 w)) := by
  cases h : fromG mM msgKs S with
  | none => exact Or.inl fun w => (fromMsg_none S w hS h).mono fun e w' he => ⟨_, he.1, rfl, zeroMsg_one, he.2⟩
  | some fvs =>
    obtain ⟨x, rfl⟩ := msg_shape h
    exact Or.inr ⟨mark_head h, fun w => (fromMsg_some S w x hS h).mono fun e w' ⟨ua, uc, he, hb⟩ => ⟨_, he, rfl, x.arr_one ua uc, hb⟩⟩
theorem ask_kind (S : ByteArray) (hS : S.size ≤ maxLen) : (∀ w, Calls Try.prog 6 #[.string S] w (AskK 140 w)) ∨ (S.data.toList.head? = some 81 ∧ ∀ w, Calls Try.prog 6 #[.string S] w (AskK 0 w)) := by
  cases h : fromG mQ askKs S with
  | none => exact Or.inl fun w => (fromAsk_none S w hS h).mono fun e w' he => ⟨⟨0, 0, 0, ⟨#[]⟩, ⟨#[]⟩, ⟨#[]⟩, ⟨#[]⟩, ⟨#[]⟩, ⟨#[]⟩, 0, 0⟩, he.1, he.2⟩
  | some fvs =>
    obtain ⟨x, rfl⟩ := ask_shape h
    exact Or.inr ⟨mark_head h, fun w => (fromAsk_some S w x hS h).mono fun e w' he => ⟨x, he.1, he.2⟩⟩
theorem ans_kind (S : ByteArray) (hS : S.size ≤ maxLen) : (∀ w, Calls Try.prog 8 #[.string S] w (AnsK 140 w)) ∨ (S.data.toList.head? = some 65 ∧ ∀ w, Calls Try.prog 8 #[.string S] w (AnsK 0 w)) := by
  cases h : fromG mA ansKs S with
  | none => exact Or.inl fun w => (fromAnswer_none S w hS h).mono fun e w' he => ⟨0, 0, 0, 0, 0, none, 0, he.1, he.2⟩
  | some fvs =>
    obtain ⟨x, rfl⟩ := ans_shape h
    exact Or.inr ⟨mark_head h, fun w => (fromAnswer_some S w x hS h).mono fun e w' ⟨ua, uc, he, hb, _⟩ => ⟨_, _, _, _, _, ua, uc, he, hb⟩⟩

set_option maxRecDepth 100000 in
set_option maxHeartbeats 4000000 in
theorem kinds_walk (S : ByteArray) (w : World) (e1 e2 e3 e4 : Int)
    (hA : ∀ w, Calls Try.prog 18 #[.string S] w (CmdK e1 w)) (hB : ∀ w, Calls Try.prog 19 #[.string S] w (MsgK e2 w)) (hC : ∀ w, Calls Try.prog 6 #[.string S] w (AskK e3 w)) (hD : ∀ w, Calls Try.prog 8 #[.string S] w (AnsK e4 w))
    (he : e1 = 140 ∧ e2 = 140 ∧ e3 = 140 ∧ e4 = 140 ∨ e1 = 0 ∧ e2 = 140 ∧ e3 = 140 ∧ e4 = 140 ∨ e1 = 140 ∧ e2 = 0 ∧ e3 = 140 ∧ e4 = 140 ∨ e1 = 140 ∧ e2 = 140 ∧ e3 = 0 ∧ e4 = 140 ∨ e1 = 140 ∧ e2 = 140 ∧ e3 = 140 ∧ e4 = 0) :
    Calls Try.prog 5 #[.string S] w fun e w' => e = .returned (.bool true) ∧ Below w.heap.size w w' := by
  have HA := Lib.hid hA; have HB := Lib.hid hB; have HC := Lib.hid hC; have HD := Lib.hid hD
  clear hA hB hC hD
  have E0 := Lib.hid (Ever.start w)
  rcases he with ⟨rfl, rfl, rfl, rfl⟩ | ⟨rfl, rfl, rfl, rfl⟩ | ⟨rfl, rfl, rfl, rfl⟩ | ⟨rfl, rfl, rfl, rfl⟩ | ⟨rfl, rfl, rfl, rfl⟩
  all_goals
    go_enter Try.func5, Try.ntmps5
    go_wp2_with fail
    refine (HA.out _).mono ?_
    rintro o w1 ⟨ar1, rfl, hs1, ho1, hb⟩
    have E1 := Lib.hid (E0.out.later hb)
    have HS1 := Lib.hid hs1; have HO1 := Lib.hid ho1
    clear hb hs1 ho1 E0
    go_wp2_with (first | ((with_reducible refine wpList_selS 4 ?_); refine wpList_one (z1 := zeroCmd) rfl 45 (.tmp 4) (.tmp 17) rfl ar1 rfl rfl rfl (by rw [HS1.out]; exact info45) (by rw [HS1.out]; rfl) HO1.out E1.out ?_; intro w2 E2; clear E1))
    refine (HB.out _).mono ?_
    rintro o w3 ⟨ar3, rfl, hs3, ho3, hb⟩
    have E3 := Lib.hid (E2.out.later hb)
    have HS3 := Lib.hid hs3; have HO3 := Lib.hid ho3
    clear hb hs3 ho3 E2
    go_wp2_with (first | ((with_reducible refine wpList_selS 6 ?_); refine wpList_one (z1 := zeroMsg) rfl 50 (.tmp 6) (.tmp 26) rfl ar3 rfl rfl rfl (by rw [HS3.out]; exact info50) (by rw [HS3.out]; rfl) HO3.out E3.out ?_; intro w4 E4; clear E3))
    refine (HC.out _).mono ?_
    rintro o w5 ⟨x, rfl, hb⟩
    have E5 := Lib.hid (E4.out.later hb)
    clear hb E4
    unfold AskV.idv AskV.opv
    go_wp2_with (first
      | ((with_reducible refine wpList_selS 8 ?_); refine wpList_store_row rfl 23 (.tmp 8) (.tmp 35) rfl w5.heap.size #[.int .i64 x.s, .int .i64 x.q] rfl rfl 23 zeroId (heap_last2 w5 _ _ _ rfl) info23 rfl (by simp [Value.oneCell']) ?_)
      | ((with_reducible refine wpList_selS 9 ?_); refine wpList_two rfl 25 (.tmp 9) (.tmp 36) rfl #[.int .i64 x.k, .string x.a, .string x.b, .string x.c, .string x.d, .string x.e, .string x.f, .int .i64 x.m, .int .i64 x.n] rfl rfl rfl info25 rfl (by simp [Value.oneCell']) E5.out ?_; intro w6 E6; clear E5))
    refine (HD.out _).mono ?_
    rintro o w7 ⟨s, q, r, a, n, ua, uc, rfl, hb⟩
    have E7 := Lib.hid (E6.out.later hb)
    clear hb E6
    go_wp2_with (first
      | ((with_reducible refine wpList_selS 11 ?_); refine wpList_store_row rfl 23 (.tmp 11) (.tmp 45) rfl w7.heap.size #[.int .i64 s, .int .i64 q] rfl rfl 23 zeroId (heap_last2 w7 _ _ _ rfl) info23 rfl (by simp [Value.oneCell']) ?_)
      | ((with_reducible refine wpList_selS 12 ?_); refine wpList_two rfl 31 (.tmp 12) (.tmp 46) rfl #[.int .i64 r, .int .i64 a, .slice ua n uc] rfl rfl rfl info31 rfl (by simp [Value.oneCell']) E7.out ?_; intro w8 E8; clear E7)
      | (go_at_call 11; refine (awake_any _).mono ?_; rintro o w9 ⟨rfl, hb⟩; have E9 := Lib.hid (E8.out.later hb); clear hb E8))
    go_ret
    exact ⟨rfl, E9.out.now.1.1⟩

theorem kinds_any (S : ByteArray) (w : World) (hS : S.size ≤ maxLen) : Calls Try.prog 5 #[.string S] w fun e w' => e = .returned (.bool true) ∧ Below w.heap.size w w' := by
  rcases cmd_kind S hS with hA | ⟨mA, hA⟩
  · rcases msg_kind S hS with hB | ⟨mB, hB⟩
    · rcases ask_kind S hS with hC | ⟨mC, hC⟩
      · rcases ans_kind S hS with hD | ⟨mD, hD⟩
        · exact kinds_walk S w _ _ _ _ hA hB hC hD (by simp)
        · exact kinds_walk S w _ _ _ _ hA hB hC hD (by simp)
      · rcases ans_kind S hS with hD | ⟨mD, hD⟩
        · exact kinds_walk S w _ _ _ _ hA hB hC hD (by simp)
        · rw [mC] at mD; simp at mD
    · rcases ask_kind S hS with hC | ⟨mC, hC⟩
      · rcases ans_kind S hS with hD | ⟨mD, hD⟩
        · exact kinds_walk S w _ _ _ _ hA hB hC hD (by simp)
        · rw [mB] at mD; simp at mD
      · rw [mB] at mC; simp at mC
  · rcases msg_kind S hS with hB | ⟨mB, hB⟩
    · rcases ask_kind S hS with hC | ⟨mC, hC⟩
      · rcases ans_kind S hS with hD | ⟨mD, hD⟩
        · exact kinds_walk S w _ _ _ _ hA hB hC hD (by simp)
        · rw [mA] at mD; simp at mD
      · rw [mA] at mC; simp at mC
    · rw [mA] at mB; simp at mB
end Go.Proofs.Ytibmaeckmnkmjaa
