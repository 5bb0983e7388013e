/- The statement's walk: what is asked, and answered, as bytes, and back. -/
import Derived.Test.YtibmaeckmnkmjaaL4
namespace Go.Proofs.Ytibmaeckmnkmjaa
open Go.RowKit

theorem idv_ne (a b : Int) (w : World) : (binOp .neq 23 (.agg #[.int .i64 a, .int .i64 b]) (.agg #[.int .i64 a, .int .i64 b])).run Try.prog w = .ok (.bool false) w := by
  simp [go_sem, Try.underlying23]
theorem opv_ne (k : Int) (a b c d e f : ByteArray) (m n : Int) (w : World) : (binOp .neq 25 (.agg #[.int .i64 k, .string a, .string b, .string c, .string d, .string e, .string f, .int .i64 m, .int .i64 n]) (.agg #[.int .i64 k, .string a, .string b, .string c, .string d, .string e, .string f, .int .i64 m, .int .i64 n])).run Try.prog w = .ok (.bool false) w := by
  simp [go_sem, Try.underlying25]
theorem neq_guard (t : TypeId) (ht : Try.prog.eqGuardType Try.prog.depth t = false) (x y : Operand) (u v : Array Value) (w : World) : (eqGuard .neq t x y (.agg u) (.agg v)).run Try.prog w = .ok () w :=
  run_eqGuard_agg w _ _ _ _ _ _ ht
theorem guard23 : Try.prog.eqGuardType Try.prog.depth 23 = false := by kernel_rfl
theorem guard25 : Try.prog.eqGuardType Try.prog.depth 25 = false := by kernel_rfl

/-- The three arguments in their boxes, the posts where they were. -/
def Args (w : World) (x : AskV) (e a : Int) (ua : Option Addr) (n uc : Nat) (ps : List (ByteArray × ByteArray)) (W : World) : Prop :=
  Below w.heap.size w W ∧ W.heap[w.heap.size]? = some (.cells x.idv 23) ∧ W.heap[w.heap.size + 1]? = some (.cells x.opv 25) ∧ W.heap[w.heap.size + 1 + 1]? = some (.cells #[.int .i64 e, .int .i64 a, .slice ua n uc] 31) ∧ PostsAt W ua n uc ps

theorem args_start (w : World) (x : AskV) (e a : Int) (ua : Option Addr) (n uc : Nat) (ps : List (ByteArray × ByteArray)) (hp : PostsAt w ua n uc ps) :
    Ever (((w.alloc (.cells x.idv 23)).alloc (.cells x.opv 25)).alloc (.cells #[.int .i64 e, .int .i64 a, .slice ua n uc] 31)) (Args w x e a ua n uc ps) := by
  have hb : Below w.heap.size w (((w.alloc (.cells x.idv 23)).alloc (.cells x.opv 25)).alloc (.cells #[.int .i64 e, .int .i64 a, .slice ua n uc] 31)) := (((Below.refl _ _).alloc (Nat.le_refl _) _).alloc (by simp) _).alloc (by simp; omega) _
  intro W hW
  have hW' : Below (w.heap.size + 3) (((w.alloc (.cells x.idv 23)).alloc (.cells x.opv 25)).alloc (.cells #[.int .i64 e, .int .i64 a, .slice ua n uc] 31)) W := hW.mono (by simp)
  refine ⟨hb.trans (hW'.mono (by omega)), ?_, ?_, ?_, hp.later (hb.trans (hW'.mono (by omega)))⟩
  · rw [hW'.block _ (by omega), Below.heap_alloc _ _ _ (by simp; omega)]; exact heap_last2 w _ _ _ rfl
  · rw [hW'.block _ (by omega)]; exact heap_last2 _ _ _ _ (by simp)
  · rw [hW'.block _ (by omega)]; exact heap_last _ _ _ (by simp)

theorem Args.id {w W : World} {x : AskV} {e a : Int} {ua : Option Addr} {n uc : Nat} {ps : List (ByteArray × ByteArray)} (h : Args w x e a ua n uc ps W) : W.heap[w.heap.size]? = some (.cells #[.int .i64 x.s, .int .i64 x.q] 23) := h.2.1
theorem Args.op {w W : World} {x : AskV} {e a : Int} {ua : Option Addr} {n uc : Nat} {ps : List (ByteArray × ByteArray)} (h : Args w x e a ua n uc ps W) : W.heap[w.heap.size + 1]? = some (.cells #[.int .i64 x.k, .string x.a, .string x.b, .string x.c, .string x.d, .string x.e, .string x.f, .int .i64 x.m, .int .i64 x.n] 25) := h.2.2.1
theorem Args.rep {w W : World} {x : AskV} {e a : Int} {ua : Option Addr} {n uc : Nat} {ps : List (ByteArray × ByteArray)} (h : Args w x e a ua n uc ps W) : W.heap[w.heap.size + 1 + 1]? = some (.cells #[.int .i64 e, .int .i64 a, .slice ua n uc] 31) := h.2.2.2.1
theorem Args.posts {w W : World} {x : AskV} {e a : Int} {ua : Option Addr} {n uc : Nat} {ps : List (ByteArray × ByteArray)} (h : Args w x e a ua n uc ps W) : PostsAt W ua n uc ps := h.2.2.2.2
theorem Args.below {w W : World} {x : AskV} {e a : Int} {ua : Option Addr} {n uc : Nat} {ps : List (ByteArray × ByteArray)} (h : Args w x e a ua n uc ps W) : Below w.heap.size w W := h.1

set_option maxRecDepth 100000 in
set_option maxHeartbeats 20000000 in
theorem asks_nn (x : AskV) (e a : Int) (ua : Option Addr) (n uc : Nat) (ps : List (ByteArray × ByteArray)) (w : World) (hx : x.a.size ≤ maxLen ∧ x.b.size ≤ maxLen ∧ x.c.size ≤ maxLen ∧ x.d.size ≤ maxLen ∧ x.e.size ≤ maxLen ∧ x.f.size ≤ maxLen)
    (hps : ∀ p ∈ ps, p.1.size ≤ maxLen ∧ p.2.size ≤ maxLen) (hp : PostsAt w ua n uc ps) (hn : n ≤ 9223372036854775807) (h14 : ∀ w, Calls Try.prog 14 #[.agg x.idv, .agg x.opv] w (StrRet ⟨#[]⟩ 1 w)) (h15 : ∀ w, Calls Try.prog 15 #[.agg x.idv, .agg x.opv] w (StrRet ⟨#[]⟩ 1 w)) (h16 : ∀ w, PostsAt w ua n uc ps → Calls Try.prog 16 #[.agg x.idv, .agg #[.int .i64 e, .int .i64 a, .slice ua n uc]] w (StrRet ⟨#[]⟩ 1 w)) (h17 : ∀ w, PostsAt w ua n uc ps → Calls Try.prog 17 #[.agg x.idv, .agg #[.int .i64 e, .int .i64 a, .slice ua n uc]] w (StrRet ⟨#[]⟩ 1 w)) :
    Calls Try.prog 4 #[.agg x.idv, .agg x.opv, .agg #[.int .i64 e, .int .i64 a, .slice ua n uc]] w fun o w' => o = .returned (.bool true) ∧ Below w.heap.size w w' := by
  have E0 := Lib.hid (args_start w x e a ua n uc ps hp)
  have HNL := Lib.hid hp.1
  have HX := Lib.hid (fun w => short_any x w hx); have HPS := Lib.hid hps
  have H14 := Lib.hid h14; have H15 := Lib.hid h15; have H16 := Lib.hid h16; have H17 := Lib.hid h17
  clear hx hps hp h14 h15 h16 h17
  unfold AskV.idv AskV.opv at *
  go_enter Try.func4, Try.ntmps4
  go_wp2_with fail
  go_loop [7] (fun i => ∃ k : Nat, k ≤ n ∧ i = .int .i64 k) (fun i => n - (intOf i).toNat)
  case atStart => exact ⟨0, by omega, rfl⟩
  case round =>
    obtain ⟨k, hk, rfl⟩ := hrel
    have r2 := cell_of (i := 2) E0.out.now.rep rfl
    by_cases hlt : k < n
    · obtain ⟨g, o, hua, d1, d2⟩ := E0.out.now.posts.at k (by rw [← HNL.out]; exact hlt)
      subst hua
      have HZ := Lib.hid (HPS.out _ (List.getElem_mem (show k < ps.length by rw [← HNL.out]; exact hlt)))
      have hkn : (k : Int) < (n : Int) := by omega
      clear HPS
      generalize ps[k]'(by rw [← HNL.out]; exact hlt) = p at *
      obtain ⟨t1, t2⟩ := p
      clear HX H14 H15 H16 H17
      cases h1 : lightB t1.size with
      | false =>
        have H1 := Lib.hid h1; clear h1
        go_wp2_with fail
        refine (light_to t1 false _ HZ.out.1 H1).mono ?_
        rintro o w' ⟨rfl, rfl⟩
        go_wp2_with fail
        refine (awake_any _).mono ?_
        rintro o w1 ⟨rfl, hb⟩
        have E1 := Lib.hid (E0.out.later hb)
        clear hb E0
        go_wp2_with fail
        go_ret
        exact ⟨rfl, E1.out.now.below⟩
      | true =>
        have H1 := Lib.hid h1; clear h1
        cases h2 : lightB t2.size with
        | false =>
          have H2 := Lib.hid h2; clear h2
          go_wp2_with fail
          refine (light_to t1 true _ HZ.out.1 H1).mono ?_
          rintro o w' ⟨rfl, rfl⟩
          go_wp2_with fail
          refine (light_to t2 false _ HZ.out.2 H2).mono ?_
          rintro o w' ⟨rfl, rfl⟩
          go_wp2_with fail
          refine (awake_any _).mono ?_
          rintro o w1 ⟨rfl, hb⟩
          have E1 := Lib.hid (E0.out.later hb)
          clear hb E0
          go_wp2_with fail
          go_ret
          exact ⟨rfl, E1.out.now.below⟩
        | true =>
          have H2 := Lib.hid h2; clear h2
          by_cases h70 : (70 : Int) < (k : Int)
          · go_wp2_with fail
            refine (light_to t1 true _ HZ.out.1 H1).mono ?_
            rintro o w' ⟨rfl, rfl⟩
            go_wp2_with fail
            refine (light_to t2 true _ HZ.out.2 H2).mono ?_
            rintro o w' ⟨rfl, rfl⟩
            go_wp2_with fail
            refine (awake_any _).mono ?_
            rintro o w1 ⟨rfl, hb⟩
            have E1 := Lib.hid (E0.out.later hb)
            clear hb E0
            go_wp2_with fail
            go_ret
            exact ⟨rfl, E1.out.now.below⟩
          · go_wp2_with fail
            refine (light_to t1 true _ HZ.out.1 H1).mono ?_
            rintro o w' ⟨rfl, rfl⟩
            go_wp2_with fail
            refine (light_to t2 true _ HZ.out.2 H2).mono ?_
            rintro o w' ⟨rfl, rfl⟩
            go_wp2_with fail
            go_round
            case rel => exact ⟨k + 1, by omega, by go_num⟩
            case measure => simp [intOf]; omega
    · obtain rfl : n = k := by omega
      clear hlt hk HPS
      go_wp2_with (first | ((with_reducible refine wpList_sel 52 ?_); refine wpList_load_want (by rfl) 25 (.tmp 4) rfl (w.heap.size + 1) rfl 25 #[.int .i64 x.k, .string x.a, .string x.b, .string x.c, .string x.d, .string x.e, .string x.f, .int .i64 x.m, .int .i64 x.n] (0, 0) _ E0.out.now.op Try.underlying25 rfl info25 ?_))
      refine (HX.out _).mono ?_
      rintro o w1 ⟨b, rfl, hb⟩
      have E1 := Lib.hid (E0.out.later hb)
      clear hb E0 HX r2
      cases b with
      | false =>
        go_wp2_with fail
        refine (awake_any _).mono ?_
        rintro o w2 ⟨rfl, hb⟩
        have E2 := Lib.hid (E1.out.later hb)
        clear hb E1
        go_wp2_with fail
        go_ret
        exact ⟨rfl, E2.out.now.below⟩
      | true =>
        go_wp2_with (first | ((with_reducible refine wpList_sel 57 ?_); refine wpList_load_want (by rfl) 23 (.tmp 3) rfl w.heap.size rfl 23 #[.int .i64 x.s, .int .i64 x.q] (0, 0) _ E1.out.now.id Try.underlying23 rfl info23 ?_) | ((with_reducible refine wpList_sel 58 ?_); refine wpList_load_want (by rfl) 25 (.tmp 4) rfl (w.heap.size + 1) rfl 25 #[.int .i64 x.k, .string x.a, .string x.b, .string x.c, .string x.d, .string x.e, .string x.f, .int .i64 x.m, .int .i64 x.n] (0, 0) _ E1.out.now.op Try.underlying25 rfl info25 ?_))
        refine (H14.out _).mono ?_
        rintro o w2 ⟨rfl, hb⟩
        have E2 := Lib.hid (E1.out.later hb)
        clear hb E1
        go_wp2_with (first | ((with_reducible refine wpList_sel 63 ?_); refine wpList_load_want (by rfl) 23 (.tmp 3) rfl w.heap.size rfl 23 #[.int .i64 x.s, .int .i64 x.q] (0, 0) _ E2.out.now.id Try.underlying23 rfl info23 ?_) | ((with_reducible refine wpList_sel 64 ?_); refine wpList_load_want (by rfl) 25 (.tmp 4) rfl (w.heap.size + 1) rfl 25 #[.int .i64 x.k, .string x.a, .string x.b, .string x.c, .string x.d, .string x.e, .string x.f, .int .i64 x.m, .int .i64 x.n] (0, 0) _ E2.out.now.op Try.underlying25 rfl info25 ?_))
        refine (H15.out _).mono ?_
        rintro o w3 ⟨rfl, hb⟩
        have E3 := Lib.hid (E2.out.later hb)
        clear hb E2
        go_wp2_with (first | ((with_reducible refine wpList_sel 69 ?_); refine wpList_load_want (by rfl) 23 (.tmp 3) rfl w.heap.size rfl 23 #[.int .i64 x.s, .int .i64 x.q] (0, 0) _ E3.out.now.id Try.underlying23 rfl info23 ?_) | ((with_reducible refine wpList_sel 70 ?_); refine wpList_load_want (by rfl) 31 (.tmp 5) rfl (w.heap.size + 1 + 1) rfl 31 #[.int .i64 e, .int .i64 a, .slice ua n uc] (0, 0) _ E3.out.now.rep Try.underlying31 rfl info31 ?_))
        refine (H16.out _ E3.out.now.posts).mono ?_
        rintro o w4 ⟨rfl, hb⟩
        have E4 := Lib.hid (E3.out.later hb)
        clear hb E3
        go_wp2_with (first | ((with_reducible refine wpList_sel 75 ?_); refine wpList_load_want (by rfl) 23 (.tmp 3) rfl w.heap.size rfl 23 #[.int .i64 x.s, .int .i64 x.q] (0, 0) _ E4.out.now.id Try.underlying23 rfl info23 ?_) | ((with_reducible refine wpList_sel 76 ?_); refine wpList_load_want (by rfl) 31 (.tmp 5) rfl (w.heap.size + 1 + 1) rfl 31 #[.int .i64 e, .int .i64 a, .slice ua n uc] (0, 0) _ E4.out.now.rep Try.underlying31 rfl info31 ?_))
        refine (H17.out _ E4.out.now.posts).mono ?_
        rintro o w5 ⟨rfl, hb⟩
        have E5 := Lib.hid (E4.out.later hb)
        clear hb E4
        go_wp2_with fail
        refine (awake_any _).mono ?_
        rintro o v4 ⟨rfl, hb⟩
        have G4 := Lib.hid (E5.out.later hb)
        clear hb E5
        go_wp2_with fail
        go_ret
        exact ⟨rfl, G4.out.now.below⟩

set_option maxRecDepth 100000 in
set_option maxHeartbeats 20000000 in
theorem asks_sn (x : AskV) (e a : Int) (ua : Option Addr) (n uc : Nat) (ps : List (ByteArray × ByteArray)) (w : World) (hx : x.a.size ≤ maxLen ∧ x.b.size ≤ maxLen ∧ x.c.size ≤ maxLen ∧ x.d.size ≤ maxLen ∧ x.e.size ≤ maxLen ∧ x.f.size ≤ maxLen)
    (hps : ∀ p ∈ ps, p.1.size ≤ maxLen ∧ p.2.size ≤ maxLen) (hp : PostsAt w ua n uc ps) (hn : n ≤ 9223372036854775807) (S : ByteArray) (hS : S.size ≤ maxLen) (hF : fromG mQ askKs S = some x.fvs) (h14 : ∀ w, Calls Try.prog 14 #[.agg x.idv, .agg x.opv] w (StrRet S 0 w)) (h15 : ∀ w, Calls Try.prog 15 #[.agg x.idv, .agg x.opv] w (StrRet S 0 w)) (h16 : ∀ w, PostsAt w ua n uc ps → Calls Try.prog 16 #[.agg x.idv, .agg #[.int .i64 e, .int .i64 a, .slice ua n uc]] w (StrRet ⟨#[]⟩ 1 w)) (h17 : ∀ w, PostsAt w ua n uc ps → Calls Try.prog 17 #[.agg x.idv, .agg #[.int .i64 e, .int .i64 a, .slice ua n uc]] w (StrRet ⟨#[]⟩ 1 w)) :
    Calls Try.prog 4 #[.agg x.idv, .agg x.opv, .agg #[.int .i64 e, .int .i64 a, .slice ua n uc]] w fun o w' => o = .returned (.bool true) ∧ Below w.heap.size w w' := by
  have E0 := Lib.hid (args_start w x e a ua n uc ps hp)
  have HNL := Lib.hid hp.1
  have HX := Lib.hid (fun w => short_any x w hx); have HPS := Lib.hid hps
  have H14 := Lib.hid h14; have H15 := Lib.hid h15; have H16 := Lib.hid h16; have H17 := Lib.hid h17
  have H6 := Lib.hid (fun w => fromAsk_some S w x hS hF)
  clear hx hps hp h14 h15 h16 h17 hS hF
  unfold AskV.idv AskV.opv at *
  go_enter Try.func4, Try.ntmps4
  go_wp2_with fail
  go_loop [7] (fun i => ∃ k : Nat, k ≤ n ∧ i = .int .i64 k) (fun i => n - (intOf i).toNat)
  case atStart => exact ⟨0, by omega, rfl⟩
  case round =>
    obtain ⟨k, hk, rfl⟩ := hrel
    have r2 := cell_of (i := 2) E0.out.now.rep rfl
    by_cases hlt : k < n
    · obtain ⟨g, o, hua, d1, d2⟩ := E0.out.now.posts.at k (by rw [← HNL.out]; exact hlt)
      subst hua
      have HZ := Lib.hid (HPS.out _ (List.getElem_mem (show k < ps.length by rw [← HNL.out]; exact hlt)))
      have hkn : (k : Int) < (n : Int) := by omega
      clear HPS
      generalize ps[k]'(by rw [← HNL.out]; exact hlt) = p at *
      obtain ⟨t1, t2⟩ := p
      clear HX H14 H15 H16 H17 H6
      cases h1 : lightB t1.size with
      | false =>
        have H1 := Lib.hid h1; clear h1
        go_wp2_with fail
        refine (light_to t1 false _ HZ.out.1 H1).mono ?_
        rintro o w' ⟨rfl, rfl⟩
        go_wp2_with fail
        refine (awake_any _).mono ?_
        rintro o w1 ⟨rfl, hb⟩
        have E1 := Lib.hid (E0.out.later hb)
        clear hb E0
        go_wp2_with fail
        go_ret
        exact ⟨rfl, E1.out.now.below⟩
      | true =>
        have H1 := Lib.hid h1; clear h1
        cases h2 : lightB t2.size with
        | false =>
          have H2 := Lib.hid h2; clear h2
          go_wp2_with fail
          refine (light_to t1 true _ HZ.out.1 H1).mono ?_
          rintro o w' ⟨rfl, rfl⟩
          go_wp2_with fail
          refine (light_to t2 false _ HZ.out.2 H2).mono ?_
          rintro o w' ⟨rfl, rfl⟩
          go_wp2_with fail
          refine (awake_any _).mono ?_
          rintro o w1 ⟨rfl, hb⟩
          have E1 := Lib.hid (E0.out.later hb)
          clear hb E0
          go_wp2_with fail
          go_ret
          exact ⟨rfl, E1.out.now.below⟩
        | true =>
          have H2 := Lib.hid h2; clear h2
          by_cases h70 : (70 : Int) < (k : Int)
          · go_wp2_with fail
            refine (light_to t1 true _ HZ.out.1 H1).mono ?_
            rintro o w' ⟨rfl, rfl⟩
            go_wp2_with fail
            refine (light_to t2 true _ HZ.out.2 H2).mono ?_
            rintro o w' ⟨rfl, rfl⟩
            go_wp2_with fail
            refine (awake_any _).mono ?_
            rintro o w1 ⟨rfl, hb⟩
            have E1 := Lib.hid (E0.out.later hb)
            clear hb E0
            go_wp2_with fail
            go_ret
            exact ⟨rfl, E1.out.now.below⟩
          · go_wp2_with fail
            refine (light_to t1 true _ HZ.out.1 H1).mono ?_
            rintro o w' ⟨rfl, rfl⟩
            go_wp2_with fail
            refine (light_to t2 true _ HZ.out.2 H2).mono ?_
            rintro o w' ⟨rfl, rfl⟩
            go_wp2_with fail
            go_round
            case rel => exact ⟨k + 1, by omega, by go_num⟩
            case measure => simp [intOf]; omega
    · obtain rfl : n = k := by omega
      clear hlt hk HPS
      go_wp2_with (first | ((with_reducible refine wpList_sel 52 ?_); refine wpList_load_want (by rfl) 25 (.tmp 4) rfl (w.heap.size + 1) rfl 25 #[.int .i64 x.k, .string x.a, .string x.b, .string x.c, .string x.d, .string x.e, .string x.f, .int .i64 x.m, .int .i64 x.n] (0, 0) _ E0.out.now.op Try.underlying25 rfl info25 ?_))
      refine (HX.out _).mono ?_
      rintro o w1 ⟨b, rfl, hb⟩
      have E1 := Lib.hid (E0.out.later hb)
      clear hb E0 HX r2
      cases b with
      | false =>
        go_wp2_with fail
        refine (awake_any _).mono ?_
        rintro o w2 ⟨rfl, hb⟩
        have E2 := Lib.hid (E1.out.later hb)
        clear hb E1
        go_wp2_with fail
        go_ret
        exact ⟨rfl, E2.out.now.below⟩
      | true =>
        go_wp2_with (first | ((with_reducible refine wpList_sel 57 ?_); refine wpList_load_want (by rfl) 23 (.tmp 3) rfl w.heap.size rfl 23 #[.int .i64 x.s, .int .i64 x.q] (0, 0) _ E1.out.now.id Try.underlying23 rfl info23 ?_) | ((with_reducible refine wpList_sel 58 ?_); refine wpList_load_want (by rfl) 25 (.tmp 4) rfl (w.heap.size + 1) rfl 25 #[.int .i64 x.k, .string x.a, .string x.b, .string x.c, .string x.d, .string x.e, .string x.f, .int .i64 x.m, .int .i64 x.n] (0, 0) _ E1.out.now.op Try.underlying25 rfl info25 ?_))
        refine (H14.out _).mono ?_
        rintro o w2 ⟨rfl, hb⟩
        have E2 := Lib.hid (E1.out.later hb)
        clear hb E1
        go_wp2_with (first | ((with_reducible refine wpList_sel 63 ?_); refine wpList_load_want (by rfl) 23 (.tmp 3) rfl w.heap.size rfl 23 #[.int .i64 x.s, .int .i64 x.q] (0, 0) _ E2.out.now.id Try.underlying23 rfl info23 ?_) | ((with_reducible refine wpList_sel 64 ?_); refine wpList_load_want (by rfl) 25 (.tmp 4) rfl (w.heap.size + 1) rfl 25 #[.int .i64 x.k, .string x.a, .string x.b, .string x.c, .string x.d, .string x.e, .string x.f, .int .i64 x.m, .int .i64 x.n] (0, 0) _ E2.out.now.op Try.underlying25 rfl info25 ?_))
        refine (H15.out _).mono ?_
        rintro o w3 ⟨rfl, hb⟩
        have E3 := Lib.hid (E2.out.later hb)
        clear hb E2
        go_wp2_with (first | ((with_reducible refine wpList_sel 69 ?_); refine wpList_load_want (by rfl) 23 (.tmp 3) rfl w.heap.size rfl 23 #[.int .i64 x.s, .int .i64 x.q] (0, 0) _ E3.out.now.id Try.underlying23 rfl info23 ?_) | ((with_reducible refine wpList_sel 70 ?_); refine wpList_load_want (by rfl) 31 (.tmp 5) rfl (w.heap.size + 1 + 1) rfl 31 #[.int .i64 e, .int .i64 a, .slice ua n uc] (0, 0) _ E3.out.now.rep Try.underlying31 rfl info31 ?_))
        refine (H16.out _ E3.out.now.posts).mono ?_
        rintro o w4 ⟨rfl, hb⟩
        have E4 := Lib.hid (E3.out.later hb)
        clear hb E3
        go_wp2_with (first | ((with_reducible refine wpList_sel 75 ?_); refine wpList_load_want (by rfl) 23 (.tmp 3) rfl w.heap.size rfl 23 #[.int .i64 x.s, .int .i64 x.q] (0, 0) _ E4.out.now.id Try.underlying23 rfl info23 ?_) | ((with_reducible refine wpList_sel 76 ?_); refine wpList_load_want (by rfl) 31 (.tmp 5) rfl (w.heap.size + 1 + 1) rfl 31 #[.int .i64 e, .int .i64 a, .slice ua n uc] (0, 0) _ E4.out.now.rep Try.underlying31 rfl info31 ?_))
        refine (H17.out _ E4.out.now.posts).mono ?_
        rintro o w5 ⟨rfl, hb⟩
        have E5 := Lib.hid (E4.out.later hb)
        clear hb E4
        go_wp2_with fail
        refine (H6.out _).mono ?_
        rintro o w6 ⟨rfl, hb⟩
        have E6 := Lib.hid (E5.out.later hb)
        clear hb E5
        go_wp2_with (first
          | ((with_reducible refine wpList_selS 16 ?_); refine wpList_store_row rfl 23 (.tmp 16) (.tmp 103) rfl w6.heap.size #[.int .i64 x.s, .int .i64 x.q] rfl rfl 23 zeroId (heap_last2 w6 _ _ _ rfl) info23 rfl (by simp [Value.oneCell']) ?_)
          | ((with_reducible refine wpList_selS 17 ?_); refine wpList_two rfl 25 (.tmp 17) (.tmp 104) rfl #[.int .i64 x.k, .string x.a, .string x.b, .string x.c, .string x.d, .string x.e, .string x.f, .int .i64 x.m, .int .i64 x.n] rfl rfl rfl info25 rfl (by simp [Value.oneCell']) E6.out ?_; intro w7 E7; clear E6)
          | ((with_reducible refine wpList_sel 106 ?_); refine wpList_load_want (by rfl) 23 (.tmp 16) rfl w6.heap.size rfl 23 #[.int .i64 x.s, .int .i64 x.q] (0, 0) _ E7.out.now.2.1 Try.underlying23 rfl info23 ?_)
          | ((with_reducible refine wpList_sel 107 ?_); refine wpList_load_want (by rfl) 23 (.tmp 3) rfl w.heap.size rfl 23 #[.int .i64 x.s, .int .i64 x.q] (0, 0) _ E7.out.now.1.id Try.underlying23 rfl info23 ?_)
          | ((with_reducible refine wpList_sel 108 ?_); refine wpList_bin_want (by rfl) .neq 23 23 (.tmp 106) (.tmp 107) rfl _ _ (.bool false) rfl rfl (neq_guard 23 guard23 _ _ _ _ _) (idv_ne _ _ _) ?_)
          | ((with_reducible refine wpList_sel 110 ?_); refine wpList_load_want (by rfl) 25 (.tmp 17) rfl (w6.heap.size + 1) rfl 25 #[.int .i64 x.k, .string x.a, .string x.b, .string x.c, .string x.d, .string x.e, .string x.f, .int .i64 x.m, .int .i64 x.n] (0, 0) _ E7.out.now.2.2 Try.underlying25 rfl info25 ?_)
          | ((with_reducible refine wpList_sel 111 ?_); refine wpList_load_want (by rfl) 25 (.tmp 4) rfl (w.heap.size + 1) rfl 25 #[.int .i64 x.k, .string x.a, .string x.b, .string x.c, .string x.d, .string x.e, .string x.f, .int .i64 x.m, .int .i64 x.n] (0, 0) _ E7.out.now.1.op Try.underlying25 rfl info25 ?_)
          | ((with_reducible refine wpList_sel 112 ?_); refine wpList_bin_want (by rfl) .neq 25 25 (.tmp 110) (.tmp 111) rfl _ _ (.bool false) rfl rfl (neq_guard 25 guard25 _ _ _ _ _) (opv_ne _ _ _ _ _ _ _ _ _ _) ?_))
        have F := Lib.hid (show Ever w7 (Args w x e a ua n uc ps) from fun W hW => (E7.out W hW).1)
        clear E7
        refine (awake_any _).mono ?_
        rintro o v4 ⟨rfl, hb⟩
        have G4 := Lib.hid (F.out.later hb)
        clear hb F
        go_wp2_with fail
        go_ret
        exact ⟨rfl, G4.out.now.below⟩

set_option maxRecDepth 100000 in
set_option maxHeartbeats 20000000 in
theorem asks_ns (x : AskV) (e a : Int) (ua : Option Addr) (n uc : Nat) (ps : List (ByteArray × ByteArray)) (w : World) (hx : x.a.size ≤ maxLen ∧ x.b.size ≤ maxLen ∧ x.c.size ≤ maxLen ∧ x.d.size ≤ maxLen ∧ x.e.size ≤ maxLen ∧ x.f.size ≤ maxLen)
    (hps : ∀ p ∈ ps, p.1.size ≤ maxLen ∧ p.2.size ≤ maxLen) (hp : PostsAt w ua n uc ps) (hn : n ≤ 9223372036854775807) (h14 : ∀ w, Calls Try.prog 14 #[.agg x.idv, .agg x.opv] w (StrRet ⟨#[]⟩ 1 w)) (h15 : ∀ w, Calls Try.prog 15 #[.agg x.idv, .agg x.opv] w (StrRet ⟨#[]⟩ 1 w)) (T : ByteArray) (hT : T.size ≤ maxLen) (hG : fromG mA ansKs T = some (AnsV.mk x.s x.q e a ps.length (postCells ps)).fvs) (h16 : ∀ w, PostsAt w ua n uc ps → Calls Try.prog 16 #[.agg x.idv, .agg #[.int .i64 e, .int .i64 a, .slice ua n uc]] w (StrRet T 0 w)) (h17 : ∀ w, PostsAt w ua n uc ps → Calls Try.prog 17 #[.agg x.idv, .agg #[.int .i64 e, .int .i64 a, .slice ua n uc]] w (StrRet T 0 w)) :
    Calls Try.prog 4 #[.agg x.idv, .agg x.opv, .agg #[.int .i64 e, .int .i64 a, .slice ua n uc]] w fun o w' => o = .returned (.bool true) ∧ Below w.heap.size w w' := by
  have E0 := Lib.hid (args_start w x e a ua n uc ps hp)
  have HNL := Lib.hid hp.1
  have HX := Lib.hid (fun w => short_any x w hx); have HPS := Lib.hid hps
  have H14 := Lib.hid h14; have H15 := Lib.hid h15; have H16 := Lib.hid h16; have H17 := Lib.hid h17
  have H8 := Lib.hid (fun w => fromAnswer_some T w _ hT hG)
  clear hx hps hp h14 h15 h16 h17 hT hG
  unfold AskV.idv AskV.opv at *
  go_enter Try.func4, Try.ntmps4
  go_wp2_with fail
  go_loop [7] (fun i => ∃ k : Nat, k ≤ n ∧ i = .int .i64 k) (fun i => n - (intOf i).toNat)
  case atStart => exact ⟨0, by omega, rfl⟩
  case round =>
    obtain ⟨k, hk, rfl⟩ := hrel
    have r2 := cell_of (i := 2) E0.out.now.rep rfl
    by_cases hlt : k < n
    · obtain ⟨g, o, hua, d1, d2⟩ := E0.out.now.posts.at k (by rw [← HNL.out]; exact hlt)
      subst hua
      have HZ := Lib.hid (HPS.out _ (List.getElem_mem (show k < ps.length by rw [← HNL.out]; exact hlt)))
      have hkn : (k : Int) < (n : Int) := by omega
      clear HPS
      generalize ps[k]'(by rw [← HNL.out]; exact hlt) = p at *
      obtain ⟨t1, t2⟩ := p
      clear HX H14 H15 H16 H17 H8
      cases h1 : lightB t1.size with
      | false =>
        have H1 := Lib.hid h1; clear h1
        go_wp2_with fail
        refine (light_to t1 false _ HZ.out.1 H1).mono ?_
        rintro o w' ⟨rfl, rfl⟩
        go_wp2_with fail
        refine (awake_any _).mono ?_
        rintro o w1 ⟨rfl, hb⟩
        have E1 := Lib.hid (E0.out.later hb)
        clear hb E0
        go_wp2_with fail
        go_ret
        exact ⟨rfl, E1.out.now.below⟩
      | true =>
        have H1 := Lib.hid h1; clear h1
        cases h2 : lightB t2.size with
        | false =>
          have H2 := Lib.hid h2; clear h2
          go_wp2_with fail
          refine (light_to t1 true _ HZ.out.1 H1).mono ?_
          rintro o w' ⟨rfl, rfl⟩
          go_wp2_with fail
          refine (light_to t2 false _ HZ.out.2 H2).mono ?_
          rintro o w' ⟨rfl, rfl⟩
          go_wp2_with fail
          refine (awake_any _).mono ?_
          rintro o w1 ⟨rfl, hb⟩
          have E1 := Lib.hid (E0.out.later hb)
          clear hb E0
          go_wp2_with fail
          go_ret
          exact ⟨rfl, E1.out.now.below⟩
        | true =>
          have H2 := Lib.hid h2; clear h2
          by_cases h70 : (70 : Int) < (k : Int)
          · go_wp2_with fail
            refine (light_to t1 true _ HZ.out.1 H1).mono ?_
            rintro o w' ⟨rfl, rfl⟩
            go_wp2_with fail
            refine (light_to t2 true _ HZ.out.2 H2).mono ?_
            rintro o w' ⟨rfl, rfl⟩
            go_wp2_with fail
            refine (awake_any _).mono ?_
            rintro o w1 ⟨rfl, hb⟩
            have E1 := Lib.hid (E0.out.later hb)
            clear hb E0
            go_wp2_with fail
            go_ret
            exact ⟨rfl, E1.out.now.below⟩
          · go_wp2_with fail
            refine (light_to t1 true _ HZ.out.1 H1).mono ?_
            rintro o w' ⟨rfl, rfl⟩
            go_wp2_with fail
            refine (light_to t2 true _ HZ.out.2 H2).mono ?_
            rintro o w' ⟨rfl, rfl⟩
            go_wp2_with fail
            go_round
            case rel => exact ⟨k + 1, by omega, by go_num⟩
            case measure => simp [intOf]; omega
    · obtain rfl : n = k := by omega
      clear hlt hk HPS
      go_wp2_with (first | ((with_reducible refine wpList_sel 52 ?_); refine wpList_load_want (by rfl) 25 (.tmp 4) rfl (w.heap.size + 1) rfl 25 #[.int .i64 x.k, .string x.a, .string x.b, .string x.c, .string x.d, .string x.e, .string x.f, .int .i64 x.m, .int .i64 x.n] (0, 0) _ E0.out.now.op Try.underlying25 rfl info25 ?_))
      refine (HX.out _).mono ?_
      rintro o w1 ⟨b, rfl, hb⟩
      have E1 := Lib.hid (E0.out.later hb)
      clear hb E0 HX r2
      cases b with
      | false =>
        go_wp2_with fail
        refine (awake_any _).mono ?_
        rintro o w2 ⟨rfl, hb⟩
        have E2 := Lib.hid (E1.out.later hb)
        clear hb E1
        go_wp2_with fail
        go_ret
        exact ⟨rfl, E2.out.now.below⟩
      | true =>
        go_wp2_with (first | ((with_reducible refine wpList_sel 57 ?_); refine wpList_load_want (by rfl) 23 (.tmp 3) rfl w.heap.size rfl 23 #[.int .i64 x.s, .int .i64 x.q] (0, 0) _ E1.out.now.id Try.underlying23 rfl info23 ?_) | ((with_reducible refine wpList_sel 58 ?_); refine wpList_load_want (by rfl) 25 (.tmp 4) rfl (w.heap.size + 1) rfl 25 #[.int .i64 x.k, .string x.a, .string x.b, .string x.c, .string x.d, .string x.e, .string x.f, .int .i64 x.m, .int .i64 x.n] (0, 0) _ E1.out.now.op Try.underlying25 rfl info25 ?_))
        refine (H14.out _).mono ?_
        rintro o w2 ⟨rfl, hb⟩
        have E2 := Lib.hid (E1.out.later hb)
        clear hb E1
        go_wp2_with (first | ((with_reducible refine wpList_sel 63 ?_); refine wpList_load_want (by rfl) 23 (.tmp 3) rfl w.heap.size rfl 23 #[.int .i64 x.s, .int .i64 x.q] (0, 0) _ E2.out.now.id Try.underlying23 rfl info23 ?_) | ((with_reducible refine wpList_sel 64 ?_); refine wpList_load_want (by rfl) 25 (.tmp 4) rfl (w.heap.size + 1) rfl 25 #[.int .i64 x.k, .string x.a, .string x.b, .string x.c, .string x.d, .string x.e, .string x.f, .int .i64 x.m, .int .i64 x.n] (0, 0) _ E2.out.now.op Try.underlying25 rfl info25 ?_))
        refine (H15.out _).mono ?_
        rintro o w3 ⟨rfl, hb⟩
        have E3 := Lib.hid (E2.out.later hb)
        clear hb E2
        go_wp2_with (first | ((with_reducible refine wpList_sel 69 ?_); refine wpList_load_want (by rfl) 23 (.tmp 3) rfl w.heap.size rfl 23 #[.int .i64 x.s, .int .i64 x.q] (0, 0) _ E3.out.now.id Try.underlying23 rfl info23 ?_) | ((with_reducible refine wpList_sel 70 ?_); refine wpList_load_want (by rfl) 31 (.tmp 5) rfl (w.heap.size + 1 + 1) rfl 31 #[.int .i64 e, .int .i64 a, .slice ua n uc] (0, 0) _ E3.out.now.rep Try.underlying31 rfl info31 ?_))
        refine (H16.out _ E3.out.now.posts).mono ?_
        rintro o w4 ⟨rfl, hb⟩
        have E4 := Lib.hid (E3.out.later hb)
        clear hb E3
        go_wp2_with (first | ((with_reducible refine wpList_sel 75 ?_); refine wpList_load_want (by rfl) 23 (.tmp 3) rfl w.heap.size rfl 23 #[.int .i64 x.s, .int .i64 x.q] (0, 0) _ E4.out.now.id Try.underlying23 rfl info23 ?_) | ((with_reducible refine wpList_sel 76 ?_); refine wpList_load_want (by rfl) 31 (.tmp 5) rfl (w.heap.size + 1 + 1) rfl 31 #[.int .i64 e, .int .i64 a, .slice ua n uc] (0, 0) _ E4.out.now.rep Try.underlying31 rfl info31 ?_))
        refine (H17.out _ E4.out.now.posts).mono ?_
        rintro o w5 ⟨rfl, hb⟩
        have E5 := Lib.hid (E4.out.later hb)
        clear hb E4
        go_wp2_with fail
        refine (H8.out _).mono ?_
        rintro o v1 ⟨va, vc, rfl, hb, ho⟩
        have G1 := Lib.hid ((E5.out.later hb).and (Ever.own ho))
        clear hb ho E5
        have HKL := HNL.out
        obtain rfl := HKL
        simp only
        go_wp2_with (first
          | ((with_reducible refine wpList_selS 19 ?_); refine wpList_store_row rfl 23 (.tmp 19) (.tmp 123) rfl v1.heap.size #[.int .i64 x.s, .int .i64 x.q] rfl rfl 23 zeroId (heap_last2 v1 _ _ _ rfl) info23 rfl (by simp [Value.oneCell']) ?_)
          | ((with_reducible refine wpList_selS 20 ?_); refine wpList_two rfl 31 (.tmp 20) (.tmp 124) rfl #[.int .i64 e, .int .i64 a, .slice va ps.length vc] rfl rfl rfl info31 rfl (by simp [Value.oneCell']) G1.out ?_; intro v2 G2; clear G1)
          | ((with_reducible refine wpList_sel 126 ?_); refine wpList_load_want (by rfl) 23 (.tmp 19) rfl v1.heap.size rfl 23 #[.int .i64 x.s, .int .i64 x.q] (0, 0) _ G2.out.now.2.1 Try.underlying23 rfl info23 ?_)
          | ((with_reducible refine wpList_sel 127 ?_); refine wpList_load_want (by rfl) 23 (.tmp 3) rfl w.heap.size rfl 23 #[.int .i64 x.s, .int .i64 x.q] (0, 0) _ G2.out.now.1.1.id Try.underlying23 rfl info23 ?_)
          | ((with_reducible refine wpList_sel 128 ?_); refine wpList_bin_want (by rfl) .neq 23 23 (.tmp 126) (.tmp 127) rfl _ _ (.bool false) rfl rfl (neq_guard 23 guard23 _ _ _ _ _) (idv_ne _ _ _) ?_)
          | ((with_reducible refine wpList_sel 130 ?_); refine wpList_load_want (by rfl) 31 (.tmp 20) rfl (v1.heap.size + 1) rfl 31 #[.int .i64 e, .int .i64 a, .slice va ps.length vc] (0, 0) _ G2.out.now.2.2 Try.underlying31 rfl info31 ?_)
          | ((with_reducible refine wpList_sel 131 ?_); refine wpList_load_want (by rfl) 31 (.tmp 5) rfl (w.heap.size + 1 + 1) rfl 31 #[.int .i64 e, .int .i64 a, .slice ua ps.length uc] (0, 0) _ G2.out.now.1.1.rep Try.underlying31 rfl info31 ?_))
        refine (sameReply_in e a va ua ps.length vc uc _ ps _ hn G2.out.now.1.2 G2.out.now.1.1.posts).mono ?_
        rintro o v3 ⟨rfl, hb⟩
        have G3 := Lib.hid (G2.out.later hb)
        clear hb G2
        go_wp2_with fail
        refine (awake_any _).mono ?_
        rintro o v4 ⟨rfl, hb⟩
        have G4 := Lib.hid (G3.out.later hb)
        clear hb G3
        go_wp2_with fail
        go_ret
        exact ⟨rfl, G4.out.now.1.1.below⟩

set_option maxRecDepth 100000 in
set_option maxHeartbeats 20000000 in
theorem asks_ss (x : AskV) (e a : Int) (ua : Option Addr) (n uc : Nat) (ps : List (ByteArray × ByteArray)) (w : World) (hx : x.a.size ≤ maxLen ∧ x.b.size ≤ maxLen ∧ x.c.size ≤ maxLen ∧ x.d.size ≤ maxLen ∧ x.e.size ≤ maxLen ∧ x.f.size ≤ maxLen)
    (hps : ∀ p ∈ ps, p.1.size ≤ maxLen ∧ p.2.size ≤ maxLen) (hp : PostsAt w ua n uc ps) (hn : n ≤ 9223372036854775807) (S : ByteArray) (hS : S.size ≤ maxLen) (hF : fromG mQ askKs S = some x.fvs) (h14 : ∀ w, Calls Try.prog 14 #[.agg x.idv, .agg x.opv] w (StrRet S 0 w)) (h15 : ∀ w, Calls Try.prog 15 #[.agg x.idv, .agg x.opv] w (StrRet S 0 w)) (T : ByteArray) (hT : T.size ≤ maxLen) (hG : fromG mA ansKs T = some (AnsV.mk x.s x.q e a ps.length (postCells ps)).fvs) (h16 : ∀ w, PostsAt w ua n uc ps → Calls Try.prog 16 #[.agg x.idv, .agg #[.int .i64 e, .int .i64 a, .slice ua n uc]] w (StrRet T 0 w)) (h17 : ∀ w, PostsAt w ua n uc ps → Calls Try.prog 17 #[.agg x.idv, .agg #[.int .i64 e, .int .i64 a, .slice ua n uc]] w (StrRet T 0 w)) :
    Calls Try.prog 4 #[.agg x.idv, .agg x.opv, .agg #[.int .i64 e, .int .i64 a, .slice ua n uc]] w fun o w' => o = .returned (.bool true) ∧ Below w.heap.size w w' := by
  have E0 := Lib.hid (args_start w x e a ua n uc ps hp)
  have HNL := Lib.hid hp.1
  have HX := Lib.hid (fun w => short_any x w hx); have HPS := Lib.hid hps
  have H14 := Lib.hid h14; have H15 := Lib.hid h15; have H16 := Lib.hid h16; have H17 := Lib.hid h17
  have H6 := Lib.hid (fun w => fromAsk_some S w x hS hF)
  have H8 := Lib.hid (fun w => fromAnswer_some T w _ hT hG)
  clear hx hps hp h14 h15 h16 h17 hS hF hT hG
  unfold AskV.idv AskV.opv at *
  go_enter Try.func4, Try.ntmps4
  go_wp2_with fail
  go_loop [7] (fun i => ∃ k : Nat, k ≤ n ∧ i = .int .i64 k) (fun i => n - (intOf i).toNat)
  case atStart => exact ⟨0, by omega, rfl⟩
  case round =>
    obtain ⟨k, hk, rfl⟩ := hrel
    have r2 := cell_of (i := 2) E0.out.now.rep rfl
    by_cases hlt : k < n
    · obtain ⟨g, o, hua, d1, d2⟩ := E0.out.now.posts.at k (by rw [← HNL.out]; exact hlt)
      subst hua
      have HZ := Lib.hid (HPS.out _ (List.getElem_mem (show k < ps.length by rw [← HNL.out]; exact hlt)))
      have hkn : (k : Int) < (n : Int) := by omega
      clear HPS
      generalize ps[k]'(by rw [← HNL.out]; exact hlt) = p at *
      obtain ⟨t1, t2⟩ := p
      clear HX H14 H15 H16 H17 H6 H8
      cases h1 : lightB t1.size with
      | false =>
        have H1 := Lib.hid h1; clear h1
        go_wp2_with fail
        refine (light_to t1 false _ HZ.out.1 H1).mono ?_
        rintro o w' ⟨rfl, rfl⟩
        go_wp2_with fail
        refine (awake_any _).mono ?_
        rintro o w1 ⟨rfl, hb⟩
        have E1 := Lib.hid (E0.out.later hb)
        clear hb E0
        go_wp2_with fail
        go_ret
        exact ⟨rfl, E1.out.now.below⟩
      | true =>
        have H1 := Lib.hid h1; clear h1
        cases h2 : lightB t2.size with
        | false =>
          have H2 := Lib.hid h2; clear h2
          go_wp2_with fail
          refine (light_to t1 true _ HZ.out.1 H1).mono ?_
          rintro o w' ⟨rfl, rfl⟩
          go_wp2_with fail
          refine (light_to t2 false _ HZ.out.2 H2).mono ?_
          rintro o w' ⟨rfl, rfl⟩
          go_wp2_with fail
          refine (awake_any _).mono ?_
          rintro o w1 ⟨rfl, hb⟩
          have E1 := Lib.hid (E0.out.later hb)
          clear hb E0
          go_wp2_with fail
          go_ret
          exact ⟨rfl, E1.out.now.below⟩
        | true =>
          have H2 := Lib.hid h2; clear h2
          by_cases h70 : (70 : Int) < (k : Int)
          · go_wp2_with fail
            refine (light_to t1 true _ HZ.out.1 H1).mono ?_
            rintro o w' ⟨rfl, rfl⟩
            go_wp2_with fail
            refine (light_to t2 true _ HZ.out.2 H2).mono ?_
            rintro o w' ⟨rfl, rfl⟩
            go_wp2_with fail
            refine (awake_any _).mono ?_
            rintro o w1 ⟨rfl, hb⟩
            have E1 := Lib.hid (E0.out.later hb)
            clear hb E0
            go_wp2_with fail
            go_ret
            exact ⟨rfl, E1.out.now.below⟩
          · go_wp2_with fail
            refine (light_to t1 true _ HZ.out.1 H1).mono ?_
            rintro o w' ⟨rfl, rfl⟩
            go_wp2_with fail
            refine (light_to t2 true _ HZ.out.2 H2).mono ?_
            rintro o w' ⟨rfl, rfl⟩
            go_wp2_with fail
            go_round
            case rel => exact ⟨k + 1, by omega, by go_num⟩
            case measure => simp [intOf]; omega
    · obtain rfl : n = k := by omega
      clear hlt hk HPS
      go_wp2_with (first | ((with_reducible refine wpList_sel 52 ?_); refine wpList_load_want (by rfl) 25 (.tmp 4) rfl (w.heap.size + 1) rfl 25 #[.int .i64 x.k, .string x.a, .string x.b, .string x.c, .string x.d, .string x.e, .string x.f, .int .i64 x.m, .int .i64 x.n] (0, 0) _ E0.out.now.op Try.underlying25 rfl info25 ?_))
      refine (HX.out _).mono ?_
      rintro o w1 ⟨b, rfl, hb⟩
      have E1 := Lib.hid (E0.out.later hb)
      clear hb E0 HX r2
      cases b with
      | false =>
        go_wp2_with fail
        refine (awake_any _).mono ?_
        rintro o w2 ⟨rfl, hb⟩
        have E2 := Lib.hid (E1.out.later hb)
        clear hb E1
        go_wp2_with fail
        go_ret
        exact ⟨rfl, E2.out.now.below⟩
      | true =>
        go_wp2_with (first | ((with_reducible refine wpList_sel 57 ?_); refine wpList_load_want (by rfl) 23 (.tmp 3) rfl w.heap.size rfl 23 #[.int .i64 x.s, .int .i64 x.q] (0, 0) _ E1.out.now.id Try.underlying23 rfl info23 ?_) | ((with_reducible refine wpList_sel 58 ?_); refine wpList_load_want (by rfl) 25 (.tmp 4) rfl (w.heap.size + 1) rfl 25 #[.int .i64 x.k, .string x.a, .string x.b, .string x.c, .string x.d, .string x.e, .string x.f, .int .i64 x.m, .int .i64 x.n] (0, 0) _ E1.out.now.op Try.underlying25 rfl info25 ?_))
        refine (H14.out _).mono ?_
        rintro o w2 ⟨rfl, hb⟩
        have E2 := Lib.hid (E1.out.later hb)
        clear hb E1
        go_wp2_with (first | ((with_reducible refine wpList_sel 63 ?_); refine wpList_load_want (by rfl) 23 (.tmp 3) rfl w.heap.size rfl 23 #[.int .i64 x.s, .int .i64 x.q] (0, 0) _ E2.out.now.id Try.underlying23 rfl info23 ?_) | ((with_reducible refine wpList_sel 64 ?_); refine wpList_load_want (by rfl) 25 (.tmp 4) rfl (w.heap.size + 1) rfl 25 #[.int .i64 x.k, .string x.a, .string x.b, .string x.c, .string x.d, .string x.e, .string x.f, .int .i64 x.m, .int .i64 x.n] (0, 0) _ E2.out.now.op Try.underlying25 rfl info25 ?_))
        refine (H15.out _).mono ?_
        rintro o w3 ⟨rfl, hb⟩
        have E3 := Lib.hid (E2.out.later hb)
        clear hb E2
        go_wp2_with (first | ((with_reducible refine wpList_sel 69 ?_); refine wpList_load_want (by rfl) 23 (.tmp 3) rfl w.heap.size rfl 23 #[.int .i64 x.s, .int .i64 x.q] (0, 0) _ E3.out.now.id Try.underlying23 rfl info23 ?_) | ((with_reducible refine wpList_sel 70 ?_); refine wpList_load_want (by rfl) 31 (.tmp 5) rfl (w.heap.size + 1 + 1) rfl 31 #[.int .i64 e, .int .i64 a, .slice ua n uc] (0, 0) _ E3.out.now.rep Try.underlying31 rfl info31 ?_))
        refine (H16.out _ E3.out.now.posts).mono ?_
        rintro o w4 ⟨rfl, hb⟩
        have E4 := Lib.hid (E3.out.later hb)
        clear hb E3
        go_wp2_with (first | ((with_reducible refine wpList_sel 75 ?_); refine wpList_load_want (by rfl) 23 (.tmp 3) rfl w.heap.size rfl 23 #[.int .i64 x.s, .int .i64 x.q] (0, 0) _ E4.out.now.id Try.underlying23 rfl info23 ?_) | ((with_reducible refine wpList_sel 76 ?_); refine wpList_load_want (by rfl) 31 (.tmp 5) rfl (w.heap.size + 1 + 1) rfl 31 #[.int .i64 e, .int .i64 a, .slice ua n uc] (0, 0) _ E4.out.now.rep Try.underlying31 rfl info31 ?_))
        refine (H17.out _ E4.out.now.posts).mono ?_
        rintro o w5 ⟨rfl, hb⟩
        have E5 := Lib.hid (E4.out.later hb)
        clear hb E4
        go_wp2_with fail
        refine (H6.out _).mono ?_
        rintro o w6 ⟨rfl, hb⟩
        have E6 := Lib.hid (E5.out.later hb)
        clear hb E5
        go_wp2_with (first
          | ((with_reducible refine wpList_selS 16 ?_); refine wpList_store_row rfl 23 (.tmp 16) (.tmp 103) rfl w6.heap.size #[.int .i64 x.s, .int .i64 x.q] rfl rfl 23 zeroId (heap_last2 w6 _ _ _ rfl) info23 rfl (by simp [Value.oneCell']) ?_)
          | ((with_reducible refine wpList_selS 17 ?_); refine wpList_two rfl 25 (.tmp 17) (.tmp 104) rfl #[.int .i64 x.k, .string x.a, .string x.b, .string x.c, .string x.d, .string x.e, .string x.f, .int .i64 x.m, .int .i64 x.n] rfl rfl rfl info25 rfl (by simp [Value.oneCell']) E6.out ?_; intro w7 E7; clear E6)
          | ((with_reducible refine wpList_sel 106 ?_); refine wpList_load_want (by rfl) 23 (.tmp 16) rfl w6.heap.size rfl 23 #[.int .i64 x.s, .int .i64 x.q] (0, 0) _ E7.out.now.2.1 Try.underlying23 rfl info23 ?_)
          | ((with_reducible refine wpList_sel 107 ?_); refine wpList_load_want (by rfl) 23 (.tmp 3) rfl w.heap.size rfl 23 #[.int .i64 x.s, .int .i64 x.q] (0, 0) _ E7.out.now.1.id Try.underlying23 rfl info23 ?_)
          | ((with_reducible refine wpList_sel 108 ?_); refine wpList_bin_want (by rfl) .neq 23 23 (.tmp 106) (.tmp 107) rfl _ _ (.bool false) rfl rfl (neq_guard 23 guard23 _ _ _ _ _) (idv_ne _ _ _) ?_)
          | ((with_reducible refine wpList_sel 110 ?_); refine wpList_load_want (by rfl) 25 (.tmp 17) rfl (w6.heap.size + 1) rfl 25 #[.int .i64 x.k, .string x.a, .string x.b, .string x.c, .string x.d, .string x.e, .string x.f, .int .i64 x.m, .int .i64 x.n] (0, 0) _ E7.out.now.2.2 Try.underlying25 rfl info25 ?_)
          | ((with_reducible refine wpList_sel 111 ?_); refine wpList_load_want (by rfl) 25 (.tmp 4) rfl (w.heap.size + 1) rfl 25 #[.int .i64 x.k, .string x.a, .string x.b, .string x.c, .string x.d, .string x.e, .string x.f, .int .i64 x.m, .int .i64 x.n] (0, 0) _ E7.out.now.1.op Try.underlying25 rfl info25 ?_)
          | ((with_reducible refine wpList_sel 112 ?_); refine wpList_bin_want (by rfl) .neq 25 25 (.tmp 110) (.tmp 111) rfl _ _ (.bool false) rfl rfl (neq_guard 25 guard25 _ _ _ _ _) (opv_ne _ _ _ _ _ _ _ _ _ _) ?_))
        have F := Lib.hid (show Ever w7 (Args w x e a ua n uc ps) from fun W hW => (E7.out W hW).1)
        clear E7
        refine (H8.out _).mono ?_
        rintro o v1 ⟨va, vc, rfl, hb, ho⟩
        have G1 := Lib.hid ((F.out.later hb).and (Ever.own ho))
        clear hb ho F
        have HKL := HNL.out
        obtain rfl := HKL
        simp only
        go_wp2_with (first
          | ((with_reducible refine wpList_selS 19 ?_); refine wpList_store_row rfl 23 (.tmp 19) (.tmp 123) rfl v1.heap.size #[.int .i64 x.s, .int .i64 x.q] rfl rfl 23 zeroId (heap_last2 v1 _ _ _ rfl) info23 rfl (by simp [Value.oneCell']) ?_)
          | ((with_reducible refine wpList_selS 20 ?_); refine wpList_two rfl 31 (.tmp 20) (.tmp 124) rfl #[.int .i64 e, .int .i64 a, .slice va ps.length vc] rfl rfl rfl info31 rfl (by simp [Value.oneCell']) G1.out ?_; intro v2 G2; clear G1)
          | ((with_reducible refine wpList_sel 126 ?_); refine wpList_load_want (by rfl) 23 (.tmp 19) rfl v1.heap.size rfl 23 #[.int .i64 x.s, .int .i64 x.q] (0, 0) _ G2.out.now.2.1 Try.underlying23 rfl info23 ?_)
          | ((with_reducible refine wpList_sel 127 ?_); refine wpList_load_want (by rfl) 23 (.tmp 3) rfl w.heap.size rfl 23 #[.int .i64 x.s, .int .i64 x.q] (0, 0) _ G2.out.now.1.1.id Try.underlying23 rfl info23 ?_)
          | ((with_reducible refine wpList_sel 128 ?_); refine wpList_bin_want (by rfl) .neq 23 23 (.tmp 126) (.tmp 127) rfl _ _ (.bool false) rfl rfl (neq_guard 23 guard23 _ _ _ _ _) (idv_ne _ _ _) ?_)
          | ((with_reducible refine wpList_sel 130 ?_); refine wpList_load_want (by rfl) 31 (.tmp 20) rfl (v1.heap.size + 1) rfl 31 #[.int .i64 e, .int .i64 a, .slice va ps.length vc] (0, 0) _ G2.out.now.2.2 Try.underlying31 rfl info31 ?_)
          | ((with_reducible refine wpList_sel 131 ?_); refine wpList_load_want (by rfl) 31 (.tmp 5) rfl (w.heap.size + 1 + 1) rfl 31 #[.int .i64 e, .int .i64 a, .slice ua ps.length uc] (0, 0) _ G2.out.now.1.1.rep Try.underlying31 rfl info31 ?_))
        refine (sameReply_in e a va ua ps.length vc uc _ ps _ hn G2.out.now.1.2 G2.out.now.1.1.posts).mono ?_
        rintro o v3 ⟨rfl, hb⟩
        have G3 := Lib.hid (G2.out.later hb)
        clear hb G2
        go_wp2_with fail
        refine (awake_any _).mono ?_
        rintro o v4 ⟨rfl, hb⟩
        have G4 := Lib.hid (G3.out.later hb)
        clear hb G3
        go_wp2_with fail
        go_ret
        exact ⟨rfl, G4.out.now.1.1.below⟩

theorem asks_any (x : AskV) (e a : Int) (ua : Option Addr) (n uc : Nat) (ps : List (ByteArray × ByteArray)) (w : World) (hz : x.sized) (hx : x.a.size ≤ maxLen ∧ x.b.size ≤ maxLen ∧ x.c.size ≤ maxLen ∧ x.d.size ≤ maxLen ∧ x.e.size ≤ maxLen ∧ x.f.size ≤ maxLen)
    (hr : (RepV.mk x.s x.q e a ps).sized) (hps : ∀ p ∈ ps, p.1.size ≤ maxLen ∧ p.2.size ≤ maxLen) (hp : PostsAt w ua n uc ps) (hn : n ≤ 9223372036854775807) :
    Calls Try.prog 4 #[.agg x.idv, .agg x.opv, .agg #[.int .i64 e, .int .i64 a, .slice ua n uc]] w fun o w' => o = .returned (.bool true) ∧ Below w.heap.size w w' := by
  rcases ask_puts_both x hz with ⟨S, hS, hF, h14, h15⟩ | ⟨h14, h15⟩
  · rcases ans_puts_both _ hr ua n uc with ⟨T, hT, hG, h16, h17⟩ | ⟨h16, h17⟩
    · exact asks_ss x e a ua n uc ps w hx hps hp hn S hS hF h14 h15 T hT hG h16 h17
    · exact asks_sn x e a ua n uc ps w hx hps hp hn S hS hF h14 h15 h16 h17
  · rcases ans_puts_both _ hr ua n uc with ⟨T, hT, hG, h16, h17⟩ | ⟨h16, h17⟩
    · exact asks_ns x e a ua n uc ps w hx hps hp hn h14 h15 T hT hG h16 h17
    · exact asks_nn x e a ua n uc ps w hx hps hp hn h14 h15 h16 h17
end Go.Proofs.Ytibmaeckmnkmjaa
