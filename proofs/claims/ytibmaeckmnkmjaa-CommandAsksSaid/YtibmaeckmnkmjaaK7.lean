/- 'takes' of the program's package command: what it takes of bytes. -/
import Derived.Test.YtibmaeckmnkmjaaK6
namespace Go.Proofs.Ytibmaeckmnkmjaa
open Go.RowKit

attribute [local go_sem] ta_88_88 ta_83_88 ta_83_83 ta_103_88 ta_103_83 ta_103_103 ta_87_88 ta_87_83 ta_87_103 ta_87_87 ta_104_88 ta_104_83 ta_104_103 ta_104_87 ta_104_104 ta_92_88 ta_92_83 ta_92_103 ta_92_87 ta_92_104 ta_92_92

theorem info38 : (Try.prog.info? 38).map (fun i => (i.zero, i.size, i.bytes)) = some (some (.agg #[.string ⟨#[]⟩, .string ⟨#[]⟩]), 2, 32) := by kernel_rfl
theorem info109 : (Try.prog.info? 109).map (fun i => (i.zero, i.size, i.bytes)) = some (some (.agg #[.int .i64 0, .string ⟨#[]⟩]), 2, 24) := by kernel_rfl

set_option maxRecDepth 100000 in
set_option maxHeartbeats 4000000 in
theorem takes_all (sb so : Nat) (S : ByteArray) (fb fo cap : Nat) (fs : List (GK × Addr)) (w : World)
    (hS : S.size ≤ maxLen) (hlen : fs.length ≤ 1000000) (H : FitsG ⟨sb, so, none⟩ fs S fb fo w) :
    Calls Try.prog 41 #[.pointer (some ⟨sb, so, none⟩), .slice (some ⟨fb, fo, none⟩) fs.length cap] w (TakesPostG ⟨sb, so, none⟩ fs S w) := by
  have h0 : TookG ⟨sb, so, none⟩ fs S w 0 S w := ⟨Nat.le_refl _, [], [], rfl, by simp [puts, setCell_held w _ _ H.c, Below.refl], trivial, by simp⟩
  have hS' : S.size ≤ 9223372036854775807 := hS
  go_enter Try.func41, Try.ntmps41
  go_wp2
  go_loopw [17] (fun i wr => ∃ (k : Nat) (r : ByteArray), k ≤ fs.length ∧ i = .int .i64 k ∧ Hid (TookG ⟨sb, so, none⟩ fs S w k r wr)) (fun i _ => fs.length - (intOf i).toNat)
  case atStart => exact ⟨0, S, by omega, rfl, h0⟩
  case round =>
    clear h0
    obtain ⟨k, r, hk, rfl, HT⟩ := hrel
    by_cases hlt : k < fs.length
    · obtain ⟨c0, c1, f1, ⟨v0, c2⟩, c3, f2, n1, n2⟩ := tookG_facts H HT.out hlt
      have hr : r.size ≤ maxLen := by have := HT.out.size; unfold maxLen at hS ⊢; omega
      have hspot := H.spot _ (List.getElem_mem hlt)
      have HN := fun (v : Value) (fv : FV) (r' : ByteArray) (w' : World) => tookG_next (v := v) (fv := fv) (r' := r') (w' := w') H HT.out hlt
      have HF := fun (w' : World) => tookG_fail (w' := w') HT.out hlt
      have hmem : fs[k] ∈ fs := List.getElem_mem hlt
      have HB : Hid (∃ y ∈ fs, fs[k].2.block = y.2.block) := Lib.hid ⟨_, hmem, rfl⟩
      generalize hx : fs[k] = x at *
      obtain ⟨kd, ab, ao, asp⟩ := x
      simp only at c0 c1 f1 c2 c3 f2 n1 n2 HN HF hspot HB
      subst hspot
      have HN := Lib.hid HN
      have HF := Lib.hid HF
      clear hx H hmem
      cases kd with
      | flat kd =>
        clear c3
        cases kd with
        | num =>
          simp only [GK.ty, FK.ty] at c0
          cases ho : takeNum r 1099511627776 with
          | none =>
            have HE := Lib.hid ho; clear ho
            go_wp2_with (first | (go_at_call 50; refine (taken_none _ r _ _ hr (by assumption) HE.out).mono ?_; rintro e w' ⟨rfl, rfl⟩))
            exact ⟨rfl, HF.out _ (by simp only [takeOneG, takeOne, HE.out]; rfl) (KeptBut.refl _ _)⟩
          | some y =>
            obtain ⟨n, r'⟩ := y
            have HE := Lib.hid ho; clear ho
            go_wp2_with (first | (go_at_call 50; refine (taken_some _ r r' n _ _ hr (by assumption) (by assumption) HE.out).mono ?_; rintro e w' ⟨rfl, rfl⟩))
            exact ⟨⟨k + 1, r', by omega, by go_num, HN.out _ (.val _) _ _ (by simp only [takeOneG, takeOne, HE.out]; rfl) (Below.refl _ _) rfl⟩, by simp [intOf]; omega⟩
        | err =>
          simp only [GK.ty, FK.ty] at c0
          cases ho : takeNum r 1099511627776 with
          | none =>
            have HE := Lib.hid ho; clear ho
            go_wp2_with (first | (go_at_call 50; refine (taken_none _ r _ _ hr (by assumption) HE.out).mono ?_; rintro e w' ⟨rfl, rfl⟩))
            exact ⟨rfl, HF.out _ (by simp only [takeOneG, takeOne, HE.out]; rfl) (KeptBut.refl _ _)⟩
          | some y =>
            obtain ⟨n, r'⟩ := y
            have HE := Lib.hid ho; clear ho
            go_wp2_with (first | (go_at_call 50; refine (taken_some _ r r' n _ _ hr (by assumption) (by assumption) HE.out).mono ?_; rintro e w' ⟨rfl, rfl⟩))
            exact ⟨⟨k + 1, r', by omega, by go_num, HN.out _ (.val _) _ _ (by simp only [takeOneG, takeOne, HE.out]; rfl) (Below.refl _ _) rfl⟩, by simp [intOf]; omega⟩
        | tru =>
          simp only [GK.ty, FK.ty] at c0
          cases ho : takeNum r 1 with
          | none =>
            have HE := Lib.hid ho; clear ho
            go_wp2_with (first | (go_at_call 50; refine (taken_none _ r _ _ hr (by assumption) HE.out).mono ?_; rintro e w' ⟨rfl, rfl⟩))
            exact ⟨rfl, HF.out _ (by simp only [takeOneG, takeOne, HE.out]; rfl) (KeptBut.refl _ _)⟩
          | some y =>
            obtain ⟨n, r'⟩ := y
            have HE := Lib.hid ho; clear ho
            go_wp2_with (first | (go_at_call 50; refine (taken_some _ r r' n _ _ hr (by assumption) (by assumption) HE.out).mono ?_; rintro e w' ⟨rfl, rfl⟩))
            exact ⟨⟨k + 1, r', by omega, by go_num, HN.out _ (.val _) _ _ (by simp only [takeOneG, takeOne, HE.out]; rfl) (Below.refl _ _) rfl⟩, by simp [intOf]; omega⟩
        | txt =>
          simp only [GK.ty, FK.ty] at c0
          cases ho : takeText r with
          | none =>
            rcases takeText_none ho with hn | ⟨n, r1, hn, hgt⟩
            · have HE := Lib.hid hn; have HO := Lib.hid ho; clear hn ho
              go_wp2_with (first | (go_at_call 50; refine (taken_none _ r _ _ hr (by assumption) HE.out).mono ?_; rintro e w' ⟨rfl, rfl⟩))
              exact ⟨rfl, HF.out _ (by simp only [takeOneG, takeOne, HO.out]; rfl) (KeptBut.refl _ _)⟩
            · have HE := Lib.hid hn; have HO := Lib.hid ho; clear hn ho
              have hd : decide (n ≤ r1.size) = false := by simp; omega
              go_wp2_with (first | (go_at_call 50; refine (taken_some _ r r1 n _ _ hr (by assumption) (by assumption) HE.out).mono ?_; rintro e w' ⟨rfl, rfl⟩) | (go_at_call 39; refine (right_false _).mono ?_; rintro e w' ⟨rfl, rfl⟩))
              exact ⟨rfl, HF.out _ (by simp only [takeOneG, takeOne, HO.out]; rfl) (KeptBut.setCell _ _ _ (Or.inl rfl))⟩
          | some y =>
            obtain ⟨tx, r2⟩ := y
            obtain ⟨n, r1, hn, hle, rfl, rfl⟩ := takeText_some ho
            have HE := Lib.hid hn; have HO := Lib.hid ho; clear hn ho
            have hd : decide (n ≤ r1.size) = true := by simpa using hle
            have hr1 := takeNum_size HE.out
            go_wp2_with (first | (go_at_call 50; refine (taken_some _ r r1 n _ _ hr (by assumption) (by assumption) HE.out).mono ?_; rintro e w' ⟨rfl, rfl⟩) | (go_at_call 39; refine (right_true _).mono ?_; rintro e w' ⟨rfl, rfl⟩))
            go_region
            all_goals go_wp2
            rw [text_stores _ _ _ _ _ _ n2]
            exact ⟨⟨k + 1, _, by omega, by go_num, HN.out _ (.val _) _ _ (by simp only [takeOneG, takeOne, HO.out]; rfl) (Below.refl _ _).drew rfl⟩, by simp [intOf]; omega⟩
      | ents =>
        simp only [GK.ty] at c0
        have c4 := c3 (Or.inl rfl)
        clear c3 c2
        cases ho : takeNum r 16 with
        | none =>
          have HE := Lib.hid ho; clear ho
          go_wp2_with (first | (go_at_call 50; refine (taken_none _ r _ _ hr (by assumption) HE.out).mono ?_; rintro e w' ⟨rfl, rfl⟩))
          exact ⟨rfl, HF.out _ (by simp only [takeOneG, HE.out]) (KeptBut.refl _ _)⟩
        | some y =>
          obtain ⟨n, r1⟩ := y
          obtain ⟨hn0, hn64⟩ : 0 ≤ n ∧ n ≤ 16 := by obtain ⟨_, _, h1, h2, _⟩ := takeNum_some ho; exact ⟨h1, h2⟩
          obtain ⟨n, rfl⟩ := Int.eq_ofNat_of_zero_le hn0
          have hr1 := takeNum_size ho
          have HE := Lib.hid ho; clear ho
          have HE0 := HE
          go_wp2_with (first | (go_at_call 50; refine (taken_some _ r r1 n _ _ hr (by assumption) (by assumption) HE.out).mono ?_; rintro e w' ⟨rfl, rfl⟩))
          have hnn : n ≤ 16 := by omega
          have FR : RowFits ⟨sb, so, none⟩ ⟨ab, ao, none⟩ r1 (wr.setCell ⟨sb, so, none⟩ (.string r1)) := ⟨World.cell?_setCell_same _ _ _ c1, by simpa using f1, by rw [World.cell?_setCell_other _ _ _ _ n2]; exact c4, by simpa using f2, n1⟩
          have R0 := rowrel_start (ks := [.num, .txt]) (ety := 109) (n := n) FR
          have R0 := Lib.hid R0
          clear c0 c1 c4 f1 f2
          obtain ⟨wo, rfl⟩ : ∃ wo : World, wo = wr := ⟨_, rfl⟩
          go_loopw [75] (fun j w2 => ∃ (m : Nat) (r2 : ByteArray) (u : Value) (cs : List Value), m ≤ n ∧ j = .int .i64 m ∧ Hid (RowRel ⟨sb, so, none⟩ ⟨ab, ao, none⟩ [.num, .txt] 109 n r1 (wo.setCell ⟨sb, so, none⟩ (.string r1)) m r2 u cs w2)) (fun j _ => n - (intOf j).toNat)
          case atStart => exact ⟨0, r1, _, [], by omega, rfl, R0⟩
          case round =>
            clear R0
            obtain ⟨m, r2, u, cs, hm, rfl, HR⟩ := hrel
            by_cases hmn : m < n
            · obtain ⟨d1, g1, d2, g2, hsz, hb1, hb2⟩ := rowrel_facts FR HR.out
              have FR := Lib.hid FR
              cases hta : takeAll [.num, .txt] r2 with
              | none =>
                have HE := Lib.hid hta; clear hta
                have hr2 : r2.size ≤ maxLen := by have := HR.out.size; unfold maxLen at hr ⊢; omega
                have HX : Hid (∀ w', KeptBut wr w' (· = sb) → KeptBut wo w' (fun b => b = sb ∨ ∃ y ∈ fs, b = y.2.block)) := Lib.hid (fun w' h => by
                  have e1 : KeptBut wo (((wo.setCell ⟨sb, so, none⟩ (.string r1)).setCell ⟨sb, so, none⟩ (.string r2)).setCell ⟨ab, ao, none⟩ u) (fun b => b = sb ∨ ∃ y ∈ fs, b = y.2.block) :=
                    ((KeptBut.setCell _ _ _ (Or.inl rfl)).trans (KeptBut.setCell _ _ _ (Or.inl rfl))).trans (KeptBut.setCell _ _ _ (Or.inr HB.out))
                  exact (e1.trans (KeptBut.of_below (by have := HR.out.below; simpa using this))).trans (h.mono (fun _ _ e => Or.inl e)))
                go_wp2_with (first | (go_at_call 41; go_loud (refine (pair_none sb so r2 _ .num .txt 109 _ _ hr2 (by assumption) (by assumption) HE.out).mono ?_); rintro e w' ⟨rfl, hB⟩))
                exact ⟨rfl, HF.out _ (by simp only [takeOneG, HE0.out, Int.toNat_natCast]; rw [rowrel_fail HR.out hmn HE.out]; rfl) (HX.out _ hB.out)⟩
              | some y =>
                obtain ⟨vs, r3⟩ := y
                obtain ⟨v1, v2, rfl⟩ := takeAll_two hta
                have HE := Lib.hid hta; clear hta
                have hr2 : r2.size ≤ maxLen := by have := HR.out.size; unfold maxLen at hr ⊢; omega
                go_wp2_with (first | (go_at_call 41; go_loud (refine (pair_some sb so r2 r3 _ .num .txt 109 _ _ v1 v2 hr2 (by assumption) (by assumption) HE.out).mono ?_); rintro e w' ⟨rfl, hP⟩; obtain ⟨q1, q2, q3, q4⟩ := hP.facts n1 d2 g2; have hq5 := hP.size; have HP := Lib.hid hP; clear hP d1 g1 d2 g2))
                have hab : ab < wr.heap.size + 2 := by have := World.block_lt_of_cell? _ _ q3; simp only at this; omega
                obtain ⟨i38, hi38, hz0, hz1, hz2⟩ := info_parts info109
                have hi38 := Lib.hid hi38; have hz0 := Lib.hid hz0; have hz1 := Lib.hid hz1; have hz2 := Lib.hid hz2
                have hm63 : m + 1 ≤ maxLen := by unfold maxLen; omega
                have hm63 := Lib.hid hm63
                have hone := takeAll_one _ HE.out
                have hone := Lib.hid hone
                go_region_law (refine step_append_lies _ rfl (.tmp 87) (.tmp 89) 48 rfl (wo.setCell ⟨sb, so, none⟩ (.string r1)).heap.size 109 i38 _ 2 24 Try.underlying48 hi38.out hz0.out hz1.out hz2.out rfl (by decide) u m cs (by simp [Act.eval]) (rowrel_own FR.out HR.out (HP.out.laid _)) ⟨wr.heap.size + 2, 0, none⟩ 1 1 [v1, v2] (by simp [Act.eval]) rfl (cells_two_new _ _ _ _ _ HP.out.size) hone.out (by decide) hm63.out (by omega) (by simp only [World.size_setCell, World.size_drew, World.size_alloc] at *; omega) _ rfl ?_; intro g cap w3 ho3 hg3 hat hlt3; obtain ⟨q5, q6⟩ := row_far FR.out HR.out (by simp only [World.size_drew, World.size_alloc]; omega) hg3 (by rw [World.cell?_drew, World.cell?_alloc_lt _ _ _ (World.block_lt_of_cell? _ _ q3)]; exact q3) (by rw [World.frozen?_drew, World.frozen?_alloc_old _ _ _ (Nat.ne_of_lt (World.block_lt_of_cell? _ _ q3))]; exact q4))
                all_goals go_wp2
                all_goals exact ⟨⟨m + 1, r3, _, _, by omega, by go_num, rowrel_next FR.out HR.out hmn HE.out (HP.out.laid _) hg3 ho3⟩, by simp [intOf]; omega⟩
            · obtain rfl : m = n := by omega
              have HO := rowrel_end HR.out (Nat.le_refl _)
              have HO := Lib.hid HO
              have hgoal := HN.out u (.row m cs) r2 wr (by simp only [takeOneG, HE0.out, Int.toNat_natCast]; rw [HO.out]; rfl) (by have h := HR.out.below; rw [setCell_again] at h; simpa using h) (ownsRow_base HR.out.own (by have := HT.out.more; obtain ⟨_, _, _, hb, _⟩ := this; have := hb.size; simpa [puts_size] using this))
              have hgoal := Lib.hid hgoal
              go_wp2
              exact ⟨⟨k + 1, r2, by omega, by go_num, hgoal⟩, by simp [intOf]; omega⟩
      | posts =>
        simp only [GK.ty] at c0
        have c4 := c3 (Or.inr rfl)
        clear c3 c2
        cases ho : takeNum r 64 with
        | none =>
          have HE := Lib.hid ho; clear ho
          go_wp2_with (first | (go_at_call 50; refine (taken_none _ r _ _ hr (by assumption) HE.out).mono ?_; rintro e w' ⟨rfl, rfl⟩))
          exact ⟨rfl, HF.out _ (by simp only [takeOneG, HE.out]) (KeptBut.refl _ _)⟩
        | some y =>
          obtain ⟨n, r1⟩ := y
          obtain ⟨hn0, hn64⟩ : 0 ≤ n ∧ n ≤ 64 := by obtain ⟨_, _, h1, h2, _⟩ := takeNum_some ho; exact ⟨h1, h2⟩
          obtain ⟨n, rfl⟩ := Int.eq_ofNat_of_zero_le hn0
          have hr1 := takeNum_size ho
          have HE := Lib.hid ho; clear ho
          have HE0 := HE
          go_wp2_with (first | (go_at_call 50; refine (taken_some _ r r1 n _ _ hr (by assumption) (by assumption) HE.out).mono ?_; rintro e w' ⟨rfl, rfl⟩))
          have hnn : n ≤ 64 := by omega
          have FR : RowFits ⟨sb, so, none⟩ ⟨ab, ao, none⟩ r1 (wr.setCell ⟨sb, so, none⟩ (.string r1)) := ⟨World.cell?_setCell_same _ _ _ c1, by simpa using f1, by rw [World.cell?_setCell_other _ _ _ _ n2]; exact c4, by simpa using f2, n1⟩
          have R0 := rowrel_start (ks := [.txt, .txt]) (ety := 38) (n := n) FR
          have R0 := Lib.hid R0
          clear c0 c1 c4 f1 f2
          obtain ⟨wo, rfl⟩ : ∃ wo : World, wo = wr := ⟨_, rfl⟩
          go_loopw [98] (fun j w2 => ∃ (m : Nat) (r2 : ByteArray) (u : Value) (cs : List Value), m ≤ n ∧ j = .int .i64 m ∧ Hid (RowRel ⟨sb, so, none⟩ ⟨ab, ao, none⟩ [.txt, .txt] 38 n r1 (wo.setCell ⟨sb, so, none⟩ (.string r1)) m r2 u cs w2)) (fun j _ => n - (intOf j).toNat)
          case atStart => exact ⟨0, r1, _, [], by omega, rfl, R0⟩
          case round =>
            clear R0
            obtain ⟨m, r2, u, cs, hm, rfl, HR⟩ := hrel
            by_cases hmn : m < n
            · obtain ⟨d1, g1, d2, g2, hsz, hb1, hb2⟩ := rowrel_facts FR HR.out
              have FR := Lib.hid FR
              cases hta : takeAll [.txt, .txt] r2 with
              | none =>
                have HE := Lib.hid hta; clear hta
                have hr2 : r2.size ≤ maxLen := by have := HR.out.size; unfold maxLen at hr ⊢; omega
                have HX : Hid (∀ w', KeptBut wr w' (· = sb) → KeptBut wo w' (fun b => b = sb ∨ ∃ y ∈ fs, b = y.2.block)) := Lib.hid (fun w' h => by
                  have e1 : KeptBut wo (((wo.setCell ⟨sb, so, none⟩ (.string r1)).setCell ⟨sb, so, none⟩ (.string r2)).setCell ⟨ab, ao, none⟩ u) (fun b => b = sb ∨ ∃ y ∈ fs, b = y.2.block) :=
                    ((KeptBut.setCell _ _ _ (Or.inl rfl)).trans (KeptBut.setCell _ _ _ (Or.inl rfl))).trans (KeptBut.setCell _ _ _ (Or.inr HB.out))
                  exact (e1.trans (KeptBut.of_below (by have := HR.out.below; simpa using this))).trans (h.mono (fun _ _ e => Or.inl e)))
                go_wp2_with (first | (go_at_call 41; go_loud (refine (pair_none sb so r2 _ .txt .txt 38 _ _ hr2 (by assumption) (by assumption) HE.out).mono ?_); rintro e w' ⟨rfl, hB⟩))
                exact ⟨rfl, HF.out _ (by simp only [takeOneG, HE0.out, Int.toNat_natCast]; rw [rowrel_fail HR.out hmn HE.out]; rfl) (HX.out _ hB.out)⟩
              | some y =>
                obtain ⟨vs, r3⟩ := y
                obtain ⟨v1, v2, rfl⟩ := takeAll_two hta
                have HE := Lib.hid hta; clear hta
                have hr2 : r2.size ≤ maxLen := by have := HR.out.size; unfold maxLen at hr ⊢; omega
                go_wp2_with (first | (go_at_call 41; go_loud (refine (pair_some sb so r2 r3 _ .txt .txt 38 _ _ v1 v2 hr2 (by assumption) (by assumption) HE.out).mono ?_); rintro e w' ⟨rfl, hP⟩; obtain ⟨q1, q2, q3, q4⟩ := hP.facts n1 d2 g2; have hq5 := hP.size; have HP := Lib.hid hP; clear hP d1 g1 d2 g2))
                have hab : ab < wr.heap.size + 2 := by have := World.block_lt_of_cell? _ _ q3; simp only at this; omega
                obtain ⟨i38, hi38, hz0, hz1, hz2⟩ := info_parts info38
                have hi38 := Lib.hid hi38; have hz0 := Lib.hid hz0; have hz1 := Lib.hid hz1; have hz2 := Lib.hid hz2
                have hm63 : m + 1 ≤ maxLen := by unfold maxLen; omega
                have hm63 := Lib.hid hm63
                have hone := takeAll_one _ HE.out
                have hone := Lib.hid hone
                go_region_law (refine step_append_lies _ rfl (.tmp 110) (.tmp 112) 29 rfl (wo.setCell ⟨sb, so, none⟩ (.string r1)).heap.size 38 i38 _ 2 32 Try.underlying29 hi38.out hz0.out hz1.out hz2.out rfl (by decide) u m cs (by simp [Act.eval]) (rowrel_own FR.out HR.out (HP.out.laid _)) ⟨wr.heap.size + 2, 0, none⟩ 1 1 [v1, v2] (by simp [Act.eval]) rfl (cells_two_new _ _ _ _ _ HP.out.size) hone.out (by decide) hm63.out (by omega) (by simp only [World.size_setCell, World.size_drew, World.size_alloc] at *; omega) _ rfl ?_; intro g cap w3 ho3 hg3 hat hlt3; obtain ⟨q5, q6⟩ := row_far FR.out HR.out (by simp only [World.size_drew, World.size_alloc]; omega) hg3 (by rw [World.cell?_drew, World.cell?_alloc_lt _ _ _ (World.block_lt_of_cell? _ _ q3)]; exact q3) (by rw [World.frozen?_drew, World.frozen?_alloc_old _ _ _ (Nat.ne_of_lt (World.block_lt_of_cell? _ _ q3))]; exact q4))
                all_goals go_wp2
                all_goals exact ⟨⟨m + 1, r3, _, _, by omega, by go_num, rowrel_next FR.out HR.out hmn HE.out (HP.out.laid _) hg3 ho3⟩, by simp [intOf]; omega⟩
            · obtain rfl : m = n := by omega
              have HO := rowrel_end HR.out (Nat.le_refl _)
              have HO := Lib.hid HO
              have hgoal := HN.out u (.row m cs) r2 wr (by simp only [takeOneG, HE0.out, Int.toNat_natCast]; rw [HO.out]; rfl) (by have h := HR.out.below; rw [setCell_again] at h; simpa using h) (ownsRow_base HR.out.own (by have := HT.out.more; obtain ⟨_, _, _, hb, _⟩ := this; have := hb.size; simpa [puts_size] using this))
              have hgoal := Lib.hid hgoal
              go_wp2
              exact ⟨⟨k + 1, r2, by omega, by go_num, hgoal⟩, by simp [intOf]; omega⟩
    · go_wp2
      go_end0
      exact tookG_end HT.out (by omega)
end Go.Proofs.Ytibmaeckmnkmjaa
