/- The two readers of answers tell the same. -/
import Derived.Test.YtibmaeckmnkmjaaM1
namespace Go.Proofs.Ytibmaeckmnkmjaa
open Go.RowKit

theorem two_texts {s : ByteArray} : takeAll [.txt, .txt] s = match takeText s with
    | none => none
    | some (t, r) => (takeText r).map fun x => ([.string t, .string x.1], x.2) := by
  simp only [takeAll, takeOne]
  cases h1 : takeText s with
  | none => rfl
  | some y =>
    obtain ⟨t, r⟩ := y
    simp only [Option.map_some]
    cases h2 : takeText r <;> rfl

theorem row_ok : ∀ (n : Nat) {s r : ByteArray} {cs : List Value}, takeRow [.txt, .txt] n s = some (cs, r) → rowR n s false = (cs, r, false) ∧ ∃ ps, cs = postCells ps ∧ ps.length = n
  | 0, s, r, cs, h => by
    simp only [takeRow, Option.some.injEq, Prod.mk.injEq] at h
    obtain ⟨rfl, rfl⟩ := h
    exact ⟨rfl, [], rfl, rfl⟩
  | n + 1, s, r, cs, h => by
    rw [takeRow, two_texts] at h
    cases h1 : takeText s with
    | none => rw [h1] at h; simp at h
    | some y =>
      obtain ⟨t1, r1⟩ := y
      rw [h1] at h
      cases h2 : takeText r1 with
      | none => simp [h2] at h
      | some z =>
        obtain ⟨t2, r2⟩ := z
        simp only [h2, Option.map_some, Option.map_eq_some_iff, Prod.exists, Prod.mk.injEq] at h
        obtain ⟨us, r', h3, rfl, rfl⟩ := h
        obtain ⟨e, ps, rfl, hl⟩ := row_ok n h3
        refine ⟨?_, (t1, t2) :: ps, rfl, by simp [hl]⟩
        simp only [rowR, Bool.false_eq_true, if_false, textR_ok h1, textR_ok h2, e]

theorem row_no : ∀ (n : Nat) {s : ByteArray}, takeRow [.txt, .txt] n s = none → (rowR n s false).2.2 = true
  | 0, s, h => by simp [takeRow] at h
  | n + 1, s, h => by
    rw [takeRow, two_texts] at h
    simp only [rowR, Bool.false_eq_true, if_false]
    cases h1 : takeText s with
    | none =>
      rw [show (textR s false).2.2 = true from textR_no h1]
      rw [show (textR (textR s false).2.1 true).2.2 = true from textR_bad _, rowR_bad]
    | some y =>
      obtain ⟨t1, r1⟩ := y
      rw [h1] at h
      rw [textR_ok h1]
      cases h2 : takeText r1 with
      | none =>
        simp only
        rw [show (textR r1 false).2.2 = true from textR_no h2, rowR_bad]
      | some z =>
        obtain ⟨t2, r2⟩ := z
        simp only [h2, Option.map_some, Option.map_eq_none_iff] at h
        simp only [textR_ok h2]
        exact row_no n h

def ans4 : List FK := [.num, .num, .err, .num]

theorem takeAllG_append (ks : List FK) (k : GK) (s : ByteArray) : takeAllG (ks.map .flat ++ [k]) s = match takeAll ks s with
    | none => none
    | some (vs, r) => (takeOneG k r).map fun x => (vs.map .val ++ [x.1], x.2) := by
  induction ks generalizing s with
  | nil =>
    simp only [List.map_nil, List.nil_append, takeAll]
    cases h : takeOneG k s with
    | none => rw [takeAllG_cons_none h]; rfl
    | some y => rw [takeAllG_cons_some h]; rfl
  | cons f ks ih =>
    cases ho : takeOne f s with
    | none => rw [takeAll_cons_none ho, List.map_cons, List.cons_append, takeAllG_cons_none (by simp [takeOneG, ho])]
    | some y =>
      obtain ⟨v, r1⟩ := y
      rw [takeAll_cons_some ho, List.map_cons, List.cons_append, takeAllG_cons_some (v := .val v) (r := r1) (by simp [takeOneG, ho]), ih r1]
      cases takeAll ks r1 with
      | none => rfl
      | some z =>
        obtain ⟨us, r2⟩ := z
        simp only [Option.map_some]
        cases takeOneG k r2 <;> rfl

theorem ansR_run (S : ByteArray) : [.int .i64 (ansR S).1, .int .i64 (ansR S).2.1, .int .i64 (ansR S).2.2.1, .int .i64 (ansR S).2.2.2.1] = (runR ans4 (markR 65 S).1 (markR 65 S).2).1 ∧
    (ansR S).2.2.2.2 = (let r := runR ans4 (markR 65 S).1 (markR 65 S).2
      let r4 := mostR 64 r.2.1 r.2.2
      let r5 := rowR r4.1.toNat r4.2.1 r4.2.2
      (r5.1, fineR r5.2.1 r5.2.2)) := ⟨rfl, rfl⟩

theorem ans_bad {S : ByteArray} (h : (runR ans4 (markR 65 S).1 (markR 65 S).2).2.2 = true) : (ansR S).2.2.2.2.2 = false := by
  have e := congrArg Prod.snd (ansR_run S).2
  rw [e]
  simp only [h]
  rw [mostR_bad, rowR_bad]
  rfl

theorem ans_same (S : ByteArray) : match fromG mA ansKs S with
    | none => (ansR S).2.2.2.2.2 = false
    | some fvs => ∃ (x : AnsV) (ps : List (ByteArray × ByteArray)), fvs = x.fvs ∧ ansR S = (x.s, x.q, x.e, x.a, x.cs, true) ∧ x.cs = postCells ps ∧ ps.length = x.n ∧ x.n ≤ 64 := by
  have hk : ansKs = ans4.map .flat ++ [.posts] := rfl
  unfold fromG
  by_cases hm : S.data.toList.head? = some 65
  · have ht : takeMark mA S = some (S.extract 1 S.size) := take1 hm
    have hM : markR 65 S = (S.extract 1 S.size, false) := by unfold markR; rw [if_pos hm]
    rw [ht, hk]
    simp only [takeAllG_append]
    cases h4 : takeAll ans4 (S.extract 1 S.size) with
    | none => exact ans_bad (by rw [hM]; exact runR_no ans4 h4)
    | some y =>
      obtain ⟨vs, r⟩ := y
      have hr4 := runR_ok ans4 h4
      obtain ⟨e1, e2⟩ := ansR_run S
      rw [hM, hr4] at e1 e2
      simp only at e1 e2
      simp only [takeOneG]
      cases h5 : takeNum r 64 with
      | none =>
        simp only [Option.map_none]
        rw [e2]
        simp only [mostR_no h5]
        rw [rowR_bad]; rfl
      | some z =>
        obtain ⟨n, r1⟩ := z
        obtain ⟨_, _, hn0, hn64, _⟩ := takeNum_some h5
        obtain ⟨n, rfl⟩ := Int.eq_ofNat_of_zero_le hn0
        rw [mostR_ok (by decide) h5] at e2
        simp only [Int.toNat_natCast] at e2 ⊢
        cases h6 : takeRow [.txt, .txt] n r1 with
        | none =>
          simp only [Option.map_none]
          rw [e2]
          simp only [fineR, row_no n h6, Bool.not_true, Bool.false_and]
        | some q =>
          obtain ⟨cs, r2⟩ := q
          obtain ⟨e3, ps, rfl, hl⟩ := row_ok n h6
          rw [e3] at e2
          simp only [Option.map_some]
          by_cases hz : r2.size = 0
          · rw [if_pos hz]
            have hf : fineR r2 false = true := by simp [fineR, size_zero.2 hz]
            rw [hf] at e2
            generalize ansR S = R at *
            obtain ⟨a, b, c, d, l, f⟩ := R
            simp only [Prod.mk.injEq] at e2
            obtain ⟨rfl, rfl⟩ := e2
            exact ⟨⟨a, b, c, d, n, postCells ps⟩, ps, by rw [← e1]; rfl, rfl, rfl, hl, (by show n ≤ 64; omega)⟩
          · rw [if_neg hz]
            rw [e2]
            simp only [fineR, Bool.not_false, Bool.true_and]
            cases hb : r2.toList.isEmpty with
            | false => rfl
            | true => exact absurd (size_zero.1 hb) hz
  · have ht : takeMark mA S = none := take1_no hm
    have hM : markR 65 S = (S, true) := by unfold markR; rw [if_neg hm]
    rw [ht]
    exact ans_bad (by rw [hM]; exact runR_bad _ _)
end Go.Proofs.Ytibmaeckmnkmjaa
