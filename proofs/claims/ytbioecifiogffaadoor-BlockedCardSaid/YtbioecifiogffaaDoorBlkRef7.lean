/- proseref.paragraph: what it gives. Condition: no more than 2^24 bytes. -/
import Derived.Test.YtbioecifiogffaaDoorBlkRef6
namespace Go.Proofs.YtbioecifiogffaaDoor
open Go.RowKit

/-- Lines behind a text, each behind a line feed. -/
def jn (A : List UInt8) (l : List Ln) : List UInt8 := A ++ l.flatMap (fun s => 10 :: s)
theorem jn_nil (A : List UInt8) : jn A [] = A := by simp [jn]
theorem jn_cons (A : List UInt8) (s : Ln) (l : List Ln) : jn A (s :: l) = jn (A ++ 10 :: s) l := by simp [jn]
theorem joinN_jn (s : Ln) (l : List Ln) : joinN (s :: l) = jn s l := by
  induction l generalizing s with
  | nil => simp [joinN, jn]
  | cons x r ih =>
    have h : joinN (s :: x :: r) = s ++ [10] ++ joinN (x :: r) := rfl
    rw [h, ih]
    simp [jn]
theorem trm_len (s : Ln) : (trm s).length ≤ s.length := by
  unfold trm Lib.trimS Lib.trimLeftS Lib.trimRightS
  refine Nat.le_trans (List.dropWhile_sublist _).length_le ?_
  rw [List.length_reverse]
  exact Nat.le_trans (List.dropWhile_sublist _).length_le (by simp)

set_option maxHeartbeats 4000000 in
set_option maxRecDepth 100000 in
theorem rparagraph_any (g : Nat) (v : Value) (s0 : Ln) (t : List Ln) (d : Nat) (w : World) (h : LnAt w g v (s0 :: t)) (hL : tot (s0 :: t) ≤ 16777216) (hd3 : d ≤ 1000) :
    Calls Tryd.prog 34 #[v, .int .i64 d] w fun e w' => ∃ u N, e = .returned (.tuple #[u, .int .i64 ((N : Nat) : Int)]) ∧ N ≤ t.length + 1 ∧ (s0 :: t).drop N = (prg d t).2 ∧ Evs w' 61 u (EL (leafE 0 0 (joinN (trm s0 :: (prg d t).1)) true)) ∧ (∀ b, u.ownBlock = some b → w.heap.size ≤ b) ∧ Fresh w w' := by
  rw [joinN_jn]
  obtain ⟨X, hX⟩ : ∃ X, X = jn (trm s0) (prg d t).1 := ⟨_, rfl⟩
  obtain ⟨Y, hY⟩ : ∃ Y, Y = (prg d t).2 := ⟨_, rfl⟩
  rw [← hX, ← hY]
  have htl := trm_len s0
  obtain ⟨l, hl⟩ : ∃ l, l = s0 :: t := ⟨_, rfl⟩
  rw [← hl] at h hL ⊢
  have hlen := tot_len l
  have hl1 : 1 ≤ l.length := by rw [hl]; simp
  have hl2 : t.length + 1 = l.length := by rw [hl]; simp
  rw [hl2]
  have hl0 : l[0]? = some s0 := by rw [hl]; rfl
  have h0 : jn (trm s0) (prg d (l.drop 1)).1 = X ∧ (prg d (l.drop 1)).2 = Y ∧ (trm s0).length + tot (l.drop 1) ≤ 16777216 := by
    refine ⟨by rw [hl, hX]; rfl, by rw [hl, hY]; rfl, ?_⟩
    rw [hl] at hL ⊢
    rw [tot_cons] at hL
    simp only [List.drop_succ_cons, List.drop_zero]
    omega
  have htr := fun W : World => trim_any ⟨s0.toArray⟩ W (by rw [mk_size]; have := tot_cons s0 t; rw [← hl] at this; omega)
  rw [show (⟨s0.toArray⟩ : ByteArray).data.toList = s0 from rfl] at htr
  obtain ⟨cap, off, he, h1, h2, hcell⟩ := h.line hl0
  rw [Nat.add_zero] at hcell
  subst he
  have hleaf := fun (A : ByteArray) (W : World) => leaf_any 0 0 A true W
  have HLF := Lib.hid hleaf
  have H := Lib.hid h
  have H0 := Lib.hid h0
  have HTR := Lib.hid htr
  clear h h0 hX hY hl hl2 hleaf htr hl0
  go_enter Tryd.func34, Tryd.ntmps34
  go_wp2_with fail
  refine (HTR.out _).mono ?_
  rintro r w2 ⟨rfl, hk2⟩
  have HF0 := Lib.hid hk2
  clear hk2 hcell
  go_wp2
  go_loopw [6, 7] (fun x i wr => ∃ (j : Nat) (A : ByteArray), i = .int .i64 j ∧ 1 ≤ j ∧ j ≤ l.length ∧ x = .string A ∧ (jn A.data.toList (prg d (l.drop j)).1 = X ∧ (prg d (l.drop j)).2 = Y ∧ A.size + tot (l.drop j) ≤ 16777216) ∧ Fresh w wr) (fun _ i _ => l.length - (intOf i).toNat)
  case atStart => exact ⟨1, ⟨(trm s0).toArray⟩, rfl, Nat.le_refl _, hl1, rfl, ⟨H0.out.1, H0.out.2.1, by rw [mk_size]; exact H0.out.2.2⟩, HF0.out⟩
  case round =>
    obtain ⟨j, A, rfl, hj1, hj, rfl, ⟨hr1, hr2, hr3⟩, hF⟩ := hrel
    by_cases hlt : j < l.length
    · obtain ⟨s, hs, hd⟩ := line_at hlt
      obtain ⟨cap', off', he, h1', h2', hcell⟩ := (H.out.fresh hF).line hs
      cases he
      rw [hd] at hr1 hr2 hr3
      rw [tot_cons] at hr3
      have hbk := fun W : World => rBlank_any ⟨s.toArray⟩ W (by rw [mk_size]; omega)
      have hst := fun W : World => starts_any ⟨s.toArray⟩ d W (by rw [mk_size]; omega) hd3
      have htr := fun W : World => trim_any ⟨s.toArray⟩ W (by rw [mk_size]; omega)
      rw [show (⟨s.toArray⟩ : ByteArray).data.toList = s from rfl] at hbk hst htr
      have htl2 := trm_len s
      unfold prg at hr1 hr2
      cases hb : (blank s || decide (0 < sta s d)) with
      | true =>
        rw [hb] at hr1 hr2
        have e1 : A.data.toList = X := by simpa [jn_nil] using hr1
        have e2 : l.drop j = Y := by rw [hd]; simpa using hr2
        have hle := HLF.out A
        rw [e1] at hle
        have hcase : blank s = true ∨ (blank s = false ∧ (0 : Int) < (sta s d : Int)) := by
          cases hb1 : blank s with
          | true => exact .inl rfl
          | false =>
            rw [hb1] at hb
            exact .inr ⟨rfl, by have := of_decide_eq_true (by simpa using hb : decide (0 < sta s d) = true); omega⟩
        have HLE := Lib.hid hle
        have HE2 := Lib.hid e2
        have HBK := Lib.hid hbk
        have HST := Lib.hid hst
        have HF := Lib.hid hF
        generalize sta s d = S at *
        clear hr1 hr2 hle e1 e2 hbk hst htr hF hd hs hb htl2
        rcases hcase with hb1 | ⟨hb1, hS⟩
        all_goals
          have hbk := HBK.out
          rw [hb1] at hbk
          have HBK2 := Lib.hid hbk
          clear hbk hb1 HBK
          go_wp2_with fail
          refine (HBK2.out _).mono ?_
          rintro r w3 ⟨rfl, hk3⟩
          have hF3 := HF.out.tr hk3
          have hcell3 := hk3.cell_some hcell (fun h => h)
          have HF3 := Lib.hid hF3
          clear hk3 hF3
          go_wp2_with fail
          refine (HST.out _).mono ?_
          rintro r w4 ⟨rfl, hk4⟩
          have HF4 := Lib.hid (HF3.out.tr hk4)
          clear hk4
          go_wp2_with fail
          refine (HLE.out _).mono ?_
          rintro r w5 ⟨u, rfl, he5, ho5, hk5⟩
          have HE5 := Lib.hid he5
          have HO5 := Lib.hid (fun b hb => Nat.le_trans HF4.out.size (ho5 b hb) : ∀ b, u.ownBlock = some b → w.heap.size ≤ b)
          have HK5 := Lib.hid (HF4.out.tr hk5)
          clear he5 ho5 hk5
          go_wp2
          go_ret2
          exact ⟨u, j, rfl, by omega, HE2.out, HE5.out, HO5.out, HK5.out⟩
      | false =>
        rw [hb] at hr1 hr2
        obtain ⟨hb1, hb2⟩ : blank s = false ∧ sta s d = 0 := by simpa using hb
        have hms := mk_size (trm s)
        have h1s : (⟨#[10]⟩ : ByteArray).size = 1 := rfl
        have hr : jn (A ++ ⟨#[10]⟩ ++ ⟨(trm s).toArray⟩).data.toList (prg d (l.drop (j + 1))).1 = X ∧ (prg d (l.drop (j + 1))).2 = Y ∧ (A ++ ⟨#[10]⟩ ++ ⟨(trm s).toArray⟩).size + tot (l.drop (j + 1)) ≤ 16777216 := by
          refine ⟨?_, by simpa using hr2, by rw [ByteArray.size_append, ByteArray.size_append, mk_size (trm s)]; omega⟩
          simp only [Bool.false_eq_true, if_false, jn_cons] at hr1
          rw [← hr1]
          simp [ByteArray.data_append]
        rw [hb1] at hbk
        rw [hb2] at hst
        have HR := Lib.hid hr
        have HBK := Lib.hid hbk
        have HST := Lib.hid hst
        have HTR := Lib.hid htr
        have HF := Lib.hid hF
        have hAs : A.size ≤ 16777216 := by omega
        have htm : (trm s).length ≤ 16777216 := by omega
        clear hr1 hr2 hr hbk hst htr hF hd hs hb hb1 hb2 htl2
        go_wp2_with fail
        refine (HBK.out _).mono ?_
        rintro r w3 ⟨rfl, hk3⟩
        have hcell3 := hk3.cell_some hcell (fun h => h)
        have HF3 := Lib.hid (HF.out.tr hk3)
        clear hk3
        go_wp2_with fail
        refine (HST.out _).mono ?_
        rintro r w4 ⟨rfl, hk4⟩
        have hcell4 := hk4.cell_some hcell3 (fun h => h)
        have HF4 := Lib.hid (HF3.out.tr hk4)
        clear hk4
        go_wp2_with fail
        refine (HTR.out _).mono ?_
        rintro r w5 ⟨rfl, hk5⟩
        have HF5 := Lib.hid (HF4.out.tr hk5)
        clear hk5
        go_wp2
        go_roundw
        case rel => exact ⟨j + 1, A ++ ⟨#[10]⟩ ++ ⟨(trm s).toArray⟩, by go_num, by omega, by omega, rfl, HR.out, HF5.out⟩
        case measure => simp [intOf]; omega
    · obtain rfl : j = l.length := by omega
      rw [List.drop_length] at hr1 hr2
      have e1 : A.data.toList = X := by simpa [prg, jn_nil] using hr1
      have e2 : l.drop l.length = Y := by rw [List.drop_length]; exact hr2
      have hle := HLF.out A
      rw [e1] at hle
      have HLE := Lib.hid hle
      have HE2 := Lib.hid e2
      have HF := Lib.hid hF
      clear hr1 hr2 hr3 hle e1 e2 hF hlt
      go_wp2_with fail
      refine (HLE.out _).mono ?_
      rintro r w4 ⟨u, rfl, he4, ho4, hk4⟩
      have HE4 := Lib.hid he4
      have HO4 := Lib.hid (fun b hb => Nat.le_trans HF.out.size (ho4 b hb) : ∀ b, u.ownBlock = some b → w.heap.size ≤ b)
      have HK4 := Lib.hid (HF.out.tr hk4)
      clear he4 ho4 hk4
      go_wp2
      go_ret2
      exact ⟨u, l.length, rfl, by omega, HE2.out, HE4.out, HO4.out, HK4.out⟩
end Go.Proofs.YtbioecifiogffaaDoor
