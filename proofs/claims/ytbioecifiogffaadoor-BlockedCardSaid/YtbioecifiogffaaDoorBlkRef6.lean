/- proseref.fenced, paragraph: what they give. Condition: no more than 2^24 bytes. -/
import Derived.Test.YtbioecifiogffaaDoorBlkRef5
namespace Go.Proofs.YtbioecifiogffaaDoor
open Go.RowKit

theorem line_at {l : List Ln} {j : Nat} (h : j < l.length) : ∃ s, l[j]? = some s ∧ l.drop j = s :: l.drop (j + 1) := by
  refine ⟨l[j], List.getElem?_eq_getElem h, List.drop_eq_getElem_cons h⟩
theorem isFen_long {s : Ln} (h : isFen s = true) : 3 ≤ s.length := by
  unfold isFen at h
  split at h
  · simp
  · cases h
theorem mk_size (s : Ln) : (⟨s.toArray⟩ : ByteArray).size = s.length := by simp [ByteArray.size]
theorem mk_of (l : List UInt8) : ∃ A : ByteArray, (⟨l.toArray⟩ : ByteArray) = A ∧ A.data.toList = l ∧ A.size = l.length := ⟨_, rfl, rfl, by simp [ByteArray.size]⟩
theorem mk_rest (s : Ln) (k : Nat) : ((⟨s.toArray⟩ : ByteArray).extract k s.length).data.toList = s.drop k := by
  have := rest_list ⟨s.toArray⟩ k
  rw [mk_size] at this
  exact this

set_option maxHeartbeats 4000000 in
set_option maxRecDepth 100000 in
theorem fenced_any (g : Nat) (v : Value) (s0 : Ln) (t : List Ln) (w : World) (h : LnAt w g v (s0 :: t)) (hL : tot (s0 :: t) ≤ 16777216) :
    Calls Tryd.prog 28 #[v] w fun e w' => ∃ u N, e = .returned (.tuple #[u, .int .i64 ((N : Nat) : Int)]) ∧ N ≤ t.length + 1 ∧ (s0 :: t).drop N = (fnc t).2 ∧ Evs w' 61 u (EL (leafE 5 0 (fnc t).1 false)) ∧ (∀ b, u.ownBlock = some b → w.heap.size ≤ b) ∧ Fresh w w' := by
  obtain ⟨X, hX⟩ : ∃ X, X = (fnc t).1 := ⟨_, rfl⟩
  obtain ⟨Y, hY⟩ : ∃ Y, Y = (fnc t).2 := ⟨_, rfl⟩
  rw [← hX, ← hY]
  obtain ⟨l, hl⟩ : ∃ l, l = s0 :: t := ⟨_, rfl⟩
  rw [← hl] at h hL ⊢
  have hlen := tot_len l
  have hl1 : 1 ≤ l.length := by rw [hl]; simp
  have hl2 : t.length + 1 = l.length := by rw [hl]; simp
  rw [hl2]
  have h0 : ([] : List UInt8) ++ (fnc (l.drop 1)).1 = X ∧ (fnc (l.drop 1)).2 = Y ∧ 0 + tot (l.drop 1) ≤ 16777216 := by
    refine ⟨by rw [hl, hX]; rfl, by rw [hl, hY]; rfl, by have := tot_drop l 1; omega⟩
  obtain ⟨a, cap, rfl⟩ := h.form
  have hleaf := fun (A : ByteArray) (W : World) => leaf_any 5 0 A false W
  have HLF := Lib.hid hleaf
  have H := Lib.hid h
  have H0 := Lib.hid h0
  clear h h0 hX hY hl hl2 hleaf
  go_enter Tryd.func28, Tryd.ntmps28
  go_wp2
  go_loopw [4, 5] (fun x i wr => ∃ (j : Nat) (A : ByteArray), i = .int .i64 j ∧ 1 ≤ j ∧ j ≤ l.length ∧ x = .string A ∧ (A.data.toList ++ (fnc (l.drop j)).1 = X ∧ (fnc (l.drop j)).2 = Y ∧ A.size + tot (l.drop j) ≤ 16777216) ∧ Fresh w wr) (fun _ i _ => l.length - (intOf i).toNat)
  case atStart => exact ⟨1, ⟨#[]⟩, rfl, Nat.le_refl _, hl1, rfl, H0.out, Keeps.refl _ _⟩
  case round =>
    obtain ⟨j, A, rfl, hj1, hj, rfl, ⟨hr1, hr2, hr3⟩, hF⟩ := hrel
    by_cases hlt : j < l.length
    · obtain ⟨s, hs, hd⟩ := line_at hlt
      obtain ⟨cap', off, he, h1, h2, hcell⟩ := (H.out.fresh hF).line hs
      cases he
      rw [hd] at hr1 hr2 hr3
      rw [tot_cons] at hr3
      have hfe := fun W : World => begins_any ⟨s.toArray⟩ ⟨#[96, 96, 96]⟩ W (by rw [mk_size]; omega) (by decide)
      rw [show (⟨#[96, 96, 96]⟩ : ByteArray).data.toList = [96, 96, 96] from rfl, show (⟨s.toArray⟩ : ByteArray).data.toList = s from rfl, isFen_pre] at hfe
      unfold fnc at hr1 hr2
      cases hb : isFen s with
      | true =>
        rw [hb] at hfe hr1 hr2
        have h3 := isFen_long hb
        have hbk := fun W : World => rBlank_any ((⟨s.toArray⟩ : ByteArray).extract 3 s.length) W (by simp; omega)
        rw [mk_rest] at hbk
        have i3 : (3 : Int) ≤ (s.length : Int) := by omega
        cases hk : blank (s.drop 3) with
        | true =>
          rw [hk] at hbk hr1 hr2
          have e1 : A.data.toList = X := by simpa using hr1
          have e2 : l.drop (j + 1) = Y := by simpa using hr2
          have hle := HLF.out A
          rw [e1] at hle
          have HLE := Lib.hid hle
          have HE2 := Lib.hid e2
          have HFE := Lib.hid hfe
          have HBK := Lib.hid hbk
          have HF := Lib.hid hF
          clear hr1 hr2 hle e1 e2 hfe hbk hF hd hs hb hk
          go_wp2_with fail
          refine (HFE.out _).mono ?_
          rintro r w2 ⟨rfl, hk2⟩
          have HK2 := Lib.hid (HF.out.tr hk2)
          clear hk2
          go_wp2_with fail
          refine (HBK.out _).mono ?_
          rintro r w3 ⟨rfl, hk3⟩
          have HK3 := Lib.hid (HK2.out.tr hk3)
          clear hk3
          go_wp2_with fail
          refine (HLE.out _).mono ?_
          rintro r w4 ⟨u, rfl, he4, ho4, hk4⟩
          have HE4 := Lib.hid he4
          have HO4 := Lib.hid (fun b hb => Nat.le_trans HK3.out.size (ho4 b hb) : ∀ b, u.ownBlock = some b → w.heap.size ≤ b)
          have HK4 := Lib.hid (HK3.out.tr hk4)
          clear he4 ho4 hk4
          go_wp2
          go_ret2
          exact ⟨u, j + 1, rfl, by omega, HE2.out, HE4.out, HO4.out, HK4.out⟩
        | false =>
          rw [hk] at hbk hr1 hr2
          have hr : (A ++ ⟨s.toArray⟩ ++ ⟨#[10]⟩).data.toList ++ (fnc (l.drop (j + 1))).1 = X ∧ (fnc (l.drop (j + 1))).2 = Y ∧ (A ++ ⟨s.toArray⟩ ++ ⟨#[10]⟩).size + tot (l.drop (j + 1)) ≤ 16777216 := by
            refine ⟨by rw [← hr1]; simp [ByteArray.data_append], by simpa using hr2, by rw [ByteArray.size_append, ByteArray.size_append, mk_size s]; have : (⟨#[10]⟩ : ByteArray).size = 1 := rfl; omega⟩
          have HR := Lib.hid hr
          have HFE := Lib.hid hfe
          have HBK := Lib.hid hbk
          have HF := Lib.hid hF
          have hms := mk_size s
          have hAs : A.size ≤ 16777216 := by omega
          have h1s : (⟨#[10]⟩ : ByteArray).size = 1 := rfl
          clear hr1 hr2 hr hfe hbk hF hd hs hb hk
          go_wp2_with fail
          refine (HFE.out _).mono ?_
          rintro r w2 ⟨rfl, hk2⟩
          have HK2 := Lib.hid (HF.out.tr hk2)
          clear hk2
          go_wp2_with fail
          refine (HBK.out _).mono ?_
          rintro r w3 ⟨rfl, hk3⟩
          have HK3 := Lib.hid (HK2.out.tr hk3)
          clear hk3
          go_wp2
          go_roundw
          case rel => exact ⟨j + 1, A ++ ⟨s.toArray⟩ ++ ⟨#[10]⟩, by go_num, by omega, by omega, rfl, HR.out, HK3.out⟩
          case measure => simp [intOf]; omega
      | false =>
        rw [hb] at hfe hr1 hr2
        have hr : (A ++ ⟨s.toArray⟩ ++ ⟨#[10]⟩).data.toList ++ (fnc (l.drop (j + 1))).1 = X ∧ (fnc (l.drop (j + 1))).2 = Y ∧ (A ++ ⟨s.toArray⟩ ++ ⟨#[10]⟩).size + tot (l.drop (j + 1)) ≤ 16777216 := by
          refine ⟨by rw [← hr1]; simp [ByteArray.data_append], by simpa using hr2, by rw [ByteArray.size_append, ByteArray.size_append, mk_size s]; have : (⟨#[10]⟩ : ByteArray).size = 1 := rfl; omega⟩
        have HR := Lib.hid hr
        have HFE := Lib.hid hfe
        have HF := Lib.hid hF
        have hms := mk_size s
        have hAs : A.size ≤ 16777216 := by omega
        have h1s : (⟨#[10]⟩ : ByteArray).size = 1 := rfl
        clear hr1 hr2 hr hfe hF hd hs hb
        go_wp2_with fail
        refine (HFE.out _).mono ?_
        rintro r w2 ⟨rfl, hk2⟩
        have HK2 := Lib.hid (HF.out.tr hk2)
        clear hk2
        go_wp2
        go_roundw
        case rel => exact ⟨j + 1, A ++ ⟨s.toArray⟩ ++ ⟨#[10]⟩, by go_num, by omega, by omega, rfl, HR.out, HK2.out⟩
        case measure => simp [intOf]; omega
    · obtain rfl : j = l.length := by omega
      rw [List.drop_length] at hr1 hr2
      have e1 : A.data.toList = X := by simpa [fnc] using hr1
      have e2 : l.drop l.length = Y := by rw [List.drop_length]; exact hr2
      have hle := HLF.out A
      rw [e1] at hle
      have HLE := Lib.hid hle
      have HE2 := Lib.hid e2
      have HF := Lib.hid hF
      clear hr1 hr2 hr3 hle e1 e2 hF hlt
      go_wp2_with fail
      refine (HLE.out _).mono ?_
      rintro r w4 ⟨u, rfl, he4, ho4, hk4⟩
      have HE4 := Lib.hid he4
      have HO4 := Lib.hid (fun b hb => Nat.le_trans HF.out.size (ho4 b hb) : ∀ b, u.ownBlock = some b → w.heap.size ≤ b)
      have HK4 := Lib.hid (HF.out.tr hk4)
      clear he4 ho4 hk4
      go_wp2
      go_ret2
      exact ⟨u, l.length, rfl, by omega, HE2.out, HE4.out, HO4.out, HK4.out⟩
end Go.Proofs.YtbioecifiogffaaDoor
