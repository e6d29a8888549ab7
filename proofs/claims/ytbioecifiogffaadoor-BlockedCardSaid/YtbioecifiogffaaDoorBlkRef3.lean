/- proseref.trim, leaf; rows of lines. Condition: the text has at most 2^40 bytes. -/
import Derived.Test.YtbioecifiogffaaDoorBlkRef2
import Derived.Test.YtbioecifiogffaaDoorBlkTrim
import Derived.Test.YtbioecifiogffaaDoorInlProg2
import Derived.Lib.TrimByte
namespace Go.Proofs.YtbioecifiogffaaDoor
open Go.RowKit

theorem bl_false {c : UInt8} (h : bl c = false) : c ≠ 32 ∧ c ≠ 9 := by
  rw [bl_eq] at h
  simpa using h
theorem bl_true {c : UInt8} (h : bl c = true) : c = 32 ∨ c = 9 := by
  rw [bl_eq] at h
  simpa using h
theorem last_snoc {X : ByteArray} (h : 0 < X.size) : X.data.toList = (X.extract 0 (X.size - 1)).data.toList ++ [X[X.size - 1]'(by omega)] := by
  rw [Lib.extract_data, List.drop_zero, Nat.sub_zero]
  have hl : X.data.toList.length = X.size := by simp
  have h1 : X.size - 1 < X.data.toList.length := by omega
  have h2 := List.take_append_getElem h1
  rw [show X.size - 1 + 1 = X.data.toList.length by omega, List.take_length] at h2
  conv => lhs; rw [← h2]
  simp [ByteArray.getElem_eq_getElem_data]

set_option maxHeartbeats 4000000 in
theorem trim_any (s : ByteArray) (w : World) (hs : s.size ≤ 1099511627776) : Calls Tryd.prog 30 #[.string s] w fun e w' => e = .returned (.string ⟨(trm s.data.toList).toArray⟩) ∧ Fresh w w' := by
  obtain ⟨R, hR⟩ : ∃ R, R = trm s.data.toList := ⟨_, rfl⟩
  rw [← hR]
  have HR := Lib.hid hR.symm
  clear hR
  go_enter Tryd.func30, Tryd.ntmps30
  go_wp2
  go_loopw [0] (fun v wr => ∃ X : ByteArray, v = .string X ∧ X.size ≤ s.size ∧ trm X.data.toList = R ∧ Fresh w wr) (fun v _ => Lib.strSize v)
  case atStart => exact ⟨s, rfl, Nat.le_refl _, HR.out, Keeps.refl _ _⟩
  case round =>
    obtain ⟨X, rfl, hXs, hX, hF⟩ := hrel
    by_cases h0 : 0 < X.size
    · obtain ⟨c, hc⟩ : ∃ c, X[0]'h0 = c := ⟨_, rfl⟩
      have hd := drop_lt h0
      rw [List.drop_zero, hc] at hd
      have hr : (X.extract 1 X.size).data.toList = X.data.toList.drop 1 := rest_list X 1
      rw [hd, trm_cons] at hX
      cases hb : bl c with
      | true =>
        rw [hb] at hX
        have hX2 : trm (X.extract 1 X.size).data.toList = R := by rw [hr]; exact hX
        have HX2 := Lib.hid hX2
        have HF := Lib.hid hF
        have hb2 := hb
        rw [bl_eq] at hb2
        have i1 : (0 : Int) < X.size := by omega
        have i2 : (1 : Int) ≤ X.size := by omega
        have hsz : (X.extract 1 X.size).size = X.size - 1 := by simp
        have HSZ := Lib.hid hsz
        clear hX2 hX hF hr hd hb hsz
        by_cases c1 : c = 32
        · subst c1
          clear hb2
          go_wp2
          go_roundw
          case rel => exact ⟨_, rfl, by rw [HSZ.out]; omega, HX2.out, HF.out⟩
          case measure => rw [Lib.strSize_string, Lib.strSize_string, HSZ.out]; omega
        · have c2 : c = 9 := by simpa [c1] using hb2
          subst c2
          clear hb2 c1
          go_wp2
          go_roundw
          case rel => exact ⟨_, rfl, by rw [HSZ.out]; omega, HX2.out, HF.out⟩
          case measure => rw [Lib.strSize_string, Lib.strSize_string, HSZ.out]; omega
      | false =>
        rw [hb] at hX
        have hX2 : cutR X.data.toList = R := by rw [hd]; exact hX
        have HX2 := Lib.hid hX2
        have HF := Lib.hid hF
        have c1 : ((c.toNat : Int) == 32) = false := (u8_beq c 32).trans (decide_eq_false (bl_false hb).1)
        have c2 : ((c.toNat : Int) == 9) = false := (u8_beq c 9).trans (decide_eq_false (bl_false hb).2)
        clear hX2 hX hF hr hd hb
        go_wp2
        go_loopw [0] (fun v wr => ∃ X : ByteArray, v = .string X ∧ X.size ≤ s.size ∧ cutR X.data.toList = R ∧ Fresh w wr) (fun v _ => Lib.strSize v)
        case atStart => exact ⟨_, rfl, hXs, HX2.out, HF.out⟩
        case round =>
          obtain ⟨Y, rfl, hYs, hY, hFY⟩ := hrel
          by_cases y0 : 0 < Y.size
          · have hy1 : Y.size - 1 < Y.size := by omega
            obtain ⟨d, hd⟩ : ∃ d, Y[Y.size - 1]'hy1 = d := ⟨_, rfl⟩
            have hls := last_snoc y0
            rw [hd] at hls
            rw [hls, cutR_snoc] at hY
            have j1 : (0 : Int) ≤ (Y.size : Int) - 1 := by omega
            have j2 : ((Y.size : Int) - 1).toNat = Y.size - 1 := by omega
            have j3 : (Y.size : Int) - 1 < Y.size := by omega
            have hsz : (Y.extract 0 (Y.size - 1)).size = Y.size - 1 := by simp
            cases hb : bl d with
            | true =>
              rw [hb] at hY
              have HY := Lib.hid (show cutR (Y.extract 0 (Y.size - 1)).data.toList = R from hY)
              have HSZ := Lib.hid hsz
              have HFY := Lib.hid hFY
              clear hY hls hsz hFY
              rcases bl_true hb with rfl | rfl
              all_goals
                clear hb
                go_wp2
                go_roundw
                case rel => exact ⟨_, rfl, by rw [HSZ.out]; omega, HY.out, HFY.out⟩
                case measure => rw [Lib.strSize_string, Lib.strSize_string, HSZ.out]; omega
            | false =>
              rw [hb] at hY
              have hY2 : Y.data.toList = R := by rw [hls]; exact hY
              have hYe : (⟨R.toArray⟩ : ByteArray) = Y := by rw [← hY2]
              have d1 : ((d.toNat : Int) == 32) = false := (u8_beq d 32).trans (decide_eq_false (bl_false hb).1)
              have d2 : ((d.toNat : Int) == 9) = false := (u8_beq d 9).trans (decide_eq_false (bl_false hb).2)
              have HYE := Lib.hid hYe
              clear hY hls hb hY2 hYe hsz
              go_wp2
              go_ret
              exact ⟨by rw [HYE.out]; rfl, hFY⟩
          · have hYn : Y.data.toList = [] := List.eq_nil_of_length_eq_zero (by have : Y.data.toList.length = Y.size := by simp
                                                                               omega)
            rw [hYn, cutR_nil] at hY
            have hYe : (⟨R.toArray⟩ : ByteArray) = Y := by rw [← hY, ← hYn]
            have HYE := Lib.hid hYe
            clear hY hYn hYe
            go_wp2
            go_ret
            exact ⟨by rw [HYE.out]; rfl, hFY⟩
    · have hXn : X.data.toList = [] := List.eq_nil_of_length_eq_zero (by have : X.data.toList.length = X.size := by simp
                                                                         omega)
      rw [hXn, trm_nil] at hX
      have HX2 := Lib.hid (show cutR X.data.toList = R by rw [hXn, ← hX]; rfl)
      have HF := Lib.hid hF
      clear hX hXn hF
      go_wp2
      go_loopw [0] (fun v wr => ∃ X : ByteArray, v = .string X ∧ X.size ≤ s.size ∧ cutR X.data.toList = R ∧ Fresh w wr) (fun v _ => Lib.strSize v)
      case atStart => exact ⟨_, rfl, hXs, HX2.out, HF.out⟩
      case round =>
        obtain ⟨Y, rfl, hYs, hY, hFY⟩ := hrel
        by_cases y0 : 0 < Y.size
        · have hy1 : Y.size - 1 < Y.size := by omega
          obtain ⟨d, hd⟩ : ∃ d, Y[Y.size - 1]'hy1 = d := ⟨_, rfl⟩
          have hls := last_snoc y0
          rw [hd] at hls
          rw [hls, cutR_snoc] at hY
          have j1 : (0 : Int) ≤ (Y.size : Int) - 1 := by omega
          have j2 : ((Y.size : Int) - 1).toNat = Y.size - 1 := by omega
          have j3 : (Y.size : Int) - 1 < Y.size := by omega
          have hsz : (Y.extract 0 (Y.size - 1)).size = Y.size - 1 := by simp
          cases hb : bl d with
          | true =>
            rw [hb] at hY
            have HY := Lib.hid (show cutR (Y.extract 0 (Y.size - 1)).data.toList = R from hY)
            have HSZ := Lib.hid hsz
            have HFY := Lib.hid hFY
            clear hY hls hsz hFY
            rcases bl_true hb with rfl | rfl
            all_goals
              clear hb
              go_wp2
              go_roundw
              case rel => exact ⟨_, rfl, by rw [HSZ.out]; omega, HY.out, HFY.out⟩
              case measure => rw [Lib.strSize_string, Lib.strSize_string, HSZ.out]; omega
          | false =>
            rw [hb] at hY
            have hY2 : Y.data.toList = R := by rw [hls]; exact hY
            have hYe : (⟨R.toArray⟩ : ByteArray) = Y := by rw [← hY2]
            have d1 : ((d.toNat : Int) == 32) = false := (u8_beq d 32).trans (decide_eq_false (bl_false hb).1)
            have d2 : ((d.toNat : Int) == 9) = false := (u8_beq d 9).trans (decide_eq_false (bl_false hb).2)
            have HYE := Lib.hid hYe
            clear hY hls hb hY2 hYe hsz
            go_wp2
            go_ret
            exact ⟨by rw [HYE.out]; rfl, hFY⟩
        · have hYn : Y.data.toList = [] := List.eq_nil_of_length_eq_zero (by have : Y.data.toList.length = Y.size := by simp
                                                                             omega)
          rw [hYn, cutR_nil] at hY
          have hYe : (⟨R.toArray⟩ : ByteArray) = Y := by rw [← hY, ← hYn]
          have HYE := Lib.hid hYe
          clear hY hYn hYe
          go_wp2
          go_ret
          exact ⟨by rw [HYE.out]; rfl, hFY⟩
end Go.Proofs.YtbioecifiogffaaDoor
