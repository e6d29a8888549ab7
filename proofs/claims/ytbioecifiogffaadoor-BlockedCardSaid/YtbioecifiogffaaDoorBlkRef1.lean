/- proseref.blank, Blank, begins: what they give. Condition: the text has at most 2^40 bytes. -/
import Derived.Test.YtbioecifiogffaaDoorBlkLib
import Derived.Test.YtbioecifiogffaaDoorEvRow
import Derived.IntWalk
import Derived.Deep.DeepCutAuto
namespace Go.Proofs.YtbioecifiogffaaDoor
open Go.RowKit

theorem bl_eq (c : UInt8) : bl c = (decide (c = 32) || decide (c = 9)) := by
  unfold bl
  by_cases h1 : c = 32
  · simp [h1]
  · by_cases h2 : c = 9
    · simp [h2]
    · simp [h1, h2]

set_option maxHeartbeats 1000000 in
theorem rblank_any (c : UInt8) (w : World) : Calls Tryd.prog 48 #[.int .u8 c.toNat] w fun e w' => e = .returned (.bool (bl c)) ∧ Fresh w w' := by
  rw [bl_eq]
  have q1 := u8_beq c 32
  have q2 := u8_beq c 9
  by_cases h1 : c = 32
  · subst h1
    go_enter Tryd.func48, Tryd.ntmps48
    go_wp2
    go_ret
    exact ⟨rfl, Keeps.refl _ _⟩
  · rw [decide_eq_false h1] at q1
    have q1' : ((c.toNat : Int) == 32) = false := q1
    by_cases h2 : c = 9
    · subst h2
      go_enter Tryd.func48, Tryd.ntmps48
      go_wp2
      go_ret
      exact ⟨rfl, Keeps.refl _ _⟩
    · rw [decide_eq_false h2] at q2
      have q2' : ((c.toNat : Int) == 9) = false := q2
      rw [decide_eq_false h1, decide_eq_false h2]
      clear h1 h2 q1 q2
      go_enter Tryd.func48, Tryd.ntmps48
      go_wp2
      go_ret
      exact ⟨rfl, Keeps.refl _ _⟩

set_option maxHeartbeats 1000000 in
theorem rBlank_any (s : ByteArray) (w : World) (hs : s.size ≤ 1099511627776) : Calls Tryd.prog 26 #[.string s] w fun e w' => e = .returned (.bool (blank s.data.toList)) ∧ Fresh w w' := by
  obtain ⟨R, hR⟩ : ∃ R, R = blank s.data.toList := ⟨_, rfl⟩
  rw [← hR]
  have h0 : blank (s.data.toList.drop 0) = R := by rw [List.drop_zero, hR]
  have H0 := Lib.hid h0
  clear hR h0
  go_enter Tryd.func26, Tryd.ntmps26
  go_wp2
  go_loopw [3] (fun i wr => ∃ j : Nat, i = .int .i64 j ∧ j ≤ s.size ∧ blank (s.data.toList.drop j) = R ∧ Fresh w wr) (fun i _ => s.size - (intOf i).toNat)
  case atStart => exact ⟨0, rfl, Nat.zero_le _, H0.out, Keeps.refl _ _⟩
  case round =>
    obtain ⟨j, rfl, hj, hr, hF⟩ := hrel
    by_cases hlt : j < s.size
    · rw [drop_lt hlt] at hr
      have hc := fun W : World => rblank_any (s[j]'hlt) W
      cases hb : bl (s[j]'hlt) with
      | true =>
        rw [hb] at hc
        have hr2 : blank (s.data.toList.drop (j + 1)) = R := by rw [← hr]; unfold blank; rw [List.all_cons, hb]; rfl
        have HC := Lib.hid hc
        have HR := Lib.hid hr2
        have HF := Lib.hid hF
        clear hc hr2 hr hF hb
        go_wp2_with fail
        refine (HC.out _).mono ?_
        rintro r w2 ⟨rfl, hk2⟩
        have HF2 := Lib.hid (HF.out.tr hk2)
        clear hk2
        go_wp2
        go_roundw
        case rel => exact ⟨j + 1, by go_num, by omega, HR.out, HF2.out⟩
        case measure => simp [intOf]; omega
      | false =>
        rw [hb] at hc
        have hr2 : R = false := by rw [← hr]; unfold blank; rw [List.all_cons, hb]; rfl
        have HC := Lib.hid hc
        have HR := Lib.hid hr2
        have HF := Lib.hid hF
        clear hc hr2 hr hF hb
        go_wp2_with fail
        refine (HC.out _).mono ?_
        rintro r w2 ⟨rfl, hk2⟩
        have HF2 := Lib.hid (HF.out.tr hk2)
        clear hk2
        go_wp2
        go_ret
        exact ⟨by rw [HR.out]; rfl, HF2.out⟩
    · rw [drop_ge (by omega)] at hr
      have hr2 : R = true := hr.symm
      have HR := Lib.hid hr2
      clear hr2 hr
      go_wp2
      go_ret
      exact ⟨by rw [HR.out]; rfl, hF⟩

set_option maxHeartbeats 1000000 in
theorem begins_any (s p : ByteArray) (w : World) (hs : s.size ≤ 1099511627776) (hp : p.size ≤ 1099511627776) : Calls Tryd.prog 49 #[.string s, .string p] w fun e w' => e = .returned (.bool (Lib.hasPrefix s.data.toList p.data.toList)) ∧ Fresh w w' := by
  have hl : s.data.toList.length = s.size := by simp
  have hl2 : p.data.toList.length = p.size := by simp
  by_cases hlen : p.size ≤ s.size
  · have hx : (s.extract 0 p.size).data.toList = s.data.toList.take p.size := by
      rw [ByteArray.data_extract, Array.toList_extract, List.extract_eq_take_drop]; simp
    have hq : Lib.hasPrefix s.data.toList p.data.toList = ((s.extract 0 p.size).data.toList == p.data.toList) := by
      rw [hx]
      unfold Lib.hasPrefix
      rw [Bool.eq_iff_iff, List.isPrefixOf_iff_prefix, beq_iff_eq]
      constructor
      · intro h; rw [List.prefix_iff_eq_take] at h; rw [hl2] at h; exact h.symm
      · intro h; rw [List.prefix_iff_eq_take, hl2]; exact h.symm
    obtain ⟨b, hb⟩ : ∃ b, Lib.hasPrefix s.data.toList p.data.toList = b := ⟨_, rfl⟩
    rw [hb]
    have hq2 : ((s.extract 0 p.size).toList == p.toList) = b := by rw [ByteArray.toList_eq, ByteArray.toList_eq, ← hq, hb]
    clear hx hq hb hl hl2
    go_enter Tryd.func49, Tryd.ntmps49
    go_wp2
    go_ret
    exact ⟨rfl, Keeps.refl _ _⟩
  · have hq : Lib.hasPrefix s.data.toList p.data.toList = false := by
      unfold Lib.hasPrefix
      rw [Bool.eq_false_iff]
      intro h
      have := (List.isPrefixOf_iff_prefix.1 h).length_le
      omega
    rw [hq]
    clear hq hl hl2
    go_enter Tryd.func49, Tryd.ntmps49
    go_wp2
    go_ret
    exact ⟨rfl, Keeps.refl _ _⟩
end Go.Proofs.YtbioecifiogffaaDoor
