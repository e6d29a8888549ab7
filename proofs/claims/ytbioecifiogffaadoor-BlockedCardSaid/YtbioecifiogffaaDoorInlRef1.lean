/- proseref.sign, find, spaced: what they give, on lists of bytes. Condition: the text has at most 2^40 bytes. -/
import Derived.Test.YtbioecifiogffaaDoorBase2
import Derived.Test.YtbioecifiogffaaDoorText
import Derived.Test.YtbioecifiogffaaDoorInlSpec
import Derived.Lib.SmallJoins
import Derived.Deep.DeepCutAuto
namespace Go.Proofs.YtbioecifiogffaaDoor
open Go.RowKit

/-- What lies from a place on: the next byte, the rest. -/
theorem drop_cons {s : ByteArray} {i : Nat} {b : UInt8} {t : List UInt8} (h : s.data.toList.drop i = b :: t) : ∃ hi : i < s.size, s[i]'hi = b ∧ s.data.toList.drop (i + 1) = t := by
  have hl : i < s.data.toList.length := by
    rcases Nat.lt_or_ge i s.data.toList.length with h' | h'
    · exact h'
    · rw [List.drop_eq_nil_of_le h'] at h; cases h
  have hi : i < s.size := by simpa using hl
  rw [List.drop_eq_getElem_cons hl] at h
  injection h with h1 h2
  exact ⟨hi, by rw [← h1]; simp [ByteArray.getElem_eq_getElem_data], h2⟩
theorem drop_lt {s : ByteArray} {i : Nat} (hi : i < s.size) : s.data.toList.drop i = s[i]'hi :: s.data.toList.drop (i + 1) := by
  have hl : i < s.data.toList.length := by simpa using hi
  rw [List.drop_eq_getElem_cons hl]
  simp [ByteArray.getElem_eq_getElem_data]
theorem drop_ge {s : ByteArray} {i : Nat} (hi : s.size ≤ i) : s.data.toList.drop i = [] := List.drop_eq_nil_of_le (by simpa using hi)
theorem u8_beq (a b : UInt8) : (((a.toNat : Int)) == (b.toNat : Int)) = decide (a = b) := by
  rw [Bool.eq_iff_iff, beq_iff_eq, decide_eq_true_iff]
  constructor
  · intro h; exact UInt8.toNat_inj.1 (by omega)
  · rintro rfl; rfl

set_option maxHeartbeats 1000000 in
set_option maxRecDepth 100000 in
theorem sign_any (c : UInt8) (w : World) : Calls Tryd.prog 41 #[.int .u8 c.toNat] w fun e w' => e = .returned (.bool (sgn c)) ∧ Fresh w w' := by
  have hc : c.toNat < 256 := c.toNat_lt
  obtain ⟨b, hb⟩ : ∃ b, b = sgn c := ⟨_, rfl⟩
  rw [← hb]
  unfold sgn at hb
  generalize c.toNat = n at *
  have hr : (b = false ∧ n < 33) ∨ (b = true ∧ 33 ≤ n ∧ n ≤ 47) ∨ (b = false ∧ 47 < n ∧ n < 58) ∨ (b = true ∧ 58 ≤ n ∧ n ≤ 64) ∨ (b = false ∧ 64 < n ∧ n < 91) ∨ (b = true ∧ 91 ≤ n ∧ n ≤ 96) ∨ (b = false ∧ 96 < n ∧ n < 123) ∨ (b = true ∧ 123 ≤ n ∧ n ≤ 126) ∨ (b = false ∧ 126 < n) := by
    cases b with
    | true => have := of_decide_eq_true hb.symm; simp; omega
    | false => have := of_decide_eq_false hb.symm; simp; omega
  clear hb
  rcases hr with ⟨rfl, h1⟩ | ⟨rfl, h1, h2⟩ | ⟨rfl, h1, h2⟩ | ⟨rfl, h1, h2⟩ | ⟨rfl, h1, h2⟩ | ⟨rfl, h1, h2⟩ | ⟨rfl, h1, h2⟩ | ⟨rfl, h1, h2⟩ | ⟨rfl, h1⟩
  all_goals
    go_enter Tryd.func41, Tryd.ntmps41
    go_wp2
    go_ret
    exact ⟨by first | rfl | (simp; omega), Keeps.refl _ _⟩

/-- Where a byte stands, as the program tells it. -/
def plc (i : Nat) : Option Nat → Int
  | some k => (i + k : Nat)
  | none => -1

set_option maxHeartbeats 1000000 in
set_option maxRecDepth 100000 in
theorem find_any (s : ByteArray) (c : UInt8) (i : Nat) (w : World) (hi : i ≤ s.size) (hs : s.size ≤ 1099511627776) :
    Calls Tryd.prog 42 #[.string s, .int .u8 c.toNat, .int .i64 i] w fun e w' => e = .returned (.int .i64 (plc i (fnd c (s.data.toList.drop i)))) ∧ Fresh w w' := by
  obtain ⟨R, hR⟩ : ∃ R, R = plc i (fnd c (s.data.toList.drop i)) := ⟨_, rfl⟩
  rw [← hR]
  have HR := Lib.hid hR
  clear hR
  go_enter Tryd.func42, Tryd.ntmps42
  go_wp2
  go_loop [7] (fun p => ∃ j : Nat, p = .int .i64 j ∧ j ≤ s.size ∧ plc j (fnd c (s.data.toList.drop j)) = R) (fun p => s.size - (intOf p).toNat)
  case atStart => exact ⟨i, rfl, hi, HR.out.symm⟩
  case round =>
    obtain ⟨j, rfl, hj, hp⟩ := hrel
    have HP := Lib.hid hp
    clear hp
    by_cases hlt : j < s.size
    · have hd := drop_lt hlt
      have he := u8_beq (s[j]'hlt) c
      by_cases hc : s[j]'hlt = c
      · rw [decide_eq_true hc] at he
        have hr : R = j := by rw [← HP.out, hd]; simp [fnd, hc, plc]
        have HR2 := Lib.hid hr
        clear hd hc hr
        go_wp2
        go_ret
        exact ⟨by rw [show R = _ from HR2.out]; rfl, Keeps.refl _ _⟩
      · rw [decide_eq_false hc] at he
        have hr : plc (j + 1) (fnd c (s.data.toList.drop (j + 1))) = R := by
          rw [← HP.out, hd]
          simp only [fnd, if_neg hc]
          cases fnd c (s.data.toList.drop (j + 1)) <;> simp [plc]
          omega
        have HR2 := Lib.hid hr
        clear hd hc hr
        go_wp2
        go_roundw
        case rel => exact ⟨j + 1, rfl, by omega, HR2.out⟩
        case measure => simp [intOf]; omega
    · have hd := drop_ge (s := s) (i := j) (by omega)
      have hr : R = -1 := by rw [← HP.out, hd]; simp [fnd, plc]
      have HR2 := Lib.hid hr
      clear hd hr
      go_wp2
      go_ret
      exact ⟨by rw [show R = _ from HR2.out]; rfl, Keeps.refl _ _⟩

set_option maxHeartbeats 1000000 in
set_option maxRecDepth 100000 in
theorem spaced_any (s : ByteArray) (w : World) (hs : s.size ≤ 1099511627776) :
    Calls Tryd.prog 43 #[.string s] w fun e w' => e = .returned (.string ⟨(spc s.data.toList).toArray⟩) ∧ Fresh w w' := by
  go_enter Tryd.func43, Tryd.ntmps43
  go_wp2
  go_loop [3, 4] (fun o p => ∃ (j : Nat) (acc : List UInt8), o = .string ⟨acc.toArray⟩ ∧ p = .int .i64 j ∧ j ≤ s.size ∧ acc.length = j ∧ acc ++ spc (s.data.toList.drop j) = spc s.data.toList) (fun _ p => s.size - (intOf p).toNat)
  case atStart => exact ⟨0, [], rfl, rfl, by omega, rfl, by simp⟩
  case round =>
    obtain ⟨j, acc, rfl, rfl, hj, hal, hp⟩ := hrel
    have HP := Lib.hid hp
    clear hp
    by_cases hlt : j < s.size
    · have hd := drop_lt hlt
      have he : (((s[j]'hlt).toNat : Int) == 10) = decide (s[j]'hlt = 10) := u8_beq (s[j]'hlt) 10
      have hsub : s.extract j (j + 1) = ⟨#[s[j]'hlt]⟩ := by
        apply ByteArray.ext
        apply Array.ext'
        rw [ByteArray.data_extract, Array.toList_extract, List.extract_eq_take_drop, drop_lt hlt]
        simp
      by_cases hc : s[j]'hlt = 10
      · rw [decide_eq_true hc] at he
        have hr : acc ++ [32] ++ spc (s.data.toList.drop (j + 1)) = spc s.data.toList := by rw [← HP.out, hd]; simp [spc, hc]
        have HR2 := Lib.hid hr
        clear hd hc hr
        go_wp2
        go_roundw
        case rel => exact ⟨j + 1, acc ++ [32], by rw [← ba_append], rfl, by omega, by simp [hal], HR2.out⟩
        case measure => simp [intOf]; omega
      · rw [decide_eq_false hc] at he
        have hr : acc ++ [s[j]'hlt] ++ spc (s.data.toList.drop (j + 1)) = spc s.data.toList := by rw [← HP.out, hd]; simp [spc, hc]
        have HR2 := Lib.hid hr
        clear hd hc hr
        go_wp2
        go_roundw
        case rel => exact ⟨j + 1, acc ++ [s[j]'hlt], by rw [← ba_append], rfl, by omega, by simp [hal], HR2.out⟩
        case measure => simp [intOf]; omega
    · have hd := drop_ge (s := s) (i := j) (by omega)
      have hr : acc = spc s.data.toList := by rw [← HP.out, hd]; simp [spc]
      have HR2 := Lib.hid hr
      clear hd hr
      go_wp2
      go_ret
      exact ⟨by rw [← show acc = _ from HR2.out]; rfl, Keeps.refl _ _⟩
end Go.Proofs.YtbioecifiogffaaDoor
