/- inline.scanner: link. Condition: no more than 10^9 events, no more than 2^24 bytes. Written by gen7.py. -/
import Derived.Test.YtbioecifiogffaaDoorScan6
import Derived.Test.YtbioecifiogffaaDoorIdx2
namespace Go.Proofs.YtbioecifiogffaaDoor
open Go.RowKit

theorem has_any {l : List UInt8} {c : UInt8} {r : Bool} (R : ByteArray) (hR : R.data.toList = l) (h : (fnd c l).isSome = r) : ∀ W : World, Calls Tryd.prog 102 #[.string R, .string ⟨#[c]⟩] W fun e w' => e = .returned (.bool r) ∧ w' = W := fun W => by
  have := Tryd.strings_Contains_one R c W
  rw [hR, contains_fnd, h] at this
  exact this
theorem pre_any {l : List UInt8} {c : UInt8} {r : Bool} (R : ByteArray) (hR : R.data.toList = l) (h : Lib.hasPrefix l [c] = r) : ∀ W : World, Calls Tryd.prog 78 #[.string R, .string ⟨#[c]⟩] W fun e w' => e = .returned (.bool r) ∧ w' = W := fun W => by
  have := Tryd.strings_HasPrefix R ⟨#[c]⟩ W
  rw [hR, show (⟨#[c]⟩ : ByteArray).data.toList = [c] from rfl, h] at this
  exact this
theorem ba_of (l : List UInt8) : ∃ A : ByteArray, (⟨l.toArray⟩ : ByteArray) = A ∧ A.data.toList = l ∧ A.size = l.length := ⟨_, rfl, rfl, by simp [ByteArray.size]⟩

/-- What link answers where there is none. -/
def LinkNo (w : World) (r : Ending) (w' : World) : Prop := r = .returned (.bool false) ∧ Fresh w w'

set_option maxHeartbeats 4000000 in
set_option maxRecDepth 100000 in
theorem link_no0 (R : ByteArray) (t : List UInt8) (hRl : R.data.toList = t) (hRs : R.size ≤ 16777216) (w : World) (hG : Gl w) (C : Nat) (hk : fnd 93 t = none) :
    Calls Tryd.prog 82 #[.pointer (some ⟨C, 0, none⟩), .string R] w (LinkNo w) := by
  have hct := cut_any (c := 93) R hRl hRs t [] false (cut_none hk) w hG
  have HCT := Lib.hid hct
  clear hct hk hG hRl
  go_enter Tryd.func82, Tryd.ntmps82
  go_wp2_with fail
  refine HCT.out.mono ?_
  rintro e w1 ⟨rfl, hk1⟩
  have HK1 := Lib.hid hk1
  clear hk1
  go_wp2
  go_ret
  exact ⟨rfl, HK1.out⟩

set_option maxHeartbeats 4000000 in
set_option maxRecDepth 100000 in
theorem link_no1 (R : ByteArray) (t : List UInt8) (hRl : R.data.toList = t) (hRs : R.size ≤ 16777216) (w : World) (hG : Gl w) (C : Nat) (k : Nat) (hk : fnd 93 t = some k) (h1 : (fnd 91 (t.take k)).isSome = true) :
    Calls Tryd.prog 82 #[.pointer (some ⟨C, 0, none⟩), .string R] w (LinkNo w) := by
  have hct := cut_any (c := 93) R hRl hRs (t.take k) (t.drop (k + 1)) true (cut_some hk) w hG
  obtain ⟨A, hA, hAl, hAs⟩ := ba_of (t.take k)
  obtain ⟨B, hB, hBl, hBs⟩ := ba_of (t.drop (k + 1))
  rw [hA, hB] at hct
  have HCT := Lib.hid hct
  clear hct hA hB
  have hh := has_any A hAl h1
  have HH := Lib.hid hh
  clear hh hk hG hRl h1 hAl hAs hBl hBs
  go_enter Tryd.func82, Tryd.ntmps82
  go_wp2_with fail
  refine HCT.out.mono ?_
  rintro e w1 ⟨rfl, hk1⟩
  have HK1 := Lib.hid hk1
  clear hk1
  go_wp2_with fail
  refine (HH.out _).mono ?_
  rintro e w2 ⟨rfl, rfl⟩
  go_wp2
  go_ret
  exact ⟨rfl, HK1.out⟩

set_option maxHeartbeats 4000000 in
set_option maxRecDepth 100000 in
theorem link_no2 (R : ByteArray) (t : List UInt8) (hRl : R.data.toList = t) (hRs : R.size ≤ 16777216) (w : World) (hG : Gl w) (C : Nat) (k : Nat) (hk : fnd 93 t = some k) (h1 : (fnd 91 (t.take k)).isSome = false) (h2 : Lib.hasPrefix (t.drop (k + 1)) [40] = false) :
    Calls Tryd.prog 82 #[.pointer (some ⟨C, 0, none⟩), .string R] w (LinkNo w) := by
  have hct := cut_any (c := 93) R hRl hRs (t.take k) (t.drop (k + 1)) true (cut_some hk) w hG
  obtain ⟨A, hA, hAl, hAs⟩ := ba_of (t.take k)
  obtain ⟨B, hB, hBl, hBs⟩ := ba_of (t.drop (k + 1))
  rw [hA, hB] at hct
  have HCT := Lib.hid hct
  clear hct hA hB
  have hh := has_any A hAl h1
  have hp := pre_any B hBl h2
  have HH := Lib.hid hh
  have HP := Lib.hid hp
  clear hh hp hk hG hRl h1 h2 hAl hAs hBl hBs
  go_enter Tryd.func82, Tryd.ntmps82
  go_wp2_with fail
  refine HCT.out.mono ?_
  rintro e w1 ⟨rfl, hk1⟩
  have HK1 := Lib.hid hk1
  clear hk1
  go_wp2_with fail
  refine (HH.out _).mono ?_
  rintro e w2 ⟨rfl, rfl⟩
  go_wp2_with fail
  refine (HP.out _).mono ?_
  rintro e w3 ⟨rfl, rfl⟩
  go_wp2
  go_ret
  exact ⟨rfl, HK1.out⟩

set_option maxHeartbeats 4000000 in
set_option maxRecDepth 100000 in
theorem link_no3 (R : ByteArray) (t : List UInt8) (hRl : R.data.toList = t) (hRs : R.size ≤ 16777216) (w : World) (hG : Gl w) (C : Nat) (k : Nat) (hk : fnd 93 t = some k) (h1 : (fnd 91 (t.take k)).isSome = false) (r : List UInt8) (hd : t.drop (k + 1) = 40 :: r) (hj : Lib.indexAny r [41, 32, 9, 10, 40] = -1) :
    Calls Tryd.prog 82 #[.pointer (some ⟨C, 0, none⟩), .string R] w (LinkNo w) := by
  have hct := cut_any (c := 93) R hRl hRs (t.take k) (t.drop (k + 1)) true (cut_some hk) w hG
  obtain ⟨A, hA, hAl, hAs⟩ := ba_of (t.take k)
  obtain ⟨B, hB, hBl, hBs⟩ := ba_of (t.drop (k + 1))
  rw [hA, hB] at hct
  have HCT := Lib.hid hct
  clear hct hA hB
  have hB0 : 0 < B.size := by rw [hBs, hd]; simp
  have hrl : r.length + 1 = B.size := by rw [hBs, hd]; simp
  have hBl2 : (B.extract 1 B.size).data.toList = r := by rw [rest_list, hBl, hd]; rfl
  have hBsz : B.size ≤ 16777216 := by
    have : t.length = R.size := by rw [← hRl]; simp
    rw [hBs, List.length_drop]
    omega
  have hh := has_any A hAl h1
  have hp := pre_any B hBl (c := 40) (r := true) (by rw [hd, hasPrefix_cons]; rfl)
  have hx := fun W : World => idxAny_any (B.extract 1 B.size) W (by simp; omega)
  rw [hBl2] at hx
  rw [hj] at hx
  have HH := Lib.hid hh
  have HP := Lib.hid hp
  have HX := Lib.hid hx
  have hB1 : (1 : Int) ≤ (B.size : Int) := by omega
  clear hh hp hx hk hG hRl h1 hAl hAs hBl hBs hd hj hrl hBl2
  go_enter Tryd.func82, Tryd.ntmps82
  go_wp2_with fail
  refine HCT.out.mono ?_
  rintro e w1 ⟨rfl, hk1⟩
  have HK1 := Lib.hid hk1
  clear hk1
  go_wp2_with fail
  refine (HH.out _).mono ?_
  rintro e w2 ⟨rfl, rfl⟩
  go_wp2_with fail
  refine (HP.out _).mono ?_
  rintro e w3 ⟨rfl, rfl⟩
  go_wp2_with fail
  refine (HX.out _).mono ?_
  rintro e w4 ⟨rfl, hk4⟩
  have HK4 := Lib.hid hk4
  clear hk4
  go_wp2
  go_ret
  exact ⟨rfl, HK1.out.tr HK4.out⟩

set_option maxHeartbeats 4000000 in
set_option maxRecDepth 100000 in
theorem link_no4 (R : ByteArray) (t : List UInt8) (hRl : R.data.toList = t) (hRs : R.size ≤ 16777216) (w : World) (hG : Gl w) (C : Nat) (k : Nat) (hk : fnd 93 t = some k) (h1 : (fnd 91 (t.take k)).isSome = false) (r : List UInt8) (hd : t.drop (k + 1) = 40 :: r) (m : Nat) (hj : Lib.indexAny r [41, 32, 9, 10, 40] = (m : Int)) (hm : m < r.length) (x : UInt8) (hxm : r[m]? = some x) (hx41 : x ≠ 41) :
    Calls Tryd.prog 82 #[.pointer (some ⟨C, 0, none⟩), .string R] w (LinkNo w) := by
  have hct := cut_any (c := 93) R hRl hRs (t.take k) (t.drop (k + 1)) true (cut_some hk) w hG
  obtain ⟨A, hA, hAl, hAs⟩ := ba_of (t.take k)
  obtain ⟨B, hB, hBl, hBs⟩ := ba_of (t.drop (k + 1))
  rw [hA, hB] at hct
  have HCT := Lib.hid hct
  clear hct hA hB
  have hB0 : 0 < B.size := by rw [hBs, hd]; simp
  have hrl : r.length + 1 = B.size := by rw [hBs, hd]; simp
  have hBl2 : (B.extract 1 B.size).data.toList = r := by rw [rest_list, hBl, hd]; rfl
  have hBsz : B.size ≤ 16777216 := by
    have : t.length = R.size := by rw [← hRl]; simp
    rw [hBs, List.length_drop]
    omega
  have hh := has_any A hAl h1
  have hp := pre_any B hBl (c := 40) (r := true) (by rw [hd, hasPrefix_cons]; rfl)
  have hx := fun W : World => idxAny_any (B.extract 1 B.size) W (by simp; omega)
  rw [hBl2] at hx
  rw [hj] at hx
  have hm1 : 1 + m < B.size := by omega
  have hBm : B[1 + m]'hm1 = x := by
    have h5 : B.data.toList[1 + m]? = some x := by rw [hBl, hd, show 1 + m = m + 1 by omega]; simpa using hxm
    rw [List.getElem?_eq_some_iff] at h5
    obtain ⟨_, h6⟩ := h5
    rw [← h6]
    simp [ByteArray.getElem_eq_getElem_data]
  have hw1 : IntKind.i64.wrap (1 + (m : Int)) = 1 + (m : Int) := IntWalk.i64_in _ (by omega)
  have hw2 : (0 : Int) ≤ 1 + (m : Int) := by omega
  have hw3 : (1 + (m : Int)).toNat = 1 + m := by omega
  have hw4 : 1 + (m : Int) < (B.size : Int) := by omega
  have hq : (((x.toNat : Int)) != 41) = true := by
    rw [bne_iff_ne]
    intro e
    exact hx41 (UInt8.toNat_inj.1 (by have : ((41 : UInt8)).toNat = 41 := rfl; omega))
  have HH := Lib.hid hh
  have HP := Lib.hid hp
  have HX := Lib.hid hx
  have hB1 : (1 : Int) ≤ (B.size : Int) := by omega
  clear hh hp hx hk hG hRl h1 hAl hAs hBl hBs hd hj hrl hBl2 hxm hx41
  go_enter Tryd.func82, Tryd.ntmps82
  go_wp2_with fail
  refine HCT.out.mono ?_
  rintro e w1 ⟨rfl, hk1⟩
  have HK1 := Lib.hid hk1
  clear hk1
  go_wp2_with fail
  refine (HH.out _).mono ?_
  rintro e w2 ⟨rfl, rfl⟩
  go_wp2_with fail
  refine (HP.out _).mono ?_
  rintro e w3 ⟨rfl, rfl⟩
  go_wp2_with fail
  refine (HX.out _).mono ?_
  rintro e w4 ⟨rfl, hk4⟩
  have HK4 := Lib.hid hk4
  clear hk4
  go_wp2
  go_ret
  exact ⟨rfl, HK1.out.tr HK4.out⟩
end Go.Proofs.YtbioecifiogffaaDoor
