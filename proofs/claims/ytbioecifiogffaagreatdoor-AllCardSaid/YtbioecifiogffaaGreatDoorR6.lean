/- Texts of this proof, joined: BlkRef1, BlkRef2, BlkRef3, BlkRef4, BlkRef5, BlkRef6, BlkProg1, BlkProg2, BlkEmit, BlkRef7, BlkRef8, BlkRef9. Conditions: as each theorem names them. -/
import Derived.Test.YtbioecifiogffaaGreatDoorR4
import Derived.Test.YtbioecifiogffaaGreatDoorR2
import Derived.Test.YtbioecifiogffaaGreatDoorR1
import Derived.IntWalk
import Derived.Deep.DeepCutAuto
import Derived.Lib.TrimByte
import Derived.Shelf.Strings.SlTrimAscii
import Derived.BigQuiet
import Derived.Deep.QuietTactic
import Derived.Shelf.Abstract
import Derived.Defers
import Derived.Deep.CutBlock
set_option linter.unusedVariables false
set_option linter.unusedSimpArgs false
set_option maxHeartbeats 8000000
set_option maxRecDepth 1000000
namespace Go.Proofs.YtbioecifiogffaaGreatDoor
open Go.RowKit
theorem bl_eq (c : UInt8) : bl c = (decide (c = 32) || decide (c = 9)) := by
 unfold bl
 by_cases h1 : c = 32
 ·simp [h1]
 ·by_cases h2 : c = 9
  ·simp [h2]
  ·simp [h1, h2]
theorem rblank_any (c : UInt8) (w : World) : Calls Tryz.prog 89 #[.int .u8 c.toNat] w fun e w' => e = .returned (.bool (bl c)) ∧ Fresh w w' := by
 rw [bl_eq]
 have q1 := u8_beq c 32
 have q2 := u8_beq c 9
 by_cases h1 : c = 32
 ·subst h1
  go_enter Tryz.func89, Tryz.ntmps89
  go_wp2
  go_ret
  exact ⟨rfl, Keeps.refl _ _⟩
 ·rw [decide_eq_false h1] at q1
  have q1' : ((c.toNat : Int) == 32) = false := q1
  by_cases h2 : c = 9
  ·subst h2
   go_enter Tryz.func89, Tryz.ntmps89
   go_wp2
   go_ret
   exact ⟨rfl, Keeps.refl _ _⟩
  ·rw [decide_eq_false h2] at q2
   have q2' : ((c.toNat : Int) == 9) = false := q2
   rw [decide_eq_false h1, decide_eq_false h2]
   clear h1 h2 q1 q2
   go_enter Tryz.func89, Tryz.ntmps89
   go_wp2
   go_ret
   exact ⟨rfl, Keeps.refl _ _⟩
theorem rBlank_any (s : ByteArray) (w : World) (hs : s.size ≤ 1099511627776) : Calls Tryz.prog 58 #[.string s] w fun e w' => e = .returned (.bool (blank s.data.toList)) ∧ Fresh w w' := by
 obtain ⟨R, hR⟩ : ∃ R, R = blank s.data.toList := ⟨_, rfl⟩
 rw [← hR]
 have h0 : blank (s.data.toList.drop 0) = R := by rw [List.drop_zero, hR]
 have H0 := Lib.hid h0
 clear hR h0
 go_enter Tryz.func58, Tryz.ntmps58
 go_wp2
 go_loopw [3] (fun i wr => ∃ j : Nat, i = .int .i64 j ∧ j ≤ s.size ∧ blank (s.data.toList.drop j) = R ∧ Fresh w wr) (fun i _ => s.size - (intOf i).toNat)
 case atStart => exact ⟨0, rfl, Nat.zero_le _, H0.out, Keeps.refl _ _⟩
 case round =>
  obtain ⟨j, rfl, hj, hr, hF⟩ := hrel
  by_cases hlt : j < s.size
  ·rw [drop_lt hlt] at hr
   have hc := fun W : World => rblank_any (s[j]'hlt) W
   cases hb : bl (s[j]'hlt) with
   | true =>
    rw [hb] at hc
    have hr2 : blank (s.data.toList.drop (j + 1)) = R := by rw [← hr]; unfold blank; rw [List.all_cons, hb]; rfl
    have HC := Lib.hid hc
    have HR := Lib.hid hr2
    have HF := Lib.hid hF
    clear hc hr2 hr hF hb
    go_wp2_with fail
    refine (HC.out _).mono ?_
    rintro r w2 ⟨rfl, hk2⟩
    have HF2 := Lib.hid (HF.out.tr hk2)
    clear hk2
    go_wp2
    go_roundw
    case rel => exact ⟨j + 1, by go_num, by omega, HR.out, HF2.out⟩
    case measure => simp [intOf]; omega
   | false =>
    rw [hb] at hc
    have hr2 : R = false := by rw [← hr]; unfold blank; rw [List.all_cons, hb]; rfl
    have HC := Lib.hid hc
    have HR := Lib.hid hr2
    have HF := Lib.hid hF
    clear hc hr2 hr hF hb
    go_wp2_with fail
    refine (HC.out _).mono ?_
    rintro r w2 ⟨rfl, hk2⟩
    have HF2 := Lib.hid (HF.out.tr hk2)
    clear hk2
    go_wp2
    go_ret
    exact ⟨by rw [HR.out]; rfl, HF2.out⟩
  ·rw [drop_ge (by omega)] at hr
   have hr2 : R = true := hr.symm
   have HR := Lib.hid hr2
   clear hr2 hr
   go_wp2
   go_ret
   exact ⟨by rw [HR.out]; rfl, hF⟩
theorem begins_any (s p : ByteArray) (w : World) (hs : s.size ≤ 1099511627776) (hp : p.size ≤ 1099511627776) : Calls Tryz.prog 90 #[.string s, .string p] w fun e w' => e = .returned (.bool (Lib.hasPrefix s.data.toList p.data.toList)) ∧ Fresh w w' := by
 have hl : s.data.toList.length = s.size := by simp
 have hl2 : p.data.toList.length = p.size := by simp
 by_cases hlen : p.size ≤ s.size
 ·have hx : (s.extract 0 p.size).data.toList = s.data.toList.take p.size := by
   rw [ByteArray.data_extract, Array.toList_extract, List.extract_eq_take_drop]; simp
  have hq : Lib.hasPrefix s.data.toList p.data.toList = ((s.extract 0 p.size).data.toList == p.data.toList) := by
   rw [hx]
   unfold Lib.hasPrefix
   rw [Bool.eq_iff_iff, List.isPrefixOf_iff_prefix, beq_iff_eq]
   constructor
   ·intro h; rw [List.prefix_iff_eq_take] at h; rw [hl2] at h; exact h.symm
   ·intro h; rw [List.prefix_iff_eq_take, hl2]; exact h.symm
  obtain ⟨b, hb⟩ : ∃ b, Lib.hasPrefix s.data.toList p.data.toList = b := ⟨_, rfl⟩
  rw [hb]
  have hq2 : ((s.extract 0 p.size).toList == p.toList) = b := by rw [ByteArray.toList_eq, ByteArray.toList_eq, ← hq, hb]
  clear hx hq hb hl hl2
  go_enter Tryz.func90, Tryz.ntmps90
  go_wp2
  go_ret
  exact ⟨rfl, Keeps.refl _ _⟩
 ·have hq : Lib.hasPrefix s.data.toList p.data.toList = false := by
   unfold Lib.hasPrefix
   rw [Bool.eq_false_iff]
   intro h
   have := (List.isPrefixOf_iff_prefix.1 h).length_le
   omega
  rw [hq]
  clear hq hl hl2
  go_enter Tryz.func90, Tryz.ntmps90
  go_wp2
  go_ret
  exact ⟨rfl, Keeps.refl _ _⟩
end Go.Proofs.YtbioecifiogffaaGreatDoor
namespace Go.Proofs.YtbioecifiogffaaGreatDoor
open Go.RowKit
theorem hsh_step {s : ByteArray} {n : Nat} (hn : n < s.size) (h : s[n]'hn = 35) : hsh (s.data.toList.drop n) = hsh (s.data.toList.drop (n + 1)) + 1 := by
 rw [drop_lt hn]
 conv => lhs; unfold hsh
 rw [if_pos h]
theorem hsh_stop {s : ByteArray} {n : Nat} (h : ∀ hn : n < s.size, s[n]'hn ≠ 35) : hsh (s.data.toList.drop n) = 0 := by
 by_cases hn : n < s.size
 ·rw [drop_lt hn]
  unfold hsh
  rw [if_neg (h hn)]
 ·rw [drop_ge (by omega)]
  rfl
theorem lvl_few {s : List UInt8} (h : hsh s < 1 ∨ 3 < hsh s) : lvl s = 0 := by unfold lvl; rw [if_pos h]
theorem lvl_end {s : ByteArray} (h1 : 1 ≤ hsh s.data.toList) (h3 : hsh s.data.toList ≤ 3) (he : s.size ≤ hsh s.data.toList) : lvl s.data.toList = hsh s.data.toList := by
 unfold lvl
 rw [if_neg (by omega), drop_ge he]
theorem lvl_at {s : ByteArray} (h1 : 1 ≤ hsh s.data.toList) (h3 : hsh s.data.toList ≤ 3) (hn : hsh s.data.toList < s.size) : lvl s.data.toList = if bl (s[hsh s.data.toList]'hn) then hsh s.data.toList else 0 := by
 conv => lhs; unfold lvl
 rw [if_neg (by omega), drop_lt hn]
theorem level_any (s : ByteArray) (w : World) (hs : s.size ≤ 1099511627776) : Calls Tryz.prog 61 #[.string s] w fun e w' => e = .returned (.int .i64 (lvl s.data.toList)) ∧ Fresh w w' := by
 obtain ⟨R, hR⟩ : ∃ R, R = lvl s.data.toList := ⟨_, rfl⟩
 rw [← hR]
 have h0 : 0 + hsh (s.data.toList.drop 0) = hsh s.data.toList := by rw [List.drop_zero]; omega
 have H0 := Lib.hid h0
 have HR := Lib.hid hR
 clear hR h0
 go_enter Tryz.func61, Tryz.ntmps61
 go_wp2
 go_loopw [3] (fun i wr => ∃ j : Nat, i = .int .i64 j ∧ j ≤ s.size ∧ j + hsh (s.data.toList.drop j) = hsh s.data.toList ∧ Fresh w wr) (fun i _ => s.size - (intOf i).toNat)
 case atStart => exact ⟨0, rfl, Nat.zero_le _, H0.out, Keeps.refl _ _⟩
 case round =>
  obtain ⟨j, rfl, hj, hr, hF⟩ := hrel
  by_cases hlt : j < s.size
  ·by_cases h35 : s[j]'hlt = 35
   ·have q : (((s[j]'hlt).toNat : Int) == 35) = true := (u8_beq (s[j]'hlt) 35).trans (decide_eq_true h35)
    rw [hsh_step hlt h35] at hr
    have hr2 : j + 1 + hsh (s.data.toList.drop (j + 1)) = hsh s.data.toList := by omega
    have HR2 := Lib.hid hr2
    clear hr hr2 h35
    go_wp2
    go_roundw
    case rel => exact ⟨j + 1, by go_num, by omega, HR2.out, hF⟩
    case measure => simp [intOf]; omega
   ·have q : (((s[j]'hlt).toNat : Int) == 35) = false := (u8_beq (s[j]'hlt) 35).trans (decide_eq_false h35)
    rw [hsh_stop (fun _ => h35), Nat.add_zero] at hr
    subst hr
    clear h35
    by_cases h1 : hsh s.data.toList < 1
    ·have hl := lvl_few (.inl h1)
     have hv : R = 0 := HR.out.trans hl
     have HV := Lib.hid hv
     generalize hsh s.data.toList = n at *
     clear hl hv
     go_wp2
     go_ret
     exact ⟨by rw [HV.out]; rfl, hF⟩
    ·have h1' : 1 ≤ hsh s.data.toList := by omega
     by_cases h3 : 3 < hsh s.data.toList
     ·have hl := lvl_few (.inr h3)
      have hv : R = 0 := HR.out.trans hl
      have HV := Lib.hid hv
      generalize hsh s.data.toList = n at *
      clear hl hv h1
      go_wp2
      go_ret
      exact ⟨by rw [HV.out]; rfl, hF⟩
     ·have h3' : hsh s.data.toList ≤ 3 := by omega
      have hl := lvl_at h1' h3' hlt
      generalize hsh s.data.toList = n at *
      obtain ⟨c, hc⟩ : ∃ c, s[n]'hlt = c := ⟨_, rfl⟩
      rw [hc, bl_eq] at hl
      rw [hc] at q
      by_cases c1 : c = 32
      ·subst c1
       have hv : R = n := by rw [HR.out, hl]; rfl
       have HV := Lib.hid hv
       have i1 : (1 : Int) ≤ n := by omega
       have i2 : (n : Int) ≤ 3 := by omega
       clear hl hv h1 h3
       go_wp2
       go_ret
       exact ⟨by rw [HV.out]; rfl, hF⟩
      ·have q1 : ((c.toNat : Int) == 32) = false := (u8_beq c 32).trans (decide_eq_false c1)
       have q1' : ((c.toNat : Int) != 32) = true := by unfold bne; rw [q1]; rfl
       rw [decide_eq_false c1] at hl
       by_cases c2 : c = 9
       ·subst c2
        have hv : R = n := by rw [HR.out, hl]; rfl
        have HV := Lib.hid hv
        clear hl hv h1 h3
        go_wp2
        go_ret
        exact ⟨by rw [HV.out]; rfl, hF⟩
       ·have q2 : ((c.toNat : Int) == 9) = false := (u8_beq c 9).trans (decide_eq_false c2)
        have q2' : ((c.toNat : Int) != 9) = true := by unfold bne; rw [q2]; rfl
        rw [decide_eq_false c2] at hl
        have hv : R = 0 := by rw [HR.out, hl]; rfl
        have HV := Lib.hid hv
        clear hl hv h1 h3 c1 c2
        go_wp2
        go_ret
        exact ⟨by rw [HV.out]; rfl, hF⟩
  ·obtain rfl : j = s.size := by omega
   rw [hsh_stop (fun h => absurd h hlt), Nat.add_zero] at hr
   by_cases h1 : s.size < 1
   ·have hv : R = 0 := HR.out.trans (lvl_few (.inl (by omega)))
    have HV := Lib.hid hv
    clear hr hv hj
    go_wp2
    go_ret
    exact ⟨by rw [HV.out]; rfl, hF⟩
   ·by_cases h3 : 3 < s.size
    ·have hv : R = 0 := HR.out.trans (lvl_few (.inr (by omega)))
     have HV := Lib.hid hv
     clear hr hv hj
     go_wp2
     go_ret
     exact ⟨by rw [HV.out]; rfl, hF⟩
    ·have hv : R = s.size := by rw [HR.out, lvl_end (by omega) (by omega) (by omega), hr]
     have HV := Lib.hid hv
     have i1 : (1 : Int) ≤ s.size := by omega
     have i2 : (s.size : Int) ≤ 3 := by omega
     clear hr hv hj h1 h3
     go_wp2
     go_ret
     exact ⟨by rw [HV.out]; rfl, hF⟩
theorem isFen_pre (l : List UInt8) : Lib.hasPrefix l [96, 96, 96] = isFen l := by
 unfold Lib.hasPrefix isFen
 match l with
 | [] => rfl
 | [a] => simp [List.isPrefixOf]
 | [a, b] => simp [List.isPrefixOf]
 | a :: b :: c :: t =>
  by_cases h1 : a = 96
  ·by_cases h2 : b = 96
   ·by_cases h3 : c = 96
    ·subst h1 h2 h3; simp
    ·have : ¬ 96 = c := fun e => h3 e.symm
     simp [List.isPrefixOf, h1, h2, h3, this]
   ·have : ¬ 96 = b := fun e => h2 e.symm
    simp [List.isPrefixOf, h1, h2, this]
  ·have : ¬ 96 = a := fun e => h1 e.symm
   simp [List.isPrefixOf, h1, this]
theorem isQuo_pre (l : List UInt8) : Lib.hasPrefix l [62] = isQuo l := by
 cases l with
 | nil => rfl
 | cons a t =>
  rw [hasPrefix_cons]
  unfold isQuo
  by_cases h : a = 62
  ·subst h; simp
  ·simp [h]
theorem isInd_pre (l : List UInt8) : Lib.hasPrefix l [32, 32] = isInd l := by
 unfold Lib.hasPrefix isInd
 match l with
 | [] => rfl
 | [a] => simp [List.isPrefixOf]
 | a :: b :: t =>
  by_cases h1 : a = 32
  ·by_cases h2 : b = 32
   ·subst h1 h2; simp
   ·have : ¬ 32 = b := fun e => h2 e.symm
    simp [List.isPrefixOf, h1, h2, this]
  ·have : ¬ 32 = a := fun e => h1 e.symm
   simp [List.isPrefixOf, h1, this]
theorem isItm_pre (l : List UInt8) : isItm l = ((l == [45]) || (Lib.hasPrefix l [45, 32] || Lib.hasPrefix l [45, 9])) := by
 unfold Lib.hasPrefix isItm
 match l with
 | [] => rfl
 | [a] =>
  by_cases h : a = 45
  ·subst h; simp
  ·simp [List.isPrefixOf, h]
 | a :: b :: t =>
  by_cases h : a = 45
  ·subst h
   simp only [bl_eq]
   by_cases h1 : b = 32
   ·subst h1; simp [List.isPrefixOf]
   ·by_cases h2 : b = 9
    ·subst h2; simp [List.isPrefixOf]
    ·have e1 : ¬ 32 = b := fun e => h1 e.symm
     have e2 : ¬ 9 = b := fun e => h2 e.symm
     simp [List.isPrefixOf, h1, h2, e1, e2]
  ·have e1 : ¬ 45 = a := fun e => h e.symm
   simp [List.isPrefixOf, h, e1]
theorem ritem_any (s : ByteArray) (w : World) (hs : s.size ≤ 1099511627776) : Calls Tryz.prog 91 #[.string s] w fun e w' => e = .returned (.bool (isItm s.data.toList)) ∧ Fresh w w' := by
 have h1 := fun W : World => begins_any s ⟨#[45, 32]⟩ W hs (by decide)
 have h2 := fun W : World => begins_any s ⟨#[45, 9]⟩ W hs (by decide)
 have hi := isItm_pre s.data.toList
 rw [show (⟨#[45, 32]⟩ : ByteArray).data.toList = [45, 32] from rfl] at h1
 rw [show (⟨#[45, 9]⟩ : ByteArray).data.toList = [45, 9] from rfl] at h2
 obtain ⟨R, hR⟩ : ∃ R, isItm s.data.toList = R := ⟨_, rfl⟩
 rw [hR] at hi ⊢
 generalize Lib.hasPrefix s.data.toList [45, 32] = b1 at *
 generalize Lib.hasPrefix s.data.toList [45, 9] = b2 at *
 have HI := Lib.hid hi
 have H1 := Lib.hid h1
 have H2 := Lib.hid h2
 have hq : (s.toList == [45]) = (s.data.toList == [45]) := by rw [ByteArray.toList_eq]
 clear hi h1 h2 hR
 cases h0 : (s.data.toList == [45]) with
 | true =>
  rw [h0] at hq
  have hv : R = true := by rw [HI.out, h0]; rfl
  have HV := Lib.hid hv
  clear hv h0
  go_enter Tryz.func91, Tryz.ntmps91
  go_wp2
  go_ret
  exact ⟨by rw [HV.out]; rfl, Keeps.refl _ _⟩
 | false =>
  rw [h0] at hq
  have hv : R = (b1 || b2) := by rw [HI.out, h0]; rfl
  have HV := Lib.hid hv
  clear hv h0
  cases b1 with
  | true =>
   go_enter Tryz.func91, Tryz.ntmps91
   go_wp2_with fail
   refine (H1.out _).mono ?_
   rintro r w2 ⟨rfl, hk2⟩
   have HK2 := Lib.hid hk2
   clear hk2
   go_wp2
   go_ret
   exact ⟨by rw [HV.out]; rfl, HK2.out⟩
  | false =>
   go_enter Tryz.func91, Tryz.ntmps91
   go_wp2_with fail
   refine (H1.out _).mono ?_
   rintro r w2 ⟨rfl, hk2⟩
   have HK2 := Lib.hid hk2
   clear hk2
   go_wp2_with fail
   refine (H2.out _).mono ?_
   rintro r w3 ⟨rfl, hk3⟩
   have HK3 := Lib.hid (HK2.out.tr hk3)
   clear hk3
   go_wp2
   go_ret
   exact ⟨by rw [HV.out]; rfl, HK3.out⟩
theorem starts_any (s : ByteArray) (d : Nat) (w : World) (hs : s.size ≤ 1099511627776) (hd : d ≤ 1000) : Calls Tryz.prog 59 #[.string s, .int .i64 d] w fun e w' => e = .returned (.int .i64 (sta s.data.toList d)) ∧ Fresh w w' := by
 have h1 := fun W : World => begins_any s ⟨#[96, 96, 96]⟩ W hs (by decide)
 have h2 := fun W : World => level_any s W hs
 have h3 := fun W : World => begins_any s ⟨#[62]⟩ W hs (by decide)
 have h4 := fun W : World => ritem_any s W hs
 rw [show (⟨#[96, 96, 96]⟩ : ByteArray).data.toList = [96, 96, 96] from rfl, isFen_pre] at h1
 rw [show (⟨#[62]⟩ : ByteArray).data.toList = [62] from rfl, isQuo_pre] at h3
 have hl := (lvl_le s.data.toList).1
 obtain ⟨R, hR⟩ : ∃ R, R = sta s.data.toList d := ⟨_, rfl⟩
 rw [← hR]
 unfold sta at hR
 generalize isFen s.data.toList = b1 at *
 generalize lvl s.data.toList = l at *
 generalize isQuo s.data.toList = b3 at *
 generalize isItm s.data.toList = b4 at *
 have H1 := Lib.hid h1
 have H2 := Lib.hid h2
 have H3 := Lib.hid h3
 have H4 := Lib.hid h4
 have HR := Lib.hid hR
 clear h1 h2 h3 h4 hR
 have hfin : (b1 = true ∧ R = 2) ∨ (b1 = false ∧ 0 < l ∧ R = 3) ∨ (b1 = false ∧ l = 0 ∧ b3 = true ∧ d < 3 ∧ R = 4) ∨ (b1 = false ∧ l = 0 ∧ b3 = false ∧ b4 = true ∧ d < 3 ∧ R = 5) ∨ (b1 = false ∧ l = 0 ∧ 3 ≤ d ∧ R = 0) ∨ (b1 = false ∧ l = 0 ∧ b3 = false ∧ b4 = false ∧ d < 3 ∧ R = 0) := by
  have := HR.out
  cases b1 with
  | true => exact .inl ⟨rfl, by simpa using this⟩
  | false =>
   rcases Nat.eq_zero_or_pos l with rfl | hl0
   ·rcases Nat.lt_or_ge d 3 with hd3 | hd3
    ·cases b3 with
     | true => exact .inr (.inr (.inl ⟨rfl, rfl, rfl, hd3, by simpa [hd3] using this⟩))
     | false =>
      cases b4 with
      | true => exact .inr (.inr (.inr (.inl ⟨rfl, rfl, rfl, rfl, hd3, by simpa [hd3] using this⟩)))
      | false => exact .inr (.inr (.inr (.inr (.inr ⟨rfl, rfl, rfl, rfl, hd3, by simpa [hd3] using this⟩))))
    ·have hn : ¬ d < 3 := by omega
     exact .inr (.inr (.inr (.inr (.inl ⟨rfl, rfl, hd3, by simpa [hn] using this⟩))))
   ·exact .inr (.inl ⟨rfl, hl0, by simpa [hl0] using this⟩)
 have HC := Lib.hid hfin
 clear hfin
 rcases HC.out with ⟨rfl, hv⟩ | ⟨rfl, hl0, hv⟩ | ⟨rfl, rfl, rfl, hd3, hv⟩ | ⟨rfl, rfl, rfl, rfl, hd3, hv⟩ | ⟨rfl, rfl, hd3, hv⟩ | ⟨rfl, rfl, rfl, rfl, hd3, hv⟩
 all_goals
  have HV := Lib.hid hv
  clear hv
  go_enter Tryz.func59, Tryz.ntmps59
  go_wp2_with fail
  refine (H1.out _).mono ?_
  rintro r w2 ⟨rfl, hk2⟩
  have HK2 := Lib.hid hk2
  clear hk2
  go_wp2_with fail
  refine (H2.out _).mono ?_
  rintro r w3 ⟨rfl, hk3⟩
  have HK3 := Lib.hid (HK2.out.tr hk3)
  clear hk3
  go_wp2_with fail
  refine (H3.out _).mono ?_
  rintro r w4 ⟨rfl, hk4⟩
  have HK4 := Lib.hid (HK3.out.tr hk4)
  clear hk4
  go_wp2_with fail
  refine (H4.out _).mono ?_
  rintro r w5 ⟨rfl, hk5⟩
  have HK5 := Lib.hid (HK4.out.tr hk5)
  clear hk5
  go_wp2
  all_goals
   go_ret
   exact ⟨by rw [HV.out]; rfl, HK5.out⟩
end Go.Proofs.YtbioecifiogffaaGreatDoor
namespace Go.Proofs.YtbioecifiogffaaGreatDoor
open Go.RowKit
theorem bl_false {c : UInt8} (h : bl c = false) : c ≠ 32 ∧ c ≠ 9 := by
 rw [bl_eq] at h
 simpa using h
theorem bl_true {c : UInt8} (h : bl c = true) : c = 32 ∨ c = 9 := by
 rw [bl_eq] at h
 simpa using h
theorem last_snoc {X : ByteArray} (h : 0 < X.size) : X.data.toList = (X.extract 0 (X.size - 1)).data.toList ++ [X[X.size - 1]'(by omega)] := by
 rw [Lib.extract_data, List.drop_zero, Nat.sub_zero]
 have hl : X.data.toList.length = X.size := by simp
 have h1 : X.size - 1 < X.data.toList.length := by omega
 have h2 := List.take_append_getElem h1
 rw [show X.size - 1 + 1 = X.data.toList.length by omega, List.take_length] at h2
 conv => lhs; rw [← h2]
 simp [ByteArray.getElem_eq_getElem_data]
theorem trim_any (s : ByteArray) (w : World) (hs : s.size ≤ 1099511627776) : Calls Tryz.prog 62 #[.string s] w fun e w' => e = .returned (.string ⟨(trm s.data.toList).toArray⟩) ∧ Fresh w w' := by
 obtain ⟨R, hR⟩ : ∃ R, R = trm s.data.toList := ⟨_, rfl⟩
 rw [← hR]
 have HR := Lib.hid hR.symm
 clear hR
 go_enter Tryz.func62, Tryz.ntmps62
 go_wp2
 go_loopw [0] (fun v wr => ∃ X : ByteArray, v = .string X ∧ X.size ≤ s.size ∧ trm X.data.toList = R ∧ Fresh w wr) (fun v _ => Lib.strSize v)
 case atStart => exact ⟨s, rfl, Nat.le_refl _, HR.out, Keeps.refl _ _⟩
 case round =>
  obtain ⟨X, rfl, hXs, hX, hF⟩ := hrel
  by_cases h0 : 0 < X.size
  ·obtain ⟨c, hc⟩ : ∃ c, X[0]'h0 = c := ⟨_, rfl⟩
   have hd := drop_lt h0
   rw [List.drop_zero, hc] at hd
   have hr : (X.extract 1 X.size).data.toList = X.data.toList.drop 1 := rest_list X 1
   rw [hd, trm_cons] at hX
   cases hb : bl c with
   | true =>
    rw [hb] at hX
    have hX2 : trm (X.extract 1 X.size).data.toList = R := by rw [hr]; exact hX
    have HX2 := Lib.hid hX2
    have HF := Lib.hid hF
    have hb2 := hb
    rw [bl_eq] at hb2
    have i1 : (0 : Int) < X.size := by omega
    have i2 : (1 : Int) ≤ X.size := by omega
    have hsz : (X.extract 1 X.size).size = X.size - 1 := by simp
    have HSZ := Lib.hid hsz
    clear hX2 hX hF hr hd hb hsz
    by_cases c1 : c = 32
    ·subst c1
     clear hb2
     go_wp2
     go_roundw
     case rel => exact ⟨_, rfl, by rw [HSZ.out]; omega, HX2.out, HF.out⟩
     case measure => rw [Lib.strSize_string, Lib.strSize_string, HSZ.out]; omega
    ·have c2 : c = 9 := by simpa [c1] using hb2
     subst c2
     clear hb2 c1
     go_wp2
     go_roundw
     case rel => exact ⟨_, rfl, by rw [HSZ.out]; omega, HX2.out, HF.out⟩
     case measure => rw [Lib.strSize_string, Lib.strSize_string, HSZ.out]; omega
   | false =>
    rw [hb] at hX
    have hX2 : cutR X.data.toList = R := by rw [hd]; exact hX
    have HX2 := Lib.hid hX2
    have HF := Lib.hid hF
    have c1 : ((c.toNat : Int) == 32) = false := (u8_beq c 32).trans (decide_eq_false (bl_false hb).1)
    have c2 : ((c.toNat : Int) == 9) = false := (u8_beq c 9).trans (decide_eq_false (bl_false hb).2)
    clear hX2 hX hF hr hd hb
    go_wp2
    go_loopw [0] (fun v wr => ∃ X : ByteArray, v = .string X ∧ X.size ≤ s.size ∧ cutR X.data.toList = R ∧ Fresh w wr) (fun v _ => Lib.strSize v)
    case atStart => exact ⟨_, rfl, hXs, HX2.out, HF.out⟩
    case round =>
     obtain ⟨Y, rfl, hYs, hY, hFY⟩ := hrel
     by_cases y0 : 0 < Y.size
     ·have hy1 : Y.size - 1 < Y.size := by omega
      obtain ⟨d, hd⟩ : ∃ d, Y[Y.size - 1]'hy1 = d := ⟨_, rfl⟩
      have hls := last_snoc y0
      rw [hd] at hls
      rw [hls, cutR_snoc] at hY
      have j1 : (0 : Int) ≤ (Y.size : Int) - 1 := by omega
      have j2 : ((Y.size : Int) - 1).toNat = Y.size - 1 := by omega
      have j3 : (Y.size : Int) - 1 < Y.size := by omega
      have hsz : (Y.extract 0 (Y.size - 1)).size = Y.size - 1 := by simp
      cases hb : bl d with
      | true =>
       rw [hb] at hY
       have HY := Lib.hid (show cutR (Y.extract 0 (Y.size - 1)).data.toList = R from hY)
       have HSZ := Lib.hid hsz
       have HFY := Lib.hid hFY
       clear hY hls hsz hFY
       rcases bl_true hb with rfl | rfl
       all_goals
        clear hb
        go_wp2
        go_roundw
        case rel => exact ⟨_, rfl, by rw [HSZ.out]; omega, HY.out, HFY.out⟩
        case measure => rw [Lib.strSize_string, Lib.strSize_string, HSZ.out]; omega
      | false =>
       rw [hb] at hY
       have hY2 : Y.data.toList = R := by rw [hls]; exact hY
       have hYe : (⟨R.toArray⟩ : ByteArray) = Y := by rw [← hY2]
       have d1 : ((d.toNat : Int) == 32) = false := (u8_beq d 32).trans (decide_eq_false (bl_false hb).1)
       have d2 : ((d.toNat : Int) == 9) = false := (u8_beq d 9).trans (decide_eq_false (bl_false hb).2)
       have HYE := Lib.hid hYe
       clear hY hls hb hY2 hYe hsz
       go_wp2
       go_ret
       exact ⟨by rw [HYE.out]; rfl, hFY⟩
     ·have hYn : Y.data.toList = [] := List.eq_nil_of_length_eq_zero (by have : Y.data.toList.length = Y.size := by simp
                                                                         omega)
      rw [hYn, cutR_nil] at hY
      have hYe : (⟨R.toArray⟩ : ByteArray) = Y := by rw [← hY, ← hYn]
      have HYE := Lib.hid hYe
      clear hY hYn hYe
      go_wp2
      go_ret
      exact ⟨by rw [HYE.out]; rfl, hFY⟩
  ·have hXn : X.data.toList = [] := List.eq_nil_of_length_eq_zero (by have : X.data.toList.length = X.size := by simp
                                                                      omega)
   rw [hXn, trm_nil] at hX
   have HX2 := Lib.hid (show cutR X.data.toList = R by rw [hXn, ← hX]; rfl)
   have HF := Lib.hid hF
   clear hX hXn hF
   go_wp2
   go_loopw [0] (fun v wr => ∃ X : ByteArray, v = .string X ∧ X.size ≤ s.size ∧ cutR X.data.toList = R ∧ Fresh w wr) (fun v _ => Lib.strSize v)
   case atStart => exact ⟨_, rfl, hXs, HX2.out, HF.out⟩
   case round =>
    obtain ⟨Y, rfl, hYs, hY, hFY⟩ := hrel
    by_cases y0 : 0 < Y.size
    ·have hy1 : Y.size - 1 < Y.size := by omega
     obtain ⟨d, hd⟩ : ∃ d, Y[Y.size - 1]'hy1 = d := ⟨_, rfl⟩
     have hls := last_snoc y0
     rw [hd] at hls
     rw [hls, cutR_snoc] at hY
     have j1 : (0 : Int) ≤ (Y.size : Int) - 1 := by omega
     have j2 : ((Y.size : Int) - 1).toNat = Y.size - 1 := by omega
     have j3 : (Y.size : Int) - 1 < Y.size := by omega
     have hsz : (Y.extract 0 (Y.size - 1)).size = Y.size - 1 := by simp
     cases hb : bl d with
     | true =>
      rw [hb] at hY
      have HY := Lib.hid (show cutR (Y.extract 0 (Y.size - 1)).data.toList = R from hY)
      have HSZ := Lib.hid hsz
      have HFY := Lib.hid hFY
      clear hY hls hsz hFY
      rcases bl_true hb with rfl | rfl
      all_goals
       clear hb
       go_wp2
       go_roundw
       case rel => exact ⟨_, rfl, by rw [HSZ.out]; omega, HY.out, HFY.out⟩
       case measure => rw [Lib.strSize_string, Lib.strSize_string, HSZ.out]; omega
     | false =>
      rw [hb] at hY
      have hY2 : Y.data.toList = R := by rw [hls]; exact hY
      have hYe : (⟨R.toArray⟩ : ByteArray) = Y := by rw [← hY2]
      have d1 : ((d.toNat : Int) == 32) = false := (u8_beq d 32).trans (decide_eq_false (bl_false hb).1)
      have d2 : ((d.toNat : Int) == 9) = false := (u8_beq d 9).trans (decide_eq_false (bl_false hb).2)
      have HYE := Lib.hid hYe
      clear hY hls hb hY2 hYe hsz
      go_wp2
      go_ret
      exact ⟨by rw [HYE.out]; rfl, hFY⟩
    ·have hYn : Y.data.toList = [] := List.eq_nil_of_length_eq_zero (by have : Y.data.toList.length = Y.size := by simp
                                                                        omega)
     rw [hYn, cutR_nil] at hY
     have hYe : (⟨R.toArray⟩ : ByteArray) = Y := by rw [← hY, ← hYn]
     have HYE := Lib.hid hYe
     clear hY hYn hYe
     go_wp2
     go_ret
     exact ⟨by rw [HYE.out]; rfl, hFY⟩
end Go.Proofs.YtbioecifiogffaaGreatDoor
namespace Go.Proofs.YtbioecifiogffaaGreatDoor
open Go.RowKit
theorem Tryz.infoRE2 : (Tryz.prog.info? 104).map (fun i => (i.zero, i.size, i.bytes)) = some (some (.agg #[.int .i64 0, .bool false, .int .i64 0, .string ⟨#[]⟩]), 4, 40) := by kernel_rfl
def EL (l : List EvL) : List Ev := l.map Prod.fst
theorem EL_append (a b : List EvL) : EL (a ++ b) = EL a ++ EL b := by simp [EL]
theorem ev_add (w : World) (e : Ev) (t : TypeId) {v : Value} {n : Nat} {xs : List Value} (h : w.ownsRow 0 t 4 v n xs) : (w.alloc (.cells #[.int .i64 e.kind, .bool e.fin, .int .i64 e.level, .string ⟨e.text.toArray⟩] t)).ownsRow 0 t 4 v n xs := own_kept h ((Keeps.refl (fun _ => False) _).alloc _) (fun _ _ h => h)
theorem ev_at (w : World) (e : Ev) (t : TypeId) (H : Nat) (hH : w.heap.size = H) : ∀ ad, some (⟨H, 0, none⟩ : Addr) = some ad → ∀ j u, e.cells[j]? = some u → (w.alloc (.cells #[.int .i64 e.kind, .bool e.fin, .int .i64 e.level, .string ⟨e.text.toArray⟩] t)).cell? (ad.add j) = some u := by
 subst hH
 exact ev_new w e t
theorem own_grow {w W w' : World} {v v' : Value} (hF : Fresh w W) (ho : ∀ b, v.ownBlock = some b → w.heap.size ≤ b) (hg : Grow W v v') (hk : Keeps (fun k => v.ownBlock = some k) W w') : (∀ b, v'.ownBlock = some b → w.heap.size ≤ b) ∧ Fresh w w' := by
 refine ⟨fun b hb => ?_, hF.trans hk (fun j h1 h2 => by have := ho j h2; omega)⟩
 rcases hg b hb with h | h
 ·exact ho b h
 ·exact Nat.le_trans hF.size h
theorem leaf_any (k lv : Int) (s : ByteArray) (lf : Bool) (w : World) :
 Calls Tryz.prog 63 #[.int .i64 k, .int .i64 lv, .string s] w fun e w' => ∃ v, e = .returned v ∧ Evs w' 104 v (EL (leafE k lv s.data.toList lf)) ∧ (∀ b, v.ownBlock = some b → w.heap.size ≤ b) ∧ Fresh w w' := by
 have HI := Lib.hid Tryz.infoRE2
 have hnil : s.toList = s.data.toList := ByteArray.toList_eq s
 have hl : (w.alloc (.cells #[.int .i64 k, .bool false, .int .i64 lv, .string ⟨#[]⟩] 104)).ownsRow 0 104 4 (.slice (some ⟨w.heap.size, 0, none⟩) 1 1) 1 (evCells [⟨k, false, lv, []⟩]) := Evs.lit w 104 [⟨k, false, lv, []⟩] (by simp [maxLen])
 have hF1 : Fresh w (w.alloc (.cells #[.int .i64 k, .bool false, .int .i64 lv, .string ⟨#[]⟩] 104)) := (Keeps.refl _ _).alloc _
 have ho1 : ∀ b, (Value.slice (some ⟨w.heap.size, 0, none⟩) 1 1).ownBlock = some b → w.heap.size ≤ b := fun b h => by simp [Value.ownBlock] at h; omega
 by_cases h0 : s.data.toList = []
 ·have hq : s.toList = [] := by rw [hnil, h0]
  have he : EL (leafE k lv s.data.toList lf) = [⟨k, false, lv, []⟩] ++ [⟨k, true, lv, []⟩] := by rw [h0]; rfl
  rw [he]
  have HL := Lib.hid (ev_add _ ⟨k, true, lv, []⟩ 104 hl)
  have HF1 := Lib.hid (hF1.alloc (.cells #[.int .i64 k, .bool true, .int .i64 lv, .string ⟨#[]⟩] 104))
  have HO1 := Lib.hid ho1
  clear h0 hnil he hl hF1 ho1
  go_enter Tryz.func63, Tryz.ntmps63
  go_wp2_with (at_builtin; refine wpList_append_mine _ rfl _ _ 57 rfl 104 _ 4 40 Tryz.underlying57 HI.out rfl (by decide) _ _ _ rfl HL.out _ 1 1 (⟨k, true, lv, []⟩ : Ev).cells rfl rfl (fun h => (by cases h)) (ev_at _ ⟨k, true, lv, []⟩ 104 _ (by simp)) (ev_one _) (by decide) (by decide) ?_)
  intro p5 c5 w5 hr5 hg5 hk5
  have HR := Lib.hid (Evs.snoc (L := [⟨k, false, lv, []⟩]) hr5)
  have HO := Lib.hid (own_grow HF1.out HO1.out hg5 hk5)
  clear hr5 hg5 hk5
  go_wp2
  go_ret
  exact ⟨_, rfl, HR.out, HO.out.1, HO.out.2⟩
 ·have hq : s.toList.isEmpty = false := by rw [hnil]; simpa using h0
  have hq2 : ¬ s.toList = [] := by rw [hnil]; exact h0
  have he : EL (leafE k lv s.data.toList lf) = [⟨k, false, lv, []⟩, ⟨8, false, 0, s.data.toList⟩] ++ [⟨k, true, lv, []⟩] := by simp [leafE, txE, h0, EL]
  rw [he]
  have hss : (⟨s.data.toList.toArray⟩ : ByteArray) = s := rfl
  have hl1 := ev_add _ ⟨8, false, 0, s.data.toList⟩ 104 hl
  rw [hss] at hl1
  have HL := Lib.hid hl1
  have HF1 := Lib.hid (hF1.alloc (.cells #[.int .i64 8, .bool false, .int .i64 0, .string s] 104))
  have HO1 := Lib.hid ho1
  have hne := ev_at (w.alloc (.cells #[.int .i64 k, .bool false, .int .i64 lv, .string ⟨#[]⟩] 104)) ⟨8, false, 0, s.data.toList⟩ 104 (w.heap.size + 1) (by simp)
  rw [hss] at hne
  have HNE := Lib.hid hne
  clear h0 hnil he hl hF1 ho1 hl1 hne hss
  go_enter Tryz.func63, Tryz.ntmps63
  go_wp2_with (at_builtin; refine wpList_append_mine _ rfl _ _ 57 rfl 104 _ 4 40 Tryz.underlying57 HI.out rfl (by decide) _ _ _ rfl HL.out _ 1 1 (⟨8, false, 0, s.data.toList⟩ : Ev).cells rfl rfl (fun h => (by cases h)) HNE.out (ev_one _) (by decide) (by decide) ?_)
  intro p5 c5 w5 hr5 hg5 hk5
  have hr6 : w5.ownsRow 0 104 4 (.slice p5 2 c5) 2 (evCells [⟨k, false, lv, []⟩, ⟨8, false, 0, s.data.toList⟩]) := hr5
  obtain ⟨ho5, hF5⟩ := own_grow HF1.out HO1.out hg5 hk5
  have HL2 := Lib.hid (ev_add _ ⟨k, true, lv, []⟩ 104 hr6)
  have HF2 := Lib.hid (hF5.alloc (.cells #[.int .i64 k, .bool true, .int .i64 lv, .string ⟨#[]⟩] 104))
  have HO2 := Lib.hid (ho5 : ∀ b, (Value.slice p5 2 c5).ownBlock = some b → w.heap.size ≤ b)
  clear hr5 hg5 hk5 hr6 ho5 hF5
  go_wp2_with (at_builtin; refine wpList_append_mine _ rfl _ _ 57 rfl 104 _ 4 40 Tryz.underlying57 HI.out rfl (by decide) _ _ _ rfl HL2.out _ 1 1 (⟨k, true, lv, []⟩ : Ev).cells rfl rfl (fun h => (by cases h)) (ev_new _ ⟨k, true, lv, []⟩ 104) (ev_one _) (by decide) (by decide) ?_)
  intro p6 c6 w6 hr6 hg6 hk6
  have HR := Lib.hid (Evs.snoc (L := [⟨k, false, lv, []⟩, ⟨8, false, 0, s.data.toList⟩]) hr6)
  have HO := Lib.hid (own_grow HF2.out HO2.out hg6 hk6)
  clear hr6 hg6 hk6
  go_wp2
  go_ret
  exact ⟨_, rfl, HR.out, HO.out.1, HO.out.2⟩
end Go.Proofs.YtbioecifiogffaaGreatDoor
namespace Go.Proofs.YtbioecifiogffaaGreatDoor
open Go.RowKit
theorem ln_at (w : World) (s : ByteArray) (t : TypeId) (H : Nat) (hH : w.heap.size = H) : ∀ ad, some (⟨H, 0, none⟩ : Addr) = some ad → ∀ j u, [Value.string s][j]? = some u → (w.alloc (.cells #[.string s] t)).cell? (ad.add j) = some u := by
 subst hH
 exact ln_new w s t
theorem ln_add (w : World) (s : ByteArray) (t : TypeId) {v : Value} {n : Nat} {xs : List Value} {e : TypeId} (h : w.ownsRow 0 e 1 v n xs) : (w.alloc (.cells #[.string s] t)).ownsRow 0 e 1 v n xs := own_kept h ((Keeps.refl (fun _ => False) _).alloc _) (fun _ _ h => h)
theorem str_empty (A : ByteArray) : A.toList.isEmpty = decide (A.data.toList = []) := by
 rw [ByteArray.toList_eq]
 cases A.data.toList <;> simp
theorem rLines_any (s : ByteArray) (w : World) (hs : s.size ≤ 16777216) :
 Calls Tryz.prog 35 #[.string s] w fun e w' => ∃ v, e = .returned v ∧ Lns w' v (lns s.data.toList) ∧ (∀ b, v.ownBlock = some b → w.heap.size ≤ b) ∧ Fresh w w' := by
 obtain ⟨R, hR⟩ : ∃ R, R = lns s.data.toList := ⟨_, rfl⟩
 rw [← hR]
 have h0 : ([] : List Ln) ++ lnsA [] (s.data.toList.drop 0) = R := by rw [List.drop_zero, hR]; rfl
 have H0 := Lib.hid h0
 have HI := Lib.hid Tryz.infoStr
 clear hR h0
 go_enter Tryz.func35, Tryz.ntmps35
 go_wp2
 go_loopw [3, 4, 5] (fun l a i wr => ∃ (j : Nat) (done : List Ln) (A : ByteArray), i = .int .i64 j ∧ j ≤ s.size ∧ a = .string A ∧ A.size ≤ j ∧ done.length ≤ j ∧ Lns wr l done ∧ done ++ lnsA A.data.toList (s.data.toList.drop j) = R ∧ (∀ b, l.ownBlock = some b → w.heap.size ≤ b) ∧ Fresh w wr) (fun _ _ i _ => s.size - (intOf i).toNat)
 case atStart => exact ⟨0, [], ⟨#[]⟩, rfl, Nat.zero_le _, rfl, Nat.le_refl _, Nat.le_refl _, Lns.nil _, H0.out, (fun b h => by cases h), Keeps.refl _ _⟩
 case round =>
  obtain ⟨j, done, A, rfl, hj, rfl, hA, hdl, hl, hr, ho, hF⟩ := hrel
  obtain ⟨q, c, rfl, hqc, hq, hg⟩ := own_form hl
  have hAE := str_empty A
  by_cases hlt : j < s.size
  ·have hd := drop_lt hlt
   obtain ⟨b, hb⟩ : ∃ b, s[j]'hlt = b := ⟨_, rfl⟩
   rw [hb] at hd
   rw [hd] at hr
   unfold lnsA at hr
   by_cases h10 : b = 10
   ·subst h10
    rw [if_pos rfl] at hr
    have hr2 : (done ++ [A.data.toList]) ++ lnsA (⟨#[]⟩ : ByteArray).data.toList (s.data.toList.drop (j + 1)) = R := by rw [← hr]; simp
    have HR := Lib.hid hr2
    have hl2 : wr.ownsRow 0 9 1 (.slice q done.length c) done.length (lnCells done) := hl
    have HL := Lib.hid (ln_add _ A 9 hl2)
    have HO := Lib.hid ho
    have HF := Lib.hid hF
    clear hr hr2 hl hl2 ho hF hd hAE hq hg
    go_wp2_with (at_builtin; refine wpList_append_mine _ rfl _ _ 86 rfl 9 _ 1 16 Tryz.underlying86 HI.out rfl (by decide) _ _ _ rfl HL.out _ 1 1 [.string A] rfl rfl (fun h => (by cases h)) (ln_at _ A 9 _ (by simp)) (str_one _) (by unfold maxLen; omega) (by omega) ?_)
    intro p5 c5 w5 hr5 hg5 hk5
    obtain ⟨ho5, hF5⟩ := own_grow (HF.out.alloc _) HO.out hg5 hk5
    have HL5 := Lib.hid (Lns.snoc (s := A.data.toList) hr5)
    have HO5 := Lib.hid ho5
    have HF5 := Lib.hid hF5
    clear hr5 hg5 hk5 ho5 hF5
    go_wp2
    go_roundw
    case rel => exact ⟨j + 1, done ++ [A.data.toList], ⟨#[]⟩, by go_num, by omega, rfl, Nat.zero_le _, by simp; omega, HL5.out, HR.out, HO5.out, HF5.out⟩
    case measure => simp [intOf]; omega
   ·rw [if_neg h10] at hr
    have q : ((b.toNat : Int) == 10) = false := (u8_beq b 10).trans (decide_eq_false h10)
    have hx : (A ++ s.extract j (j + 1)).data.toList = A.data.toList ++ [b] := by
     rw [ByteArray.data_append, Array.toList_append, ext_list, hd]
     simp
    have hr2 : done ++ lnsA (A ++ s.extract j (j + 1)).data.toList (s.data.toList.drop (j + 1)) = R := by rw [hx]; exact hr
    have hes : (s.extract j (j + 1)).size = 1 := by rw [ByteArray.size_extract]; omega
    have hsz : (A ++ s.extract j (j + 1)).size = A.size + 1 := by rw [ByteArray.size_append, hes]
    have HR := Lib.hid hr2
    have HL := Lib.hid hl
    have HO := Lib.hid ho
    have HF := Lib.hid hF
    have HSZ := Lib.hid hsz
    have HES := Lib.hid hes
    clear hr hr2 hl ho hF hd hAE hq hg hx hsz h10 hes
    go_wp2
    go_roundw
    case rel => exact ⟨j + 1, done, _, by go_num, by omega, rfl, by rw [HSZ.out]; omega, by omega, HL.out, HR.out, HO.out, HF.out⟩
    case measure => simp [intOf]; omega
  ·obtain rfl : j = s.size := by omega
   rw [drop_ge (by omega)] at hr
   unfold lnsA at hr
   by_cases h0 : A.data.toList = []
   ·rw [if_pos h0, List.append_nil] at hr
    subst hr
    rw [h0] at hAE
    have hAE2 : A.toList = [] := by rw [ByteArray.toList_eq, h0]
    have HL := Lib.hid hl
    clear h0 hl hq hg
    go_wp2
    go_ret
    exact ⟨_, rfl, HL.out, ho, hF⟩
   ·rw [if_neg h0] at hr
    rw [decide_eq_false h0] at hAE
    have hAE2 : ¬ A.toList = [] := by rw [ByteArray.toList_eq]; exact h0
    have hl2 : wr.ownsRow 0 9 1 (.slice q done.length c) done.length (lnCells done) := hl
    have HL := Lib.hid (ln_add _ A 9 hl2)
    have HO := Lib.hid ho
    have HF := Lib.hid hF
    have HR := Lib.hid hr
    clear hr hl hl2 ho hF hq hg h0
    go_wp2_with (at_builtin; refine wpList_append_mine _ rfl _ _ 86 rfl 9 _ 1 16 Tryz.underlying86 HI.out rfl (by decide) _ _ _ rfl HL.out _ 1 1 [.string A] rfl rfl (fun h => (by cases h)) (ln_at _ A 9 _ (by simp)) (str_one _) (by unfold maxLen; omega) (by omega) ?_)
    intro p5 c5 w5 hr5 hg5 hk5
    obtain ⟨ho5, hF5⟩ := own_grow (HF.out.alloc _) HO.out hg5 hk5
    have hl5 := Lns.snoc (s := A.data.toList) hr5
    rw [HR.out] at hl5
    have HL5 := Lib.hid hl5
    have HO5 := Lib.hid ho5
    have HF5 := Lib.hid hF5
    clear hr5 hg5 hk5 ho5 hF5 hl5
    go_wp2
    go_ret
    exact ⟨_, rfl, HL5.out, HO5.out, HF5.out⟩
theorem behind_any (g : Nat) (v : Value) (l : List Ln) (n : Nat) (w : World) (h : LnAt w g v l) (hn : n ≤ l.length) (hL : tot l ≤ 16777216) :
 Calls Tryz.prog 92 #[v, .int .i64 n] w fun e w' => e = .returned (.int .i64 ((n + nbl (l.drop n) : Nat) : Int)) ∧ Fresh w w' := by
 obtain ⟨N, hN⟩ : ∃ N, N = n + nbl (l.drop n) := ⟨_, rfl⟩
 rw [← hN]
 obtain ⟨a, cap, rfl⟩ := h.form
 have hlen := tot_len l
 have HN := Lib.hid hN.symm
 have H := Lib.hid h
 clear hN h
 go_enter Tryz.func92, Tryz.ntmps92
 go_wp2
 go_loopw [1] (fun i wr => ∃ j : Nat, i = .int .i64 j ∧ j ≤ l.length ∧ j + nbl (l.drop j) = N ∧ Fresh w wr) (fun i _ => l.length - (intOf i).toNat)
 case atStart => exact ⟨n, rfl, hn, HN.out, Keeps.refl _ _⟩
 case round =>
  obtain ⟨j, rfl, hj, hr, hF⟩ := hrel
  by_cases hlt : j < l.length
  ·obtain ⟨s, hs⟩ : ∃ s, l[j]? = some s := ⟨l[j], List.getElem?_eq_getElem hlt⟩
   have hd : l.drop j = s :: l.drop (j + 1) := by
    rw [List.drop_eq_getElem_cons hlt]
    rw [List.getElem?_eq_getElem hlt] at hs
    injection hs with hs
    rw [hs]
   obtain ⟨cap', off, he, h1, h2, hcell⟩ := (H.out.fresh hF).line hs
   cases he
   have hsz : s.length ≤ tot l := by
    have := tot_drop l j
    rw [hd, tot_cons] at this
    omega
   have hbl := fun W : World => rBlank_any ⟨s.toArray⟩ W (by simp [ByteArray.size]; omega)
   rw [show (⟨s.toArray⟩ : ByteArray).data.toList = s from rfl] at hbl
   rw [hd] at hr
   unfold nbl at hr
   cases hb : blank s with
   | true =>
    rw [hb] at hbl hr
    have hr2 : j + 1 + nbl (l.drop (j + 1)) = N := by rw [if_pos rfl] at hr; omega
    have HR := Lib.hid hr2
    have HB := Lib.hid hbl
    have HF := Lib.hid hF
    clear hr hr2 hbl hF hd hs hb
    go_wp2_with fail
    refine (HB.out _).mono ?_
    rintro r w2 ⟨rfl, hk2⟩
    have HF2 := Lib.hid (HF.out.tr hk2)
    clear hk2
    go_wp2
    go_roundw
    case rel => exact ⟨j + 1, by go_num, by omega, HR.out, HF2.out⟩
    case measure => simp [intOf]; omega
   | false =>
    rw [hb] at hbl hr
    have hr2 : N = j := by simpa using hr.symm
    subst hr2
    have HB := Lib.hid hbl
    have HF := Lib.hid hF
    clear hr hbl hF hd hs hb
    go_wp2_with fail
    refine (HB.out _).mono ?_
    rintro r w2 ⟨rfl, hk2⟩
    have HF2 := Lib.hid (HF.out.tr hk2)
    clear hk2
    go_wp2
    go_ret
    exact ⟨rfl, HF2.out⟩
  ·obtain rfl : j = l.length := by omega
   rw [List.drop_length] at hr
   have hr2 : N = l.length := by simpa [nbl] using hr.symm
   have HR := Lib.hid hr2
   clear hr hr2 hlt
   go_wp2
   go_ret
   exact ⟨by rw [HR.out]; rfl, hF⟩
end Go.Proofs.YtbioecifiogffaaGreatDoor
namespace Go.Proofs.YtbioecifiogffaaGreatDoor
open Go.RowKit
theorem line_at {l : List Ln} {j : Nat} (h : j < l.length) : ∃ s, l[j]? = some s ∧ l.drop j = s :: l.drop (j + 1) := by
 refine ⟨l[j], List.getElem?_eq_getElem h, List.drop_eq_getElem_cons h⟩
theorem isFen_long {s : Ln} (h : isFen s = true) : 3 ≤ s.length := by
 unfold isFen at h
 split at h
 ·simp
 ·cases h
theorem mk_size (s : Ln) : (⟨s.toArray⟩ : ByteArray).size = s.length := by simp [ByteArray.size]
theorem mk_of (l : List UInt8) : ∃ A : ByteArray, (⟨l.toArray⟩ : ByteArray) = A ∧ A.data.toList = l ∧ A.size = l.length := ⟨_, rfl, rfl, by simp [ByteArray.size]⟩
theorem mk_rest (s : Ln) (k : Nat) : ((⟨s.toArray⟩ : ByteArray).extract k s.length).data.toList = s.drop k := by
 have := rest_list ⟨s.toArray⟩ k
 rw [mk_size] at this
 exact this
theorem fenced_any (g : Nat) (v : Value) (s0 : Ln) (t : List Ln) (w : World) (h : LnAt w g v (s0 :: t)) (hL : tot (s0 :: t) ≤ 16777216) :
 Calls Tryz.prog 60 #[v] w fun e w' => ∃ u N, e = .returned (.tuple #[u, .int .i64 ((N : Nat) : Int)]) ∧ N ≤ t.length + 1 ∧ (s0 :: t).drop N = (fnc t).2 ∧ Evs w' 104 u (EL (leafE 5 0 (fnc t).1 false)) ∧ (∀ b, u.ownBlock = some b → w.heap.size ≤ b) ∧ Fresh w w' := by
 obtain ⟨X, hX⟩ : ∃ X, X = (fnc t).1 := ⟨_, rfl⟩
 obtain ⟨Y, hY⟩ : ∃ Y, Y = (fnc t).2 := ⟨_, rfl⟩
 rw [← hX, ← hY]
 obtain ⟨l, hl⟩ : ∃ l, l = s0 :: t := ⟨_, rfl⟩
 rw [← hl] at h hL ⊢
 have hlen := tot_len l
 have hl1 : 1 ≤ l.length := by rw [hl]; simp
 have hl2 : t.length + 1 = l.length := by rw [hl]; simp
 rw [hl2]
 have h0 : ([] : List UInt8) ++ (fnc (l.drop 1)).1 = X ∧ (fnc (l.drop 1)).2 = Y ∧ 0 + tot (l.drop 1) ≤ 16777216 := by
  refine ⟨by rw [hl, hX]; rfl, by rw [hl, hY]; rfl, by have := tot_drop l 1; omega⟩
 obtain ⟨a, cap, rfl⟩ := h.form
 have hleaf := fun (A : ByteArray) (W : World) => leaf_any 5 0 A false W
 have HLF := Lib.hid hleaf
 have H := Lib.hid h
 have H0 := Lib.hid h0
 clear h h0 hX hY hl hl2 hleaf
 go_enter Tryz.func60, Tryz.ntmps60
 go_wp2
 go_loopw [4, 5] (fun x i wr => ∃ (j : Nat) (A : ByteArray), i = .int .i64 j ∧ 1 ≤ j ∧ j ≤ l.length ∧ x = .string A ∧ (A.data.toList ++ (fnc (l.drop j)).1 = X ∧ (fnc (l.drop j)).2 = Y ∧ A.size + tot (l.drop j) ≤ 16777216) ∧ Fresh w wr) (fun _ i _ => l.length - (intOf i).toNat)
 case atStart => exact ⟨1, ⟨#[]⟩, rfl, Nat.le_refl _, hl1, rfl, H0.out, Keeps.refl _ _⟩
 case round =>
  obtain ⟨j, A, rfl, hj1, hj, rfl, ⟨hr1, hr2, hr3⟩, hF⟩ := hrel
  by_cases hlt : j < l.length
  ·obtain ⟨s, hs, hd⟩ := line_at hlt
   obtain ⟨cap', off, he, h1, h2, hcell⟩ := (H.out.fresh hF).line hs
   cases he
   rw [hd] at hr1 hr2 hr3
   rw [tot_cons] at hr3
   have hfe := fun W : World => begins_any ⟨s.toArray⟩ ⟨#[96, 96, 96]⟩ W (by rw [mk_size]; omega) (by decide)
   rw [show (⟨#[96, 96, 96]⟩ : ByteArray).data.toList = [96, 96, 96] from rfl, show (⟨s.toArray⟩ : ByteArray).data.toList = s from rfl, isFen_pre] at hfe
   unfold fnc at hr1 hr2
   cases hb : isFen s with
   | true =>
    rw [hb] at hfe hr1 hr2
    have h3 := isFen_long hb
    have hbk := fun W : World => rBlank_any ((⟨s.toArray⟩ : ByteArray).extract 3 s.length) W (by simp; omega)
    rw [mk_rest] at hbk
    have i3 : (3 : Int) ≤ (s.length : Int) := by omega
    cases hk : blank (s.drop 3) with
    | true =>
     rw [hk] at hbk hr1 hr2
     have e1 : A.data.toList = X := by simpa using hr1
     have e2 : l.drop (j + 1) = Y := by simpa using hr2
     have hle := HLF.out A
     rw [e1] at hle
     have HLE := Lib.hid hle
     have HE2 := Lib.hid e2
     have HFE := Lib.hid hfe
     have HBK := Lib.hid hbk
     have HF := Lib.hid hF
     clear hr1 hr2 hle e1 e2 hfe hbk hF hd hs hb hk
     go_wp2_with fail
     refine (HFE.out _).mono ?_
     rintro r w2 ⟨rfl, hk2⟩
     have HK2 := Lib.hid (HF.out.tr hk2)
     clear hk2
     go_wp2_with fail
     refine (HBK.out _).mono ?_
     rintro r w3 ⟨rfl, hk3⟩
     have HK3 := Lib.hid (HK2.out.tr hk3)
     clear hk3
     go_wp2_with fail
     refine (HLE.out _).mono ?_
     rintro r w4 ⟨u, rfl, he4, ho4, hk4⟩
     have HE4 := Lib.hid he4
     have HO4 := Lib.hid (fun b hb => Nat.le_trans HK3.out.size (ho4 b hb) : ∀ b, u.ownBlock = some b → w.heap.size ≤ b)
     have HK4 := Lib.hid (HK3.out.tr hk4)
     clear he4 ho4 hk4
     go_wp2
     go_ret2
     exact ⟨u, j + 1, rfl, by omega, HE2.out, HE4.out, HO4.out, HK4.out⟩
    | false =>
     rw [hk] at hbk hr1 hr2
     have hr : (A ++ ⟨s.toArray⟩ ++ ⟨#[10]⟩).data.toList ++ (fnc (l.drop (j + 1))).1 = X ∧ (fnc (l.drop (j + 1))).2 = Y ∧ (A ++ ⟨s.toArray⟩ ++ ⟨#[10]⟩).size + tot (l.drop (j + 1)) ≤ 16777216 := by
      refine ⟨by rw [← hr1]; simp [ByteArray.data_append], by simpa using hr2, by rw [ByteArray.size_append, ByteArray.size_append, mk_size s]; have : (⟨#[10]⟩ : ByteArray).size = 1 := rfl; omega⟩
     have HR := Lib.hid hr
     have HFE := Lib.hid hfe
     have HBK := Lib.hid hbk
     have HF := Lib.hid hF
     have hms := mk_size s
     have hAs : A.size ≤ 16777216 := by omega
     have h1s : (⟨#[10]⟩ : ByteArray).size = 1 := rfl
     clear hr1 hr2 hr hfe hbk hF hd hs hb hk
     go_wp2_with fail
     refine (HFE.out _).mono ?_
     rintro r w2 ⟨rfl, hk2⟩
     have HK2 := Lib.hid (HF.out.tr hk2)
     clear hk2
     go_wp2_with fail
     refine (HBK.out _).mono ?_
     rintro r w3 ⟨rfl, hk3⟩
     have HK3 := Lib.hid (HK2.out.tr hk3)
     clear hk3
     go_wp2
     go_roundw
     case rel => exact ⟨j + 1, A ++ ⟨s.toArray⟩ ++ ⟨#[10]⟩, by go_num, by omega, by omega, rfl, HR.out, HK3.out⟩
     case measure => simp [intOf]; omega
   | false =>
    rw [hb] at hfe hr1 hr2
    have hr : (A ++ ⟨s.toArray⟩ ++ ⟨#[10]⟩).data.toList ++ (fnc (l.drop (j + 1))).1 = X ∧ (fnc (l.drop (j + 1))).2 = Y ∧ (A ++ ⟨s.toArray⟩ ++ ⟨#[10]⟩).size + tot (l.drop (j + 1)) ≤ 16777216 := by
     refine ⟨by rw [← hr1]; simp [ByteArray.data_append], by simpa using hr2, by rw [ByteArray.size_append, ByteArray.size_append, mk_size s]; have : (⟨#[10]⟩ : ByteArray).size = 1 := rfl; omega⟩
    have HR := Lib.hid hr
    have HFE := Lib.hid hfe
    have HF := Lib.hid hF
    have hms := mk_size s
    have hAs : A.size ≤ 16777216 := by omega
    have h1s : (⟨#[10]⟩ : ByteArray).size = 1 := rfl
    clear hr1 hr2 hr hfe hF hd hs hb
    go_wp2_with fail
    refine (HFE.out _).mono ?_
    rintro r w2 ⟨rfl, hk2⟩
    have HK2 := Lib.hid (HF.out.tr hk2)
    clear hk2
    go_wp2
    go_roundw
    case rel => exact ⟨j + 1, A ++ ⟨s.toArray⟩ ++ ⟨#[10]⟩, by go_num, by omega, by omega, rfl, HR.out, HK2.out⟩
    case measure => simp [intOf]; omega
  ·obtain rfl : j = l.length := by omega
   rw [List.drop_length] at hr1 hr2
   have e1 : A.data.toList = X := by simpa [fnc] using hr1
   have e2 : l.drop l.length = Y := by rw [List.drop_length]; exact hr2
   have hle := HLF.out A
   rw [e1] at hle
   have HLE := Lib.hid hle
   have HE2 := Lib.hid e2
   have HF := Lib.hid hF
   clear hr1 hr2 hr3 hle e1 e2 hF hlt
   go_wp2_with fail
   refine (HLE.out _).mono ?_
   rintro r w4 ⟨u, rfl, he4, ho4, hk4⟩
   have HE4 := Lib.hid he4
   have HO4 := Lib.hid (fun b hb => Nat.le_trans HF.out.size (ho4 b hb) : ∀ b, u.ownBlock = some b → w.heap.size ≤ b)
   have HK4 := Lib.hid (HF.out.tr hk4)
   clear he4 ho4 hk4
   go_wp2
   go_ret2
   exact ⟨u, l.length, rfl, by omega, HE2.out, HE4.out, HO4.out, HK4.out⟩
end Go.Proofs.YtbioecifiogffaaGreatDoor
namespace Go.Proofs.YtbioecifiogffaaGreatDoor
open Go.RowKit
theorem setZero (w : World) : (zeroValue 255).run Tryz.prog w = .ok (.agg (Array.replicate 256 (.bool false))) w := by kernel_rfl
theorem setSize : (Tryz.prog.info? 255).map (·.size) = some 256 := by kernel_rfl
theorem pTrim_any (s : ByteArray) (w : World) (hs : s.size ≤ 9223372036854775807) : Calls Tryz.prog 133 #[.string s, .string ⟨#[32, 9]⟩] w fun e w' => e = .returned (.string ⟨(trm s.data.toList).toArray⟩) ∧ Fresh w w' :=
 (Any.strings_Trim_ascii Tryz.lays160 setZero setSize s ⟨#[32, 9]⟩ w hs (by decide) (by
   intro j b hj
   match j, hj with
   | 0, hj => simp at hj; subst hj; decide
   | 1, hj => simp at hj; subst hj; decide)).mono fun _ _ ⟨h1, h2⟩ => ⟨h1, Fresh.of h2⟩
theorem dropWhile_nil (p : UInt8 → Bool) (l : List UInt8) : l.dropWhile p = [] ↔ l.all p = true := by
 induction l with
 | nil => simp
 | cons c t ih =>
  rw [List.dropWhile_cons]
  split
  ·rename_i h; simp [h, ih]
  ·rename_i h; simp [h]
theorem trm_blank (s : Ln) : trm s = [] ↔ blank s = true := by
 unfold trm Lib.trimS Lib.trimLeftS Lib.trimRightS blank
 rw [dropWhile_nil]
 have e : ∀ l : List UInt8, (l.dropWhile (([32, 9] : List UInt8).contains ·)).all (([32, 9] : List UInt8).contains ·) = l.all bl := by
  intro l
  induction l with
  | nil => rfl
  | cons c t ih =>
   rw [List.dropWhile_cons]
   split
   ·rename_i h; rw [ih, List.all_cons]; unfold bl; rw [h]; rfl
   ·rfl
 rw [List.all_reverse, e, List.all_reverse]
theorem empty_any (s : ByteArray) (w : World) (hs : s.size ≤ 9223372036854775807) : Calls Tryz.prog 119 #[.string s] w fun e w' => e = .returned (.bool (blank s.data.toList)) ∧ Fresh w w' := by
 have ht := pTrim_any s w hs
 obtain ⟨A, hA, hAl, hAs⟩ := mk_of (trm s.data.toList)
 rw [hA] at ht
 have hb : A.toList.isEmpty = blank s.data.toList := by
  rw [str_empty, hAl, Bool.eq_iff_iff, decide_eq_true_iff]
  exact trm_blank _
 generalize blank s.data.toList = B at *
 have HT := Lib.hid ht
 have HB := Lib.hid hb
 clear ht hA hAl hAs hb
 go_enter Tryz.func119, Tryz.ntmps119
 go_wp2_with fail
 refine HT.out.mono ?_
 rintro e w2 ⟨rfl, hk2⟩
 have HK2 := Lib.hid hk2
 clear hk2
 go_wp2
 go_ret
 exact ⟨by rw [← HB.out]; rfl, HK2.out⟩
theorem bl_index (c : UInt8) : decide (0 ≤ Lib.indexByte [32, 9] c) = bl c := by
 have h : ∀ n : Fin 256, decide (0 ≤ Lib.indexByte [32, 9] (UInt8.ofNat n.val)) = bl (UInt8.ofNat n.val) := by decide +kernel
 have := h ⟨c.toNat, c.toNat_lt⟩
 simpa using this
theorem hsh_trim (s : Ln) : Lib.trimLeftB s 35 = s.drop (hsh s) := by
 unfold Lib.trimLeftB
 induction s with
 | nil => rfl
 | cons c t ih =>
  rw [List.dropWhile_cons]
  by_cases h : c = 35
  ·subst h
   simp [hsh, ih]
  ·have : (c == 35) = false := by simpa using h
   rw [this]
   simp [hsh, h]
def hdB : Ln → Bool
 | [] => true
 | c :: _ => bl c
theorem lvl_ok (s : Ln) : decide (0 < lvl s) = (decide (1 ≤ hsh s) && decide (hsh s ≤ 3) && hdB (s.drop (hsh s))) := by
 unfold lvl
 by_cases h : hsh s < 1 ∨ 3 < hsh s
 ·rw [if_pos h]
  rcases h with h | h
  ·have : decide (1 ≤ hsh s) = false := by simp; omega
   simp [this]
  ·have : decide (hsh s ≤ 3) = false := by simp; omega
   simp [this]
 ·rw [if_neg h]
  have h1 : decide (1 ≤ hsh s) = true := by simp; omega
  have h2 : decide (hsh s ≤ 3) = true := by simp; omega
  rw [h1, h2]
  cases hd : s.drop (hsh s) with
  | nil =>
   have h3 : decide (0 < hsh s) = true := by simp; omega
   simp [h3, hdB]
  | cons c t =>
   have h3 : decide (0 < hsh s) = true := by simp; omega
   by_cases hb : bl c = true
   ·simp [h3, hb, hdB]
   ·simp [hb, hdB]
theorem heading_any (s : ByteArray) (w : World) (hs : s.size ≤ 16777216) : Calls Tryz.prog 136 #[.string s] w fun e w' => e = .returned (.tuple #[.int .i64 (hsh s.data.toList : Nat), .string ⟨(trm (s.data.toList.drop (hsh s.data.toList))).toArray⟩, .bool (decide (0 < lvl s.data.toList))]) ∧ Fresh w w' := by
 have htl := fun W : World => Tryz.strings_TrimLeft_one s 35 (by decide) W
 rw [hsh_trim] at htl
 have hle := hsh_le s.data.toList
 rw [show s.data.toList.length = s.size by simp] at hle
 rw [lvl_ok]
 obtain ⟨n, hn⟩ : ∃ n, hsh s.data.toList = n := ⟨_, rfl⟩
 rw [hn] at htl hle ⊢
 obtain ⟨R, hR⟩ : ∃ R, s.data.toList.drop n = R := ⟨_, rfl⟩
 rw [hR] at htl ⊢
 obtain ⟨A, hA, hAl, hAs⟩ := mk_of R
 rw [hA] at htl
 have hRl : R.length = s.size - n := by rw [← hR]; simp
 have htr := fun W : World => pTrim_any A W (by omega)
 rw [hAl] at htr
 have hA1 : (A.size : Int) = (s.size : Int) - (n : Int) := by omega
 have hAle : A.size ≤ s.size := by omega
 have hAE := str_empty A
 rw [hAl] at hAE
 have hsub : (s.size : Int) - (A.size : Int) = (n : Int) := by omega
 have HTL := Lib.hid htl
 have HTR := Lib.hid htr
 have HAL := Lib.hid hAl
 clear hn hR hA hAs hA1 hRl htl htr
 by_cases hlo : 1 ≤ n ∧ n ≤ 3
 ·obtain ⟨h1, h3⟩ := hlo
  have d1 : decide (1 ≤ n) = true := by simpa using h1
  have d3 : decide (n ≤ 3) = true := by simpa using h3
  have i1 : (1 : Int) ≤ (n : Int) := by omega
  have i3 : (n : Int) ≤ 3 := by omega
  rw [d1, d3]
  cases R with
  | nil =>
   have hA0 : A.toList = [] := by rw [ByteArray.toList_eq]; exact hAl
   have hAE2 : A.toList.isEmpty = true := by rw [hA0]; rfl
   clear hAE hA0 hAl d1 d3 h1 h3
   go_enter Tryz.func136, Tryz.ntmps136
   go_wp2_with fail
   refine (HTL.out _).mono ?_
   rintro e w2 ⟨rfl, rfl⟩
   go_wp2_with fail
   refine (HTR.out _).mono ?_
   rintro e w3 ⟨rfl, hk3⟩
   have HK3 := Lib.hid hk3
   clear hk3
   go_wp2
   go_ret3
   exact ⟨rfl, HK3.out⟩
  | cons c t =>
   have hA0 : 0 < A.size := by
    have := congrArg List.length hAl
    simp at this
    omega
   have hAc : A[0]'hA0 = c := by
    have := drop_lt hA0
    rw [List.drop_zero, hAl] at this
    injection this with h _
    exact h.symm
   have hAE2 : A.toList.isEmpty = false := by rw [ByteArray.toList_eq, hAl]; rfl
   have hAE3 : ¬ A.toList = [] := by rw [ByteArray.toList_eq, hAl]; simp
   have hAi : (0 : Int) < (A.size : Int) := by omega
   have hix := fun W : World => Tryz.strings_IndexByte ⟨#[32, 9]⟩ (c.toNat : Int) W
   have hbl := bl_index c
   have hce : (c.toNat : Int).toNat.toUInt8 = c := by simp
   rw [hce, show (⟨#[32, 9]⟩ : ByteArray).data.toList = [32, 9] from rfl] at hix
   generalize Lib.indexByte [32, 9] c = x at *
   have hd : hdB (c :: t) = decide (0 ≤ x) := hbl.symm
   rw [hd]
   have HIX := Lib.hid hix
   clear hAE hAl d1 d3 h1 h3 hix hbl hce hd
   go_enter Tryz.func136, Tryz.ntmps136
   go_wp2_with fail
   refine (HTL.out _).mono ?_
   rintro e w2 ⟨rfl, rfl⟩
   go_wp2_with fail
   refine (HIX.out _).mono ?_
   rintro e w3 ⟨rfl, rfl⟩
   go_wp2_with fail
   refine (HTR.out _).mono ?_
   rintro e w3 ⟨rfl, hk3⟩
   have HK3 := Lib.hid hk3
   clear hk3
   go_wp2
   go_ret3
   exact ⟨rfl, HK3.out⟩
 ·rcases (show n < 1 ∨ 3 < n by omega) with h | h
  ·have d1 : decide (1 ≤ n) = false := by simp; omega
   have i1 : ¬ (1 : Int) ≤ (n : Int) := by omega
   rw [d1]
   clear hAE d1 h hlo
   go_enter Tryz.func136, Tryz.ntmps136
   go_wp2_with fail
   refine (HTL.out _).mono ?_
   rintro e w2 ⟨rfl, rfl⟩
   go_wp2_with fail
   refine (HTR.out _).mono ?_
   rintro e w3 ⟨rfl, hk3⟩
   have HK3 := Lib.hid hk3
   clear hk3
   go_wp2
   go_ret3
   exact ⟨rfl, HK3.out⟩
  ·have d1 : decide (1 ≤ n) = true := by simp; omega
   have d3 : decide (n ≤ 3) = false := by simp; omega
   have i1 : (1 : Int) ≤ (n : Int) := by omega
   have i3 : ¬ (n : Int) ≤ 3 := by omega
   rw [d1, d3]
   clear hAE d1 d3 h hlo
   go_enter Tryz.func136, Tryz.ntmps136
   go_wp2_with fail
   refine (HTL.out _).mono ?_
   rintro e w2 ⟨rfl, rfl⟩
   go_wp2_with fail
   refine (HTR.out _).mono ?_
   rintro e w3 ⟨rfl, hk3⟩
   have HK3 := Lib.hid hk3
   clear hk3
   go_wp2
   go_ret3
   exact ⟨rfl, HK3.out⟩
theorem itm_cases (s : Ln) : (s = [45] ∧ isItm s = true) ∨ (∃ c t, s = 45 :: c :: t ∧ isItm s = bl c) ∨ (Lib.hasPrefix s [45] = false ∧ isItm s = false) := by
 cases s with
 | nil => exact .inr (.inr ⟨rfl, rfl⟩)
 | cons x t =>
  by_cases hx : x = 45
  ·subst hx
   cases t with
   | nil => exact .inl ⟨rfl, rfl⟩
   | cons c t => exact .inr (.inl ⟨c, t, rfl, rfl⟩)
  ·refine .inr (.inr ⟨?_, ?_⟩)
   ·unfold Lib.hasPrefix
    have h2 : ¬ 45 = x := fun e => hx e.symm
    simp [List.isPrefixOf, h2]
   ·unfold isItm
    split
    ·rename_i h; injection h with h _; exact absurd h hx
    ·rename_i h; injection h with h _; exact absurd h hx
    ·rfl
def ItmIs (s : Ln) (w : World) (e : Ending) (w' : World) : Prop := ∃ x : ByteArray, e = .returned (.tuple #[.string x, .bool (isItm s)]) ∧ (isItm s = true → x.data.toList = s.drop 2) ∧ Fresh w w'
theorem item_any (s : ByteArray) (w : World) (hs : s.size ≤ 16777216) : Calls Tryz.prog 139 #[.string s] w (ItmIs s.data.toList w) := by
 have hcp := fun W : World => Tryz.strings_CutPrefix s ⟨#[45]⟩ W
 rw [show (⟨#[45]⟩ : ByteArray).data.toList = [45] from rfl] at hcp
 obtain ⟨A, hA, hAl, hAs⟩ := mk_of (Lib.trimPrefix s.data.toList [45])
 rw [hA] at hcp
 rcases itm_cases s.data.toList with ⟨h1, hi⟩ | ⟨c, t, h1, hi⟩ | ⟨h1, hi⟩
 ·have hp : Lib.hasPrefix s.data.toList [45] = true := by rw [h1]; decide
  have ht : Lib.trimPrefix s.data.toList [45] = [] := by rw [h1]; decide
  rw [ht] at hAl
  rw [hp] at hcp
  have hA0 : A.toList = [] := by rw [ByteArray.toList_eq]; exact hAl
  have hAE2 : A.toList.isEmpty = true := by rw [hA0]; rfl
  have hd : ([] : List UInt8) = s.data.toList.drop 2 := by rw [h1]; rfl
  generalize s.data.toList = L at *
  have HCP := Lib.hid hcp
  have HD := Lib.hid hd
  have HI := Lib.hid hi
  clear hp ht hA hAl hAs h1 hcp hA0 hd hi
  go_enter Tryz.func139, Tryz.ntmps139
  go_wp2_with fail
  refine (HCP.out _).mono ?_
  rintro e w2 ⟨rfl, rfl⟩
  go_wp2
  go_ret2
  exact ⟨_, by rw [HI.out]; rfl, fun _ => HD.out, Keeps.refl _ _⟩
 ·have hp : Lib.hasPrefix s.data.toList [45] = true := by rw [h1]; unfold Lib.hasPrefix; simp
  have ht : Lib.trimPrefix s.data.toList [45] = c :: t := by unfold Lib.trimPrefix; rw [hp, h1]; simp
  rw [ht] at hAl
  rw [hp] at hcp
  have hA0 : 0 < A.size := by
   have := congrArg List.length hAl
   simp at this
   omega
  have hAc : A[0]'hA0 = c := by
   have := drop_lt hA0
   rw [List.drop_zero, hAl] at this
   injection this with h _
   exact h.symm
  have hAle : A.size ≤ s.size := by
   have h2 := congrArg List.length hAl
   have h3 := congrArg List.length h1
   simp at h2 h3
   omega
  have hAE2 : A.toList.isEmpty = false := by rw [ByteArray.toList_eq, hAl]; rfl
  have hAE3 : ¬ A.toList = [] := by rw [ByteArray.toList_eq, hAl]; simp
  have hAi : (0 : Int) < (A.size : Int) := by omega
  have hA1 : (1 : Int) ≤ (A.size : Int) := by omega
  have hix := fun W : World => Tryz.strings_IndexByte ⟨#[32, 9]⟩ (c.toNat : Int) W
  have hbl := bl_index c
  have hce : (c.toNat : Int).toNat.toUInt8 = c := by simp
  rw [hce, show (⟨#[32, 9]⟩ : ByteArray).data.toList = [32, 9] from rfl] at hix
  rw [← hi] at hbl
  generalize Lib.indexByte [32, 9] c = x at *
  have hd : (A.extract 1 A.size).data.toList = s.data.toList.drop 2 := by rw [rest_list, hAl, h1]; rfl
  generalize s.data.toList = L at *
  have HCP := Lib.hid hcp
  have HD := Lib.hid hd
  have HI := Lib.hid hbl
  have HIX := Lib.hid hix
  clear hp ht hA hAl hAs h1 hcp hd hi hbl hce hix
  go_enter Tryz.func139, Tryz.ntmps139
  go_wp2_with fail
  refine (HCP.out _).mono ?_
  rintro e w2 ⟨rfl, rfl⟩
  go_wp2
  go_quiet ((go_at_call 106; exact Calls.quiet_of_same (HIX.out _)))
  go_wp2
  go_ret2
  exact ⟨_, by rw [← HI.out]; rfl, fun _ => HD.out, (Keeps.refl _ _).drewN _⟩
 ·rw [h1] at hcp
  generalize s.data.toList = L at *
  have HCP := Lib.hid hcp
  have HI := Lib.hid hi
  clear hA hAl hAs h1 hcp hi
  go_enter Tryz.func139, Tryz.ntmps139
  go_wp2_with fail
  refine (HCP.out _).mono ?_
  rintro e w2 ⟨rfl, rfl⟩
  go_wp2
  go_ret2
  exact ⟨_, by rw [HI.out]; rfl, (fun h => by rw [HI.out] at h; cases h), Keeps.refl _ _⟩
def whatV (k : Nat) : Value :=
 if k = 2 then .func (.func 135) #[] #[]
 else if k = 3 then .func (.func 137) #[] #[]
 else if k = 4 then .func (.func 138) #[] #[]
 else if k = 5 then .func (.func 140) #[] #[]
 else .nilFunc
def Fnd (w : World) (C : Nat) (fv : Value) (d : Nat) : Prop := w.heap[C]? = some (.cells #[fv, .int .i64 d] 212 (0, 0))
theorem Fnd.fresh {w w' : World} {C d : Nat} {fv : Value} (h : Fnd w C fv d) (hk : Fresh w w') : Fnd w' C fv d := hk.heap_some h (fun h => h)
theorem Fnd.cells {w : World} {C d : Nat} {fv : Value} (h : Fnd w C fv d) : w.cell? ⟨C, 0, none⟩ = some fv ∧ w.cell? ⟨C, 1, none⟩ = some (.int .i64 d) :=
 ⟨by rw [Lib.cell_of_heap h]; rfl, by rw [Lib.cell_of_heap h]; rfl⟩
theorem what_any (C d : Nat) (fv : Value) (s : ByteArray) (w : World) (h : Fnd w C fv d) (hs : s.size ≤ 16777216) (hd : d ≤ 3) :
 Calls Tryz.prog 120 #[.pointer (some ⟨C, 0, none⟩), .string s] w fun e w' => e = .returned (whatV (sta s.data.toList d)) ∧ Fresh w w' := by
 have hpf := fun W : World => Tryz.strings_HasPrefix s ⟨#[96, 96, 96]⟩ W
 rw [show (⟨#[96, 96, 96]⟩ : ByteArray).data.toList = [96, 96, 96] from rfl, isFen_pre] at hpf
 have hpq := fun W : World => Tryz.strings_HasPrefix s ⟨#[62]⟩ W
 rw [show (⟨#[62]⟩ : ByteArray).data.toList = [62] from rfl, isQuo_pre] at hpq
 have hhd := fun W : World => heading_any s W hs
 have hit := fun W : World => item_any s W hs
 obtain ⟨k, hk⟩ : ∃ k, sta s.data.toList d = k := ⟨_, rfl⟩
 rw [hk]
 unfold sta at hk
 unfold ItmIs at hit
 generalize hsh s.data.toList = hn at *
 generalize trm (s.data.toList.drop hn) = tr at *
 generalize lvl s.data.toList = lv at *
 generalize isFen s.data.toList = b2 at *
 generalize isQuo s.data.toList = b4 at *
 generalize isItm s.data.toList = b5 at *
 have HPF := Lib.hid hpf
 have HPQ := Lib.hid hpq
 have HHD := Lib.hid hhd
 have HIT := Lib.hid hit
 have H := Lib.hid h
 clear hpf hpq hhd hit h
 cases b2 with
 | true =>
  have hk2 : k = 2 := by rw [← hk]; rfl
  subst hk2
  clear hk
  go_enter Tryz.func120, Tryz.ntmps120
  go_wp2_with fail
  refine (HPF.out _).mono ?_
  rintro e w2 ⟨rfl, rfl⟩
  go_wp2
  go_ret
  exact ⟨rfl, Keeps.refl _ _⟩
 | false =>
  by_cases hl : 0 < lv
  ·have hk2 : k = 3 := by rw [← hk]; simp [hl]
   subst hk2
   have hdl : decide (0 < lv) = true := by simpa using hl
   rw [hdl] at HHD
   clear hk hl hdl
   go_enter Tryz.func120, Tryz.ntmps120
   go_wp2_with fail
   refine (HPF.out _).mono ?_
   rintro e w2 ⟨rfl, rfl⟩
   go_wp2_with fail
   refine (HHD.out _).mono ?_
   rintro e w3 ⟨rfl, hk3⟩
   have HK3 := Lib.hid hk3
   clear hk3
   go_wp2
   go_ret
   exact ⟨rfl, HK3.out⟩
  ·have hdl : decide (0 < lv) = false := by simpa using hl
   rw [hdl] at HHD
   rw [if_neg (by decide), if_neg hl] at hk
   by_cases hd3 : d = 3
   ·subst hd3
    have hk2 : k = 0 := by rw [← hk]; simp
    subst hk2
    clear hk hl hdl
    go_enter Tryz.func120, Tryz.ntmps120
    go_wp2_with fail
    refine (HPF.out _).mono ?_
    rintro e w2 ⟨rfl, rfl⟩
    go_wp2_with fail
    refine (HHD.out _).mono ?_
    rintro e w3 ⟨rfl, hk3⟩
    have c1 : w3.cell? ⟨C, 1, none⟩ = some (.int .i64 3) := (H.out.fresh hk3).cells.2
    have HK3 := Lib.hid hk3
    clear hk3
    go_wp2
    go_ret
    exact ⟨rfl, HK3.out⟩
   ·have hde : ((d : Int) == 3) = false := by rw [beq_eq_false_iff_ne]; omega
    have hdd : decide (d < 3) = true := by simp; omega
    rw [hdd] at hk
    simp only [Bool.and_true] at hk
    cases b4 with
    | true =>
     have hk2 : k = 4 := by rw [← hk]; rfl
     subst hk2
     clear hk hl hdl hdd hd3
     go_enter Tryz.func120, Tryz.ntmps120
     go_wp2_with fail
     refine (HPF.out _).mono ?_
     rintro e w2 ⟨rfl, rfl⟩
     go_wp2_with fail
     refine (HHD.out _).mono ?_
     rintro e w3 ⟨rfl, hk3⟩
     have c1 : w3.cell? ⟨C, 1, none⟩ = some (.int .i64 d) := (H.out.fresh hk3).cells.2
     have HK3 := Lib.hid hk3
     clear hk3
     go_wp2_with fail
     refine (HPQ.out _).mono ?_
     rintro e w4 ⟨rfl, rfl⟩
     go_wp2
     go_ret
     exact ⟨rfl, HK3.out⟩
    | false =>
     have hk2 : k = if b5 = true then 5 else 0 := by rw [← hk]; rfl
     subst hk2
     clear hk hl hdl hdd hd3
     go_enter Tryz.func120, Tryz.ntmps120
     go_wp2_with fail
     refine (HPF.out _).mono ?_
     rintro e w2 ⟨rfl, rfl⟩
     go_wp2_with fail
     refine (HHD.out _).mono ?_
     rintro e w3 ⟨rfl, hk3⟩
     have c1 : w3.cell? ⟨C, 1, none⟩ = some (.int .i64 d) := (H.out.fresh hk3).cells.2
     have HK3 := Lib.hid hk3
     clear hk3
     go_wp2_with fail
     refine (HPQ.out _).mono ?_
     rintro e w4 ⟨rfl, rfl⟩
     go_wp2_with fail
     refine (HIT.out _).mono ?_
     rintro e w5 ⟨x, rfl, -, hk5⟩
     have HK5 := Lib.hid (HK3.out.tr hk5)
     clear hk5
     cases b5
     ·go_wp2
      go_ret
      exact ⟨rfl, HK5.out⟩
     ·go_wp2
      go_ret
      exact ⟨rfl, HK5.out⟩
end Go.Proofs.YtbioecifiogffaaGreatDoor
namespace Go.Proofs.YtbioecifiogffaaGreatDoor
open Go.RowKit
theorem splA_count (n : Nat) : ∀ s : List UInt8, Lib.count s [10] = n → (splA [] s).length = n + 1 := by
 induction n with
 | zero =>
  intro s h
  cases hf : fnd 10 s with
  | none => rw [splA_none _ hf]; rfl
  | some k =>
   have := Lib.count_hit (s := s) (sub := [10]) (i := k) (by simp) (by rw [index_fnd, hf]; simp [plc])
   omega
 | succ n ih =>
  intro s h
  cases hf : fnd 10 s with
  | none =>
   have hi : Lib.index s [10] = -1 := by rw [index_fnd, hf]; rfl
   have : Lib.count s [10] = 0 := Lib.count_miss hi
   omega
  | some k =>
   have hi : Lib.index s [10] = (k : Nat) := by rw [index_fnd, hf]; simp [plc]
   have hc := Lib.count_hit (s := s) (sub := [10]) (i := k) (by simp) hi
   rw [splA_some _ hf, List.length_cons, ih _ (by simp at hc ⊢; omega)]
theorem LnAt.lit (w : World) (l : List Ln) (t : TypeId) (hl : l.length ≤ maxLen) : LnAt (w.alloc (.cells (lnCells l).toArray t)) w.heap.size (.slice (some ⟨w.heap.size, 0, none⟩) l.length l.length) l := by
 refine ⟨_, _, 0, rfl, Nat.le_refl _, hl, fun _ => ⟨rfl, fun j s hj => ?_⟩⟩
 have hh := heap_alloc_new w (.cells (lnCells l).toArray t)
 rw [Lib.cell_of_heap hh, Nat.zero_add]
 have := lnCells_get l j s hj
 simpa using this
theorem LnAt.uptov {w : World} {g n cap : Nat} {a : Option Addr} {l : List Ln} (h : LnAt w g (.slice a n cap) l) (k : Nat) (hk : k ≤ l.length) : LnAt w g (.slice a k cap) (l.take k) := by
 obtain ⟨a', cap', off, he, h2, h3, h4⟩ := h
 cases he
 refine ⟨a, cap, off, by rw [List.length_take, Nat.min_eq_left hk], by rw [List.length_take]; omega, h3, fun hne => ?_⟩
 have hne' : l ≠ [] := fun e => by rw [e] at hne; simp at hne
 obtain ⟨ha, hc⟩ := h4 hne'
 exact ⟨ha, fun j s hj => hc j s (by rw [List.getElem?_take] at hj; split at hj; exact hj; cases hj)⟩
theorem pLines_any (s : ByteArray) (w : World) (hs : s.size ≤ 16777216) (hG : Gl w) :
 Calls Tryz.prog 112 #[.string s] w fun e w' => ∃ v, e = .returned v ∧ LnAt w' w.heap.size v (lns s.data.toList) ∧ Fresh w w' := by
 obtain ⟨⟨m, hm⟩, -⟩ := hG
 have hsp := Tryz.strings_Split s ⟨#[10]⟩ m w (by omega) hm (by decide)
 obtain ⟨L, hL⟩ : ∃ L, splA [] s.data.toList = L := ⟨_, rfl⟩
 have hne : L ≠ [] := by rw [← hL]; exact splA_ne _ _
 have hcnt : L.length = Lib.countB s ⟨#[10]⟩ + 1 := by rw [← hL]; exact splA_count _ _ rfl
 have hof : offE L = lns s.data.toList := by rw [← hL]; exact lns_spl [] _
 have hcells : (Lib.splitB ⟨#[10]⟩ 0 (Lib.countB s ⟨#[10]⟩) s).map Value.string = lnCells L := by
  have h1 := Lib.splitB_data ⟨#[10]⟩ 0 (Lib.countB s ⟨#[10]⟩) s
  have h2 : Lib.splitK [10] 0 (Lib.countB s ⟨#[10]⟩) s.data.toList = L := by rw [← hL]; exact splitK_spl _ _ rfl
  rw [show (⟨#[10]⟩ : ByteArray).data.toList = [10] from rfl, h2] at h1
  rw [← h1]
  unfold lnCells
  rw [List.map_map]
  rfl
 have hct := Lib.countB_le ⟨#[10]⟩ (by decide) s.size s (Nat.le_refl _)
 rw [hcells, ← hcnt] at hsp
 rw [← hof]
 have hat := LnAt.lit w L 9 (by unfold maxLen; omega)
 obtain ⟨W, hW⟩ : ∃ W, w.alloc (.cells (lnCells L).toArray 9) = W := ⟨_, rfl⟩
 have hF : Fresh w W := by rw [← hW]; exact (Keeps.refl _ _).alloc _
 rw [hW] at hat hsp
 obtain ⟨M, x, hx⟩ : ∃ M x, L = M ++ [x] := by
  rcases List.eq_nil_or_concat L with h | ⟨m, x, h⟩
  ·exact absurd h hne
  ·exact ⟨m, x, by rw [h, List.concat_eq_append]⟩
 have hML : L.length = M.length + 1 := by rw [hx]; simp
 have hlast : L[M.length]? = some x := by rw [hx]; simp
 obtain ⟨cap, off, hv, -, -, hcell⟩ := hat.line hlast
 cases hv
 rw [Nat.zero_add] at hcell
 obtain ⟨X, hX, hXl, hXs⟩ := mk_of x
 rw [hX] at hcell
 have hXE := str_empty X
 rw [hXl] at hXE
 have hML2 : M.length ≤ 16777216 := by omega
 have hof2 : offE L = if x = [] then M else L := by
  unfold offE
  have h1 : L.getLast? = some x := by rw [hx]; simp
  have h2 : L.dropLast = M := by rw [hx]; simp
  rw [h1, h2]
  by_cases h : x = []
  ·rw [if_pos h, if_pos (by rw [h])]
  ·rw [if_neg h, if_neg (fun e => h (Option.some.inj e))]
 rw [hof2]
 have htk : L.take M.length = M := by rw [hx]; simp
 have HSP := Lib.hid hsp
 have HAT := Lib.hid hat
 have HF := Lib.hid hF
 have HTK := Lib.hid htk
 have HML := Lib.hid hML
 rw [hML] at HSP HAT
 clear hsp hat hF hL hne hcnt hof hcells hW hX hlast hof2 hct htk hML hXs hx
 by_cases h0 : x = []
 ·rw [if_pos h0]
  have hXE2 : X.toList.isEmpty = true := by rw [hXE]; simpa using h0
  clear hXE h0 hXl
  go_enter Tryz.func112, Tryz.ntmps112
  go_wp2_with fail
  refine HSP.out.mono ?_
  rintro e w2 ⟨rfl, rfl⟩
  go_wp2
  go_ret
  refine ⟨_, rfl, ?_, HF.out⟩
  have := HAT.out.uptov M.length (by have := HML.out; omega)
  rw [HTK.out] at this
  exact this
 ·rw [if_neg h0]
  have hXE2 : X.toList.isEmpty = false := by rw [hXE]; simpa using h0
  have hXE3 : ¬ X.toList = [] := by rw [ByteArray.toList_eq, hXl]; exact h0
  clear hXE h0 hXl
  go_enter Tryz.func112, Tryz.ntmps112
  go_wp2_with fail
  refine HSP.out.mono ?_
  rintro e w2 ⟨rfl, rfl⟩
  go_wp2
  go_ret
  exact ⟨_, rfl, HAT.out, HF.out⟩
theorem skip_any (g : Nat) (v : Value) (l : List Ln) (w : World) (h : LnAt w g v l) (hL : tot l ≤ 16777216) :
 Calls Tryz.prog 177 #[v] w fun e w' => e = .returned (.int .i64 ((nbl l : Nat) : Int)) ∧ Fresh w w' := by
 obtain ⟨N, hN⟩ : ∃ N, nbl l = N := ⟨_, rfl⟩
 rw [hN]
 obtain ⟨a, cap, rfl⟩ := h.form
 have hlen := tot_len l
 have h0 : 0 + nbl (l.drop 0) = N := by rw [Nat.zero_add, List.drop_zero]; exact hN
 have HN := Lib.hid h0
 have H := Lib.hid h
 clear hN h h0
 go_enter Tryz.func177, Tryz.ntmps177
 go_wp2
 go_loopw [3] (fun i wr => ∃ j : Nat, i = .int .i64 j ∧ j ≤ l.length ∧ j + nbl (l.drop j) = N ∧ Fresh w wr) (fun i _ => l.length - (intOf i).toNat)
 case atStart => exact ⟨0, rfl, Nat.zero_le _, HN.out, Keeps.refl _ _⟩
 case round =>
  obtain ⟨j, rfl, hj, hr, hF⟩ := hrel
  by_cases hlt : j < l.length
  ·obtain ⟨s, hs⟩ : ∃ s, l[j]? = some s := ⟨l[j], List.getElem?_eq_getElem hlt⟩
   have hd : l.drop j = s :: l.drop (j + 1) := by
    rw [List.drop_eq_getElem_cons hlt]
    rw [List.getElem?_eq_getElem hlt] at hs
    injection hs with hs
    rw [hs]
   obtain ⟨cap', off, he, h1, h2, hcell⟩ := (H.out.fresh hF).line hs
   cases he
   have hsz : s.length ≤ tot l := by
    have := tot_drop l j
    rw [hd, tot_cons] at this
    omega
   have hbl := fun W : World => empty_any ⟨s.toArray⟩ W (by simp [ByteArray.size]; omega)
   rw [show (⟨s.toArray⟩ : ByteArray).data.toList = s from rfl] at hbl
   rw [hd] at hr
   unfold nbl at hr
   cases hb : blank s with
   | true =>
    rw [hb] at hbl hr
    have hr2 : j + 1 + nbl (l.drop (j + 1)) = N := by rw [if_pos rfl] at hr; omega
    have HR := Lib.hid hr2
    have HB := Lib.hid hbl
    have HF := Lib.hid hF
    clear hr hr2 hbl hF hd hs hb
    go_wp2_with fail
    refine (HB.out _).mono ?_
    rintro r w2 ⟨rfl, hk2⟩
    have HF2 := Lib.hid (HF.out.tr hk2)
    clear hk2
    go_wp2
    go_roundw
    case rel => exact ⟨j + 1, by go_num, by omega, HR.out, HF2.out⟩
    case measure => simp [intOf]; omega
   | false =>
    rw [hb] at hbl hr
    have hr2 : N = j := by simpa using hr.symm
    subst hr2
    have HB := Lib.hid hbl
    have HF := Lib.hid hF
    clear hr hbl hF hd hs hb
    go_wp2_with fail
    refine (HB.out _).mono ?_
    rintro r w2 ⟨rfl, hk2⟩
    have HF2 := Lib.hid (HF.out.tr hk2)
    clear hk2
    go_wp2
    go_ret
    exact ⟨rfl, HF2.out⟩
  ·obtain rfl : j = l.length := by omega
   rw [List.drop_length] at hr
   have hr2 : N = l.length := by simpa [nbl] using hr.symm
   have HR := Lib.hid hr2
   clear hr hr2 hlt
   go_wp2
   go_ret
   exact ⟨by rw [HR.out]; rfl, hF⟩
end Go.Proofs.YtbioecifiogffaaGreatDoor
namespace Go.Proofs.YtbioecifiogffaaGreatDoor
open Go.RowKit
def evV (e : Ev) : Value := .agg #[.int .i64 e.kind, .bool e.fin, .int .i64 e.level, .string ⟨e.text.toArray⟩]
structure EmitOK (k : Nat) (caps : Array Value) (R : List EvL) (F : World → List EvL → (Nat → Prop) → Prop) : Prop where
 enter : ∀ (args : Array Value) (w : World), (callFunc k args).run Tryz.prog w = .ok (.enter k args) w
 lt : ∀ {w : World} {L : List EvL} {o : Nat → Prop}, F w L o → ∀ b, o b → b < w.heap.size
 keep : ∀ {D : Nat → Prop} {w w' : World} {L : List EvL} {o : Nat → Prop}, F w L o → Keeps D w w' → (∀ b, D b → ¬ o b) → F w' L o
 call : ∀ (x : EvL) (w : World) (L : List EvL) (o : Nat → Prop), F w L o → (∃ rest, L ++ x :: rest = R) →
  Calls Tryz.prog k (#[evV x.1, .bool x.2] ++ caps) w fun e w' => e = .returned (.tuple #[]) ∧ ∃ o', F w' (L ++ [x]) o' ∧ Mv o o' w w'
theorem EmitOK.fresh {k : Nat} {caps : Array Value} {R : List EvL} {F : World → List EvL → (Nat → Prop) → Prop} (E : EmitOK k caps R F) {w w' : World} {L : List EvL} {o : Nat → Prop} (h : F w L o) (hk : Fresh w w') : F w' L o := E.keep h hk (fun _ h => h.elim)
def fnV (k : Nat) (caps : Array Value) : Value := .func (.func k) #[] caps
section
variable {k : Nat} {caps : Array Value} {R : List EvL} {F : World → List EvL → (Nat → Prop) → Prop}
theorem text_any (E : EmitOK k caps R F) (C d : Nat) (s : ByteArray) (lf : Bool) (w : World) (L : List EvL) (o : Nat → Prop) (h : Fnd w C (fnV k caps) d) (hF : F w L o) (hR : ∃ rest, L ++ txE s.data.toList lf ++ rest = R) :
 Calls Tryz.prog 143 #[.pointer (some ⟨C, 0, none⟩), .string s, .bool lf] w fun e w' => e = .returned (.tuple #[]) ∧ ∃ o', F w' (L ++ txE s.data.toList lf) o' ∧ Mv o o' w w' := by
 by_cases h0 : s.data.toList = []
 ·have hq : s.toList = [] := by rw [ByteArray.toList_eq, h0]
  have he : txE s.data.toList lf = [] := by rw [h0]; rfl
  rw [he, List.append_nil]
  have HF := Lib.hid hF
  clear h0 he hF h hR
  go_enter Tryz.func143, Tryz.ntmps143
  go_wp2
  go_end0
  exact ⟨rfl, o, HF.out, Mv.refl _ _⟩
 ·have hq : s.toList.isEmpty = false := by rw [ByteArray.toList_eq]; simpa using h0
  have hq2 : ¬ s.toList = [] := by rw [ByteArray.toList_eq]; exact h0
  have he : txE s.data.toList lf = [(⟨8, false, 0, s.data.toList⟩, lf)] := by unfold txE; rw [if_neg h0]
  rw [he] at hR ⊢
  obtain ⟨rest, hR⟩ := hR
  have hc := fun (W : World) (hW : F W L o) => E.call (⟨8, false, 0, s.data.toList⟩, lf) W L o hW ⟨rest, by rw [← hR]; simp⟩
  unfold evV at hc
  simp only [show (⟨s.data.toList.toArray⟩ : ByteArray) = s from rfl] at hc
  obtain ⟨c0, -⟩ := h.cells
  unfold fnV at c0
  have eg := E.enter
  have HC := Lib.hid hc
  have HF := Lib.hid hF
  clear h0 he hF h hR hc
  go_enter Tryz.func143, Tryz.ntmps143
  go_wp2_with fail
  refine (HC.out _ HF.out).mono ?_
  rintro e w2 ⟨rfl, o', hF', hm⟩
  have HF2 := Lib.hid hF'
  have HM2 := Lib.hid hm
  clear hF' hm
  go_wp2
  go_end0
  exact ⟨rfl, o', HF2.out, HM2.out⟩
def MvX (X o o' : Nat → Prop) (w w' : World) : Prop := Keeps (fun j => o j ∨ X j) w w' ∧ ∀ j, o' j → o j ∨ w.heap.size ≤ j
theorem MvX.of {X o o' : Nat → Prop} {w w' : World} (h : Mv o o' w w') : MvX X o o' w w' := ⟨h.1.mono (fun _ _ h => .inl h), h.2⟩
theorem MvX.trans {X o o' o'' : Nat → Prop} {a b c : World} (h : MvX X o o' a b) (h' : MvX X o' o'' b c) : MvX X o o'' a c :=
 ⟨h.1.trans h'.1 (fun j hj ho => by
   rcases ho with ho | ho
   ·exact .inl ((h.2 j ho).resolve_right (by omega))
   ·exact .inr ho), fun j hj => by
   rcases h'.2 j hj with h1 | h1
   ·exact h.2 j h1
   ·exact .inr (Nat.le_trans h.1.size h1)⟩
theorem Mv.heap {o o' : Nat → Prop} {w w' : World} (h : Mv o o' w w') {b : Nat} {x : Obj} (hb : w.heap[b]? = some x) (ho : ¬ o b) : w'.heap[b]? = some x := h.1.heap_some hb ho
theorem MvX.heap {X o o' : Nat → Prop} {w w' : World} (h : MvX X o o' w w') {b : Nat} {x : Obj} (hb : w.heap[b]? = some x) (ho : ¬ o b) (hX : ¬ X b) : w'.heap[b]? = some x := h.1.heap_some hb (fun h => h.elim ho hX)
theorem MvX.not {X o o' : Nat → Prop} {w w' : World} (h : MvX X o o' w w') {b : Nat} (hb : b < w.heap.size) (ho : ¬ o b) : ¬ o' b := fun h' => by
 rcases h.2 b h' with h1 | h1
 ·exact ho h1
 ·omega
theorem Mv.not {o o' : Nat → Prop} {w w' : World} (h : Mv o o' w w') {b : Nat} (hb : b < w.heap.size) (ho : ¬ o b) : ¬ o' b := fun h' => by
 rcases h.2 b h' with h1 | h1
 ·exact ho h1
 ·omega
theorem wp_calm {P : Program} {s : Code} {K : Act → World → Prop} {Q' : Exit → Act → World → Prop} {a : Act} {w : World} (h : s.wp P (Exit.then K (fun _ _ _ => False)) a w) : s.wp P (Exit.then K Q') a w := by
 refine wp_mono h ?_
 intro e a' w' hq
 cases e with
 | normal => exact hq
 | exit id => exact hq.elim
 | goto l => exact hq.elim
 | ret => exact hq.elim
 | panic ch => exact hq.elim
 | outgrown => exact hq.elim
theorem wp_last {P : Program} {s : Code} {Q : Exit → Act → World → Prop} {a : Act} {w : World} (R : Act → World → Prop) (h : s.wp P (Exit.then R (fun _ _ _ => False)) a w) (hR : ∀ a' w', R a' w' → Q .normal a' w') : s.wp P Q a w := by
 refine wp_mono h ?_
 intro e a' w' hq
 cases e with
 | normal => exact hR _ _ hq
 | exit id => exact hq.elim
 | goto l => exact hq.elim
 | ret => exact hq.elim
 | panic ch => exact hq.elim
 | outgrown => exact hq.elim
def DoOK (F : World → List EvL → (Nat → Prop) → Prop) (X : Nat → Prop) (Q : World → (Nat → Prop) → Prop) (L M : List EvL) (w : World) (o : Nat → Prop) (e : Ending) (w' : World) : Prop :=
 e = .returned (.tuple #[]) ∧ ∃ o', F w' (L ++ M) o' ∧ MvX X o o' w w' ∧ Q w' o'
def WithinOK (F : World → List EvL → (Nat → Prop) → Prop) (X : Nat → Prop) (Q : World → (Nat → Prop) → Prop) (L M : List EvL) (w : World) (o : Nat → Prop) (e : Ending) (w' : World) : Prop :=
 e = .returned (.tuple #[]) ∧ ∃ w2 o2 o', Q w2 o2 ∧ MvX (fun j => j = w.heap.size + 1) o2 o' w2 w' ∧ F w' (L ++ M) o' ∧ MvX X o o' w w'
theorem within_end (E : EmitOK k caps R F) (C d B3 B4 : Nat) (ev : Ev) (u : FrameMode) (w : World) (L : List EvL) (o : Nat → Prop) (h : Fnd w C (fnV k caps) d) (hF : F w L o)
 (h3 : w.heap[B3]? = some (.cells #[.pointer (some ⟨C, 0, none⟩)] 210 (0, 0))) (h4 : w.heap[B4]? = some (.cells #[.int .i64 ev.kind, .bool ev.fin, .int .i64 ev.level, .string ⟨ev.text.toArray⟩] 97 (0, 0)))
 (n4 : ¬ o B4) (hR : ∃ rest, L ++ ({ ev with fin := true }, false) :: rest = R) :
 CallsD Tryz.prog 178 #[.pointer (some ⟨B4, 0, none⟩), .pointer (some ⟨B3, 0, none⟩)] u w fun e u' w' => u' = u ∧ e = .returned (.tuple #[]) ∧ ∃ o', F w' (L ++ [({ ev with fin := true }, false)]) o' ∧ MvX (fun j => j = B4) o o' w w' := by
 have eg := E.enter
 have hn34 : B3 ≠ B4 := by rintro rfl; have := h3.symm.trans h4; cases this
 have hnC4 : C ≠ B4 := by rintro rfl; have := h.symm.trans h4; cases this
 obtain ⟨W, hW⟩ : ∃ W, w.setCell ⟨B4, 1, none⟩ (.bool true) = W := ⟨_, rfl⟩
 have hK : Keeps (fun j => j = B4) w W := by rw [← hW]; exact Keeps.setCell (D := fun j => j = B4) (Keeps.refl _ w) (p := ⟨B4, 1, none⟩) (fun _ => rfl) _
 have h4' : W.heap[B4]? = some (.cells #[.int .i64 ev.kind, .bool true, .int .i64 ev.level, .string ⟨ev.text.toArray⟩] 97 (0, 0)) := by
  rw [← hW]; simp [World.setCell, Array.getElem?_modify, h4]
 have h3' := hK.heap_some h3 hn34
 have hfd := hK.heap_some h hnC4
 have b0 : w.cell? ⟨B4, 1, none⟩ = some (.bool ev.fin) := by rw [Lib.cell_of_heap h4]; rfl
 have b1 : w.frozen? ⟨B4, 1, none⟩ = false := Lib.frozen_of_heap h4 1
 have c3 : W.cell? ⟨B3, 0, none⟩ = some (.pointer (some ⟨C, 0, none⟩)) := by rw [Lib.cell_of_heap h3']; rfl
 have c40 : W.cell? ⟨B4, 0, none⟩ = some (.int .i64 ev.kind) := by rw [Lib.cell_of_heap h4']; rfl
 have c41 : W.cell? ⟨B4, 1, none⟩ = some (.bool true) := by rw [Lib.cell_of_heap h4']; rfl
 have c42 : W.cell? ⟨B4, 2, none⟩ = some (.int .i64 ev.level) := by rw [Lib.cell_of_heap h4']; rfl
 have c43 : W.cell? ⟨B4, 3, none⟩ = some (.string ⟨ev.text.toArray⟩) := by rw [Lib.cell_of_heap h4']; rfl
 have f0 : W.cell? ⟨C, 0, none⟩ = some (.func (.func k) #[] caps) := by rw [Lib.cell_of_heap hfd]; rfl
 have hFW := E.keep hF hK (fun b hb => by rw [hb]; exact n4)
 have hc := fun (W' : World) (hW' : Fresh W W') => E.call ({ ev with fin := true }, false) W' L o (E.fresh hFW hW') hR
 unfold evV at hc
 have HC := Lib.hid hc
 have HK := Lib.hid hK
 clear hc hFW hF hR E h h3 h4 h3' h4' hfd hK
 go_enter_d Tryz.func178, Tryz.ntmps178
 go_upto_region 1 with fail
 refine wp_last (fun a wx => a.defers = [] ∧ ∃ o1, F wx (L ++ [({ ev with fin := true }, false)]) o1 ∧ Mv o o1 W wx) ?_ ?_
 ·go_region_with (go_at_fn k; refine (HC.out _ (by repeat (first | exact Keeps.refl _ _ | refine Keeps.drew ?_ | refine Keeps.drewN ?_ _))).mono ?_; rintro e w' ⟨rfl, o1, hF1, hm1⟩)
  all_goals (go_wp2_with fail; exact ⟨trivial, o1, hF1, (Mv.fresh (by repeat (first | exact Keeps.refl _ _ | refine Keeps.drew ?_ | refine Keeps.drewN ?_ _))).trans hm1⟩)
 ·rintro a' w' ⟨hd, o1, hF1, hm1⟩
  refine ⟨hd, .tuple #[], results_none rfl _ _ _, rfl, o1, hF1, ?_, fun j hj => ?_⟩
  ·exact (HK.out.mono (fun _ _ h => .inr h)).trans (hm1.1.mono (fun _ _ h => .inl h)) (fun _ _ h => h)
  ·rcases hm1.2 j hj with h1 | h1
   ·exact .inl h1
   ·exact .inr (Nat.le_trans HK.out.size h1)
theorem within_any (E : EmitOK k caps R F) (X : Nat → Prop) (Q : World → (Nat → Prop) → Prop) (C d : Nat) (ev : Ev) (kd : Nat) (capsd : Array Value) (M : List EvL) (w : World) (L : List EvL) (o : Nat → Prop)
 (h : Fnd w C (fnV k caps) d) (hF : F w L o) (hC : ¬ o C) (hX : ∀ j, X j → j < w.heap.size ∧ j ≠ C) (hR : ∃ rest, L ++ (ev, false) :: (M ++ ({ ev with fin := true }, false) :: rest) = R)
 (ed : ∀ (args : Array Value) (w : World), (callFunc kd args).run Tryz.prog w = .ok (.enter kd args) w)
 (hdo : ∀ (w1 : World) (o1 : Nat → Prop), F w1 (L ++ [(ev, false)]) o1 → Mv o o1 w w1 → Calls Tryz.prog kd capsd w1 (DoOK F X Q (L ++ [(ev, false)]) M w1 o1)) :
 Calls Tryz.prog 141 #[.pointer (some ⟨C, 0, none⟩), evV ev, fnV kd capsd] w (WithinOK F X Q L ((ev, false) :: (M ++ [({ ev with fin := true }, false)])) w o) := by
 obtain ⟨rest, hR⟩ := hR
 have hmf : ∀ (fn : Fn) (first cap : Array Value) (w : World), (Instr.makeFunc fn first cap).run Tryz.prog w = .ok (.func fn first cap) w := fun _ _ _ _ => rfl
 have eg := E.enter
 unfold evV fnV
 obtain ⟨W, hW⟩ : ∃ W, (w.alloc (.cells #[.pointer (some ⟨C, 0, none⟩)] 210)).alloc (.cells #[.int .i64 ev.kind, .bool ev.fin, .int .i64 ev.level, .string ⟨ev.text.toArray⟩] 97) = W := ⟨_, rfl⟩
 have hFW : Fresh w W := by rw [← hW]; exact ((Keeps.refl _ _).alloc _).alloc _
 have hz : w.heap.size + 1 < W.heap.size := by rw [← hW]; simp
 have hlt := E.lt hF
 have t3 : W.heap[w.heap.size]? = some (.cells #[.pointer (some ⟨C, 0, none⟩)] 210 (0, 0)) := by
  rw [← hW, Below.heap_alloc _ _ _ (by simp)]
  exact heap_alloc_new w _
 have t4 : W.heap[w.heap.size + 1]? = some (.cells #[.int .i64 ev.kind, .bool ev.fin, .int .i64 ev.level, .string ⟨ev.text.toArray⟩] 97 (0, 0)) := by
  rw [← hW]
  have := heap_alloc_new (w.alloc (.cells #[.pointer (some ⟨C, 0, none⟩)] 210)) (.cells #[.int .i64 ev.kind, .bool ev.fin, .int .i64 ev.level, .string ⟨ev.text.toArray⟩] 97)
  simpa using this
 have hfW := h.fresh hFW
 have c3 : W.cell? ⟨w.heap.size, 0, none⟩ = some (.pointer (some ⟨C, 0, none⟩)) := by rw [Lib.cell_of_heap t3]; rfl
 have c40 : W.cell? ⟨w.heap.size + 1, 0, none⟩ = some (.int .i64 ev.kind) := by rw [Lib.cell_of_heap t4]; rfl
 have c41 : W.cell? ⟨w.heap.size + 1, 1, none⟩ = some (.bool ev.fin) := by rw [Lib.cell_of_heap t4]; rfl
 have c42 : W.cell? ⟨w.heap.size + 1, 2, none⟩ = some (.int .i64 ev.level) := by rw [Lib.cell_of_heap t4]; rfl
 have c43 : W.cell? ⟨w.heap.size + 1, 3, none⟩ = some (.string ⟨ev.text.toArray⟩) := by rw [Lib.cell_of_heap t4]; rfl
 have f0 : W.cell? ⟨C, 0, none⟩ = some (.func (.func k) #[] caps) := hfW.cells.1
 have hc := fun (W' : World) (hW' : Fresh W W') => E.call (ev, false) W' L o (E.fresh hF (hFW.tr hW')) ⟨_, hR⟩
 unfold evV at hc
 have HC := Lib.hid hc
 have HF := Lib.hid hF
 have HFW := Lib.hid hFW
 have HDO := Lib.hid hdo
 have HR := Lib.hid hR
 have HE := Lib.hid E
 have HX := Lib.hid hX
 have HLT := Lib.hid hlt
 have HT3 := Lib.hid t3
 have HT4 := Lib.hid t4
 have HFD := Lib.hid hfW
 have HFD0 := Lib.hid h
 clear hc hF hFW hdo hR E hX hlt t3 t4 hfW h
 go_enter_defers Tryz.func141, Tryz.ntmps141
 go_upto_region 1 with fail
 clear hW
 go_cut [0, 1, 2, 3, 4] from 5 to 14 (fun s0 s1 s2 s3 s4 wx => s2 = .func (.func kd) #[] capsd ∧ s3 = .pointer (some ⟨w.heap.size, 0, none⟩) ∧ s4 = .pointer (some ⟨w.heap.size + 1, 0, none⟩) ∧ ∃ o1, F wx (L ++ [(ev, false)]) o1 ∧ Mv o o1 W wx)
 case first =>
  refine wp_calm ?_
  go_region_with (go_at_fn k; refine (HC.out _ (by repeat (first | exact Keeps.refl _ _ | refine Keeps.drew ?_ | refine Keeps.drewN ?_ _))).mono ?_; rintro e w' ⟨rfl, o1, hF1, hm1⟩)
  all_goals (go_wp2_with fail; go_meet; exact ⟨rfl, rfl, rfl, o1, hF1, (Mv.fresh (by repeat (first | exact Keeps.refl _ _ | refine Keeps.drew ?_ | refine Keeps.drewN ?_ _))).trans hm1⟩)
 case rest =>
  obtain ⟨rfl, rfl, rfl, o1, hF1, hm1⟩ := hcut
  have hm0 : Mv o o1 w wc := (Mv.fresh HFW.out).trans hm1
  have n3 : ¬ o w.heap.size := fun h => by have := HLT.out _ h; omega
  have n4 : ¬ o (w.heap.size + 1) := fun h => by have := HLT.out _ h; omega
  have t3 := hm1.heap HT3.out n3
  have t4 := hm1.heap HT4.out n4
  have tf := hm1.heap HFD.out hC
  have hdo := HDO.out wc o1 hF1 hm0
  have HDO1 := Lib.hid hdo
  have HM0 := Lib.hid hm0
  have HM1 := Lib.hid hm1
  have HF1 := Lib.hid hF1
  have HT3 := Lib.hid t3
  have HT4 := Lib.hid t4
  have HTF := Lib.hid tf
  clear hdo hm0 hm1 hF1 t3 t4 tf
  go_wp2_with fail
  refine HDO1.out.mono ?_
  rintro e w2 ⟨rfl, o2, hF2, hm2, hQ⟩
  go_wp2
  refine leaves_cons (f := 178) (args := #[.pointer (some ⟨w.heap.size + 1, 0, none⟩), .pointer (some ⟨w.heap.size, 0, none⟩)]) (by simp) (by simp [go_sem]) ?_
  have n3c := HM1.out.not (by omega) n3
  have n4c := HM1.out.not (by omega) n4
  have nCc := HM0.out.not (World.block_lt_of_cell? w ⟨C, 0, none⟩ (by rw [Lib.cell_of_heap HFD0.out]; rfl)) hC
  have x3 : ¬ X w.heap.size := fun h => by have := (HX.out _ h).1; omega
  have x4 : ¬ X (w.heap.size + 1) := fun h => by have := (HX.out _ h).1; omega
  have xC : ¬ X C := fun h => (HX.out _ h).2 rfl
  have hs := HM1.out.1.size
  have htot : MvX X o o2 w w2 := (MvX.of HM0.out).trans hm2
  refine (within_end HE.out C d w.heap.size (w.heap.size + 1) ev .returning w2 (L ++ [(ev, false)] ++ M) o2 (hm2.heap HTF.out nCc xC) hF2 (hm2.heap HT3.out n3c x3) (hm2.heap HT4.out n4c x4) (hm2.not (by omega) n4c) ⟨rest, by rw [← HR.out]; simp⟩).mono ?_
  rintro e u' w3 ⟨rfl, rfl, o3, hF3, hm3⟩
  refine ⟨_, results_none rfl _ _ _, rfl, w2, o2, o3, hQ, hm3, ?_, ?_⟩
  ·have e1 : L ++ [(ev, false)] ++ M ++ [({ ev with fin := true }, false)] = L ++ (ev, false) :: (M ++ [({ ev with fin := true }, false)]) := by simp
   rw [e1] at hF3
   exact hF3
  ·refine ⟨htot.1.trans hm3.1 (fun j hj hd => ?_), fun j hj => ?_⟩
   ·rcases hd with hd | hd
    ·exact .inl ((htot.2 j hd).resolve_right (by omega))
    ·omega
   ·rcases hm3.2 j hj with h1 | h1
    ·exact htot.2 j h1
    ·exact .inr (Nat.le_trans htot.1.size h1)
end
end Go.Proofs.YtbioecifiogffaaGreatDoor
namespace Go.Proofs.YtbioecifiogffaaGreatDoor
open Go.RowKit
def jn (A : List UInt8) (l : List Ln) : List UInt8 := A ++ l.flatMap (fun s => 10 :: s)
theorem jn_nil (A : List UInt8) : jn A [] = A := by simp [jn]
theorem jn_cons (A : List UInt8) (s : Ln) (l : List Ln) : jn A (s :: l) = jn (A ++ 10 :: s) l := by simp [jn]
theorem joinN_jn (s : Ln) (l : List Ln) : joinN (s :: l) = jn s l := by
 induction l generalizing s with
 | nil => simp [joinN, jn]
 | cons x r ih =>
  have h : joinN (s :: x :: r) = s ++ [10] ++ joinN (x :: r) := rfl
  rw [h, ih]
  simp [jn]
theorem trm_len (s : Ln) : (trm s).length ≤ s.length := by
 unfold trm Lib.trimS Lib.trimLeftS Lib.trimRightS
 refine Nat.le_trans (List.dropWhile_sublist _).length_le ?_
 rw [List.length_reverse]
 exact Nat.le_trans (List.dropWhile_sublist _).length_le (by simp)
theorem rparagraph_any (g : Nat) (v : Value) (s0 : Ln) (t : List Ln) (d : Nat) (w : World) (h : LnAt w g v (s0 :: t)) (hL : tot (s0 :: t) ≤ 16777216) (hd3 : d ≤ 1000) :
 Calls Tryz.prog 66 #[v, .int .i64 d] w fun e w' => ∃ u N, e = .returned (.tuple #[u, .int .i64 ((N : Nat) : Int)]) ∧ N ≤ t.length + 1 ∧ (s0 :: t).drop N = (prg d t).2 ∧ Evs w' 104 u (EL (leafE 0 0 (joinN (trm s0 :: (prg d t).1)) true)) ∧ (∀ b, u.ownBlock = some b → w.heap.size ≤ b) ∧ Fresh w w' := by
 rw [joinN_jn]
 obtain ⟨X, hX⟩ : ∃ X, X = jn (trm s0) (prg d t).1 := ⟨_, rfl⟩
 obtain ⟨Y, hY⟩ : ∃ Y, Y = (prg d t).2 := ⟨_, rfl⟩
 rw [← hX, ← hY]
 have htl := trm_len s0
 obtain ⟨l, hl⟩ : ∃ l, l = s0 :: t := ⟨_, rfl⟩
 rw [← hl] at h hL ⊢
 have hlen := tot_len l
 have hl1 : 1 ≤ l.length := by rw [hl]; simp
 have hl2 : t.length + 1 = l.length := by rw [hl]; simp
 rw [hl2]
 have hl0 : l[0]? = some s0 := by rw [hl]; rfl
 have h0 : jn (trm s0) (prg d (l.drop 1)).1 = X ∧ (prg d (l.drop 1)).2 = Y ∧ (trm s0).length + tot (l.drop 1) ≤ 16777216 := by
  refine ⟨by rw [hl, hX]; rfl, by rw [hl, hY]; rfl, ?_⟩
  rw [hl] at hL ⊢
  rw [tot_cons] at hL
  simp only [List.drop_succ_cons, List.drop_zero]
  omega
 have htr := fun W : World => trim_any ⟨s0.toArray⟩ W (by rw [mk_size]; have := tot_cons s0 t; rw [← hl] at this; omega)
 rw [show (⟨s0.toArray⟩ : ByteArray).data.toList = s0 from rfl] at htr
 obtain ⟨cap, off, he, h1, h2, hcell⟩ := h.line hl0
 rw [Nat.add_zero] at hcell
 subst he
 have hleaf := fun (A : ByteArray) (W : World) => leaf_any 0 0 A true W
 have HLF := Lib.hid hleaf
 have H := Lib.hid h
 have H0 := Lib.hid h0
 have HTR := Lib.hid htr
 clear h h0 hX hY hl hl2 hleaf htr hl0
 go_enter Tryz.func66, Tryz.ntmps66
 go_wp2_with fail
 refine (HTR.out _).mono ?_
 rintro r w2 ⟨rfl, hk2⟩
 have HF0 := Lib.hid hk2
 clear hk2 hcell
 go_wp2
 go_loopw [6, 7] (fun x i wr => ∃ (j : Nat) (A : ByteArray), i = .int .i64 j ∧ 1 ≤ j ∧ j ≤ l.length ∧ x = .string A ∧ (jn A.data.toList (prg d (l.drop j)).1 = X ∧ (prg d (l.drop j)).2 = Y ∧ A.size + tot (l.drop j) ≤ 16777216) ∧ Fresh w wr) (fun _ i _ => l.length - (intOf i).toNat)
 case atStart => exact ⟨1, ⟨(trm s0).toArray⟩, rfl, Nat.le_refl _, hl1, rfl, ⟨H0.out.1, H0.out.2.1, by rw [mk_size]; exact H0.out.2.2⟩, HF0.out⟩
 case round =>
  obtain ⟨j, A, rfl, hj1, hj, rfl, ⟨hr1, hr2, hr3⟩, hF⟩ := hrel
  by_cases hlt : j < l.length
  ·obtain ⟨s, hs, hd⟩ := line_at hlt
   obtain ⟨cap', off', he, h1', h2', hcell⟩ := (H.out.fresh hF).line hs
   cases he
   rw [hd] at hr1 hr2 hr3
   rw [tot_cons] at hr3
   have hbk := fun W : World => rBlank_any ⟨s.toArray⟩ W (by rw [mk_size]; omega)
   have hst := fun W : World => starts_any ⟨s.toArray⟩ d W (by rw [mk_size]; omega) hd3
   have htr := fun W : World => trim_any ⟨s.toArray⟩ W (by rw [mk_size]; omega)
   rw [show (⟨s.toArray⟩ : ByteArray).data.toList = s from rfl] at hbk hst htr
   have htl2 := trm_len s
   unfold prg at hr1 hr2
   cases hb : (blank s || decide (0 < sta s d)) with
   | true =>
    rw [hb] at hr1 hr2
    have e1 : A.data.toList = X := by simpa [jn_nil] using hr1
    have e2 : l.drop j = Y := by rw [hd]; simpa using hr2
    have hle := HLF.out A
    rw [e1] at hle
    have hcase : blank s = true ∨ (blank s = false ∧ (0 : Int) < (sta s d : Int)) := by
     cases hb1 : blank s with
     | true => exact .inl rfl
     | false =>
      rw [hb1] at hb
      exact .inr ⟨rfl, by have := of_decide_eq_true (by simpa using hb : decide (0 < sta s d) = true); omega⟩
    have HLE := Lib.hid hle
    have HE2 := Lib.hid e2
    have HBK := Lib.hid hbk
    have HST := Lib.hid hst
    have HF := Lib.hid hF
    generalize sta s d = S at *
    clear hr1 hr2 hle e1 e2 hbk hst htr hF hd hs hb htl2
    rcases hcase with hb1 | ⟨hb1, hS⟩
    all_goals
     have hbk := HBK.out
     rw [hb1] at hbk
     have HBK2 := Lib.hid hbk
     clear hbk hb1 HBK
     go_wp2_with fail
     refine (HBK2.out _).mono ?_
     rintro r w3 ⟨rfl, hk3⟩
     have hF3 := HF.out.tr hk3
     have hcell3 := hk3.cell_some hcell (fun h => h)
     have HF3 := Lib.hid hF3
     clear hk3 hF3
     go_wp2_with fail
     refine (HST.out _).mono ?_
     rintro r w4 ⟨rfl, hk4⟩
     have HF4 := Lib.hid (HF3.out.tr hk4)
     clear hk4
     go_wp2_with fail
     refine (HLE.out _).mono ?_
     rintro r w5 ⟨u, rfl, he5, ho5, hk5⟩
     have HE5 := Lib.hid he5
     have HO5 := Lib.hid (fun b hb => Nat.le_trans HF4.out.size (ho5 b hb) : ∀ b, u.ownBlock = some b → w.heap.size ≤ b)
     have HK5 := Lib.hid (HF4.out.tr hk5)
     clear he5 ho5 hk5
     go_wp2
     go_ret2
     exact ⟨u, j, rfl, by omega, HE2.out, HE5.out, HO5.out, HK5.out⟩
   | false =>
    rw [hb] at hr1 hr2
    obtain ⟨hb1, hb2⟩ : blank s = false ∧ sta s d = 0 := by simpa using hb
    have hms := mk_size (trm s)
    have h1s : (⟨#[10]⟩ : ByteArray).size = 1 := rfl
    have hr : jn (A ++ ⟨#[10]⟩ ++ ⟨(trm s).toArray⟩).data.toList (prg d (l.drop (j + 1))).1 = X ∧ (prg d (l.drop (j + 1))).2 = Y ∧ (A ++ ⟨#[10]⟩ ++ ⟨(trm s).toArray⟩).size + tot (l.drop (j + 1)) ≤ 16777216 := by
     refine ⟨?_, by simpa using hr2, by rw [ByteArray.size_append, ByteArray.size_append, mk_size (trm s)]; omega⟩
     simp only [Bool.false_eq_true, if_false, jn_cons] at hr1
     rw [← hr1]
     simp [ByteArray.data_append]
    rw [hb1] at hbk
    rw [hb2] at hst
    have HR := Lib.hid hr
    have HBK := Lib.hid hbk
    have HST := Lib.hid hst
    have HTR := Lib.hid htr
    have HF := Lib.hid hF
    have hAs : A.size ≤ 16777216 := by omega
    have htm : (trm s).length ≤ 16777216 := by omega
    clear hr1 hr2 hr hbk hst htr hF hd hs hb hb1 hb2 htl2
    go_wp2_with fail
    refine (HBK.out _).mono ?_
    rintro r w3 ⟨rfl, hk3⟩
    have hcell3 := hk3.cell_some hcell (fun h => h)
    have HF3 := Lib.hid (HF.out.tr hk3)
    clear hk3
    go_wp2_with fail
    refine (HST.out _).mono ?_
    rintro r w4 ⟨rfl, hk4⟩
    have hcell4 := hk4.cell_some hcell3 (fun h => h)
    have HF4 := Lib.hid (HF3.out.tr hk4)
    clear hk4
    go_wp2_with fail
    refine (HTR.out _).mono ?_
    rintro r w5 ⟨rfl, hk5⟩
    have HF5 := Lib.hid (HF4.out.tr hk5)
    clear hk5
    go_wp2
    go_roundw
    case rel => exact ⟨j + 1, A ++ ⟨#[10]⟩ ++ ⟨(trm s).toArray⟩, by go_num, by omega, by omega, rfl, HR.out, HF5.out⟩
    case measure => simp [intOf]; omega
  ·obtain rfl : j = l.length := by omega
   rw [List.drop_length] at hr1 hr2
   have e1 : A.data.toList = X := by simpa [prg, jn_nil] using hr1
   have e2 : l.drop l.length = Y := by rw [List.drop_length]; exact hr2
   have hle := HLF.out A
   rw [e1] at hle
   have HLE := Lib.hid hle
   have HE2 := Lib.hid e2
   have HF := Lib.hid hF
   clear hr1 hr2 hr3 hle e1 e2 hF hlt
   go_wp2_with fail
   refine (HLE.out _).mono ?_
   rintro r w4 ⟨u, rfl, he4, ho4, hk4⟩
   have HE4 := Lib.hid he4
   have HO4 := Lib.hid (fun b hb => Nat.le_trans HF.out.size (ho4 b hb) : ∀ b, u.ownBlock = some b → w.heap.size ≤ b)
   have HK4 := Lib.hid (HF.out.tr hk4)
   clear he4 ho4 hk4
   go_wp2
   go_ret2
   exact ⟨u, l.length, rfl, by omega, HE2.out, HE4.out, HO4.out, HK4.out⟩
end Go.Proofs.YtbioecifiogffaaGreatDoor
namespace Go.Proofs.YtbioecifiogffaaGreatDoor
open Go.RowKit
def RBlkOK (n : Nat) : Prop := ∀ (g : Nat) (v : Value) (l : List Ln) (d : Nat) (w : World), LnAt w g v l → tot l < n → tot l ≤ 16777216 → d ≤ 3 →
 Calls Tryz.prog 36 #[v, .int .i64 d] w fun e w' => ∃ u, e = .returned u ∧ Evs w' 104 u (EL (blkF n d l)) ∧ (∀ b, u.ownBlock = some b → w.heap.size ≤ b) ∧ Fresh w w'
theorem unq_cases {s : Ln} (h : isQuo s = true) : ∃ t, s = 62 :: t ∧ ((∃ r, t = 32 :: r ∧ unq s = r) ∨ ((∀ r, t ≠ 32 :: r) ∧ unq s = t)) := by
 unfold isQuo at h
 split at h
 ·rename_i t
  refine ⟨t, rfl, ?_⟩
  unfold unq
  simp only [List.drop_succ_cons, List.drop_zero]
  cases t with
  | nil => exact .inr ⟨fun r h => (by cases h), rfl⟩
  | cons c r =>
   by_cases hc : c = 32
   ·subst hc; exact .inl ⟨r, rfl, rfl⟩
   ·refine .inr ⟨fun r' h => ?_, ?_⟩
    ·injection h with h1 _; exact hc h1
    ·split
     ·rename_i h'; injection h' with h1 _; exact absurd h1 hc
     ·rfl
 ·cases h
theorem isQuo_first {s : Ln} (h : isQuo s = false) : s = [] ∨ ∃ c t, s = c :: t ∧ c ≠ 62 := by
 cases s with
 | nil => exact .inl rfl
 | cons c t =>
  refine .inr ⟨c, t, rfl, fun e => ?_⟩
  subst e
  simp [isQuo] at h
theorem evs_three {w : World} {t : TypeId} {p : Option Addr} {c n : Nat} {L : List Ev} {e : Ev} (h : w.ownsRow 0 t 4 (.slice p (n + 1) c) (n + 1) (evCells L ++ e.cells)) (hn : L.length = n) : Evs w t (.slice p (n + 1) c) (L ++ [e]) := by
 subst hn
 exact Evs.snoc h
theorem quoted_any (m : Nat) (IH : RBlkOK m) (g : Nat) (v : Value) (l : List Ln) (d : Nat) (w : World) (h : LnAt w g v l) (hL : tot l ≤ 16777216) (hd3 : d < 3) (hm : tot (qtd l).1 < m) :
 Calls Tryz.prog 64 #[v, .int .i64 d] w fun e w' => ∃ u N, e = .returned (.tuple #[u, .int .i64 ((N : Nat) : Int)]) ∧ N ≤ l.length ∧ l.drop N = (qtd l).2 ∧ Evs w' 104 u (EL (bgE 2 :: (blkF m (d + 1) (qtd l).1 ++ [fnE 2]))) ∧ (∀ b, u.ownBlock = some b → w.heap.size ≤ b) ∧ Fresh w w' := by
 have hlen := tot_len l
 have hq0 := qtd_tot l
 obtain ⟨X, hX⟩ : ∃ X, X = (qtd l).1 := ⟨_, rfl⟩
 obtain ⟨Y, hY⟩ : ∃ Y, Y = (qtd l).2 := ⟨_, rfl⟩
 have hX4 := blkF_len m (d + 1) X
 rw [← hX] at hm
 rw [← hX, ← hY] at hq0
 rw [← hX, ← hY]
 obtain ⟨BB, hBB⟩ : ∃ BB, BB = EL (blkF m (d + 1) X) := ⟨_, rfl⟩
 have hBl : BB.length ≤ 4 * tot X := by rw [hBB]; simpa [EL] using hX4
 have hres : EL (bgE 2 :: (blkF m (d + 1) X ++ [fnE 2])) = [⟨2, false, 0, []⟩] ++ BB ++ [⟨2, true, 0, []⟩] := by rw [hBB]; simp [EL, bgE, fnE]
 rw [hres]
 have hbk := fun (g' : Nat) (v' : Value) (W : World) (h' : LnAt W g' v' X) => IH g' v' X (d + 1) W h' hm (by omega) (by omega)
 rw [← hBB] at hbk
 have h0 : ([] : List Ln) ++ (qtd (l.drop 0)).1 = X ∧ (qtd (l.drop 0)).2 = Y := by rw [List.drop_zero]; exact ⟨hX.symm, hY.symm⟩
 obtain ⟨a, cap, rfl⟩ := h.form
 have HI := Lib.hid Tryz.infoStr
 have HE := Lib.hid Tryz.infoRE2
 have H := Lib.hid h
 have H0 := Lib.hid h0
 have HBK := Lib.hid hbk
 clear h h0 hX hY hbk hres hBB hX4 IH hm
 go_enter Tryz.func64, Tryz.ntmps64
 go_wp2
 go_loopw [6, 7] (fun x i wr => ∃ (j : Nat) (done : List Ln), i = .int .i64 j ∧ j ≤ l.length ∧ Lns wr x done ∧ done.length ≤ j ∧ (done ++ (qtd (l.drop j)).1 = X ∧ (qtd (l.drop j)).2 = Y) ∧ (∀ b, x.ownBlock = some b → w.heap.size ≤ b) ∧ Fresh w wr) (fun _ i _ => l.length - (intOf i).toNat)
 case atStart => exact ⟨0, [], rfl, Nat.zero_le _, Lns.nil _, Nat.le_refl _, H0.out, (fun b h => by cases h), Keeps.refl _ _⟩
 case round =>
  obtain ⟨j, done, rfl, hj, hl, hdl, ⟨hr1, hr2⟩, ho, hF⟩ := hrel
  obtain ⟨q, c, rfl, hqc, hq, hg⟩ := own_form hl
  by_cases hgo : ∃ s, l[j]? = some s ∧ isQuo s = true
  ·obtain ⟨s, hs, hqs⟩ := hgo
   have hlt : j < l.length := (List.getElem?_eq_some_iff.1 hs).1
   have hd : l.drop j = s :: l.drop (j + 1) := by
    obtain ⟨s', hs', hd⟩ := line_at hlt
    rw [hs] at hs'
    cases hs'
    exact hd
   obtain ⟨cap', off, he, h1, h2, hcell⟩ := (H.out.fresh hF).line hs
   cases he
   have hst : s.length ≤ 16777216 := by have := tot_drop l j; rw [hd, tot_cons] at this; omega
   rw [hd] at hr1 hr2
   unfold qtd at hr1 hr2
   rw [hqs] at hr1 hr2
   simp only [if_true] at hr1 hr2
   obtain ⟨t, hst2, hcase⟩ := unq_cases hqs
   obtain ⟨S, hS, hSl, hSs⟩ := mk_of s
   rw [hS] at hcell
   have hS0 : 0 < S.size := by rw [hSs, hst2]; simp
   have hSc : S[0]'hS0 = 62 := by
    have := drop_lt hS0
    rw [List.drop_zero, hSl, hst2] at this
    injection this with h1 _
    exact h1.symm
   have hSi : (0 : Int) < (S.size : Int) := by omega
   have hS1 : (1 : Int) ≤ (S.size : Int) := by omega
   obtain ⟨T, hT⟩ : ∃ T, S.extract 1 S.size = T := ⟨_, rfl⟩
   have hTl : T.data.toList = t := by rw [← hT, rest_list, hSl, hst2]; rfl
   have hTs : T.size = t.length := by rw [← hTl]; simp
   have hSm : S.size ≤ 16777216 := by omega
   have hl2 : wr.ownsRow 0 9 1 (.slice q done.length c) done.length (lnCells done) := hl
   have HO := Lib.hid ho
   have HF := Lib.hid hF
   rcases hcase with ⟨r, hr, hu⟩ | ⟨hr, hu⟩
   ·obtain ⟨U, hU⟩ : ∃ U, T.extract 1 T.size = U := ⟨_, rfl⟩
    have hUl : U.data.toList = unq s := by rw [← hU, rest_list, hTl, hr, hu]; rfl
    have hT0 : 0 < T.size := by rw [hTs, hr]; simp
    have hTc : T[0]'hT0 = 32 := by
     have := drop_lt hT0
     rw [List.drop_zero, hTl, hr] at this
     injection this with h1 _
     exact h1.symm
    have hTi : (0 : Int) < (T.size : Int) := by omega
    have hT1 : (1 : Int) ≤ (T.size : Int) := by omega
    have hR : (done ++ [U.data.toList]) ++ (qtd (l.drop (j + 1))).1 = X ∧ (qtd (l.drop (j + 1))).2 = Y := ⟨by rw [← hr1, hUl]; simp, hr2⟩
    have HR := Lib.hid hR
    have HL := Lib.hid (ln_add _ U 9 hl2)
    clear hr1 hr2 hR hl hl2 ho hF hd hs hqs hst2 hS hSl hSs hTl hTs hr hu hUl hq hg
    go_wp2_with (at_builtin; refine wpList_append_mine _ rfl _ _ 86 rfl 9 _ 1 16 Tryz.underlying86 HI.out rfl (by decide) _ _ _ rfl HL.out _ 1 1 [.string U] rfl rfl (fun h => (by cases h)) (ln_at _ U 9 _ (by simp)) (str_one _) (by unfold maxLen; omega) (by omega) ?_)
    intro p5 c5 w5 hr5 hg5 hk5
    obtain ⟨ho5, hF5⟩ := own_grow (HF.out.alloc _) HO.out hg5 hk5
    have HL5 := Lib.hid (Lns.snoc (s := U.data.toList) hr5)
    have HO5 := Lib.hid ho5
    have HF5 := Lib.hid hF5
    clear hr5 hg5 hk5 ho5 hF5
    go_wp2
    go_roundw
    case rel => exact ⟨j + 1, done ++ [U.data.toList], by go_num, by omega, HL5.out, by simp; omega, HR.out, HO5.out, HF5.out⟩
    case measure => simp [intOf]; omega
   ·have hUl : T.data.toList = unq s := by rw [hTl, hu]
    obtain ⟨U, hU⟩ : ∃ U, U = T := ⟨_, rfl⟩
    have hTcase : T.size = 0 ∨ ∃ (h0 : 0 < T.size) (x : UInt8), T[0]'h0 = x ∧ ((x.toNat : Int) == 32) = false := by
     cases t with
     | nil => exact .inl (by rw [hTs]; rfl)
     | cons x r =>
      have hT0 : 0 < T.size := by rw [hTs]; simp
      refine .inr ⟨hT0, x, ?_, (u8_beq x 32).trans (decide_eq_false (fun e => hr r (by rw [e])))⟩
      have := drop_lt hT0
      rw [List.drop_zero, hTl] at this
      injection this with h1 _
      exact h1.symm
    have hR : (done ++ [T.data.toList]) ++ (qtd (l.drop (j + 1))).1 = X ∧ (qtd (l.drop (j + 1))).2 = Y := ⟨by rw [← hr1, hUl]; simp, hr2⟩
    have HR := Lib.hid hR
    have HL := Lib.hid (ln_add _ T 9 hl2)
    clear hr1 hr2 hR hl hl2 ho hF hd hs hqs hst2 hS hSl hSs hTl hTs hr hu hUl hq hg hU
    rcases hTcase with hT0 | ⟨hT0, x, hx, hx32⟩
    ·go_wp2_with (at_builtin; refine wpList_append_mine _ rfl _ _ 86 rfl 9 _ 1 16 Tryz.underlying86 HI.out rfl (by decide) _ _ _ rfl HL.out _ 1 1 [.string T] rfl rfl (fun h => (by cases h)) (ln_at _ T 9 _ (by simp)) (str_one _) (by unfold maxLen; omega) (by omega) ?_)
     intro p5 c5 w5 hr5 hg5 hk5
     obtain ⟨ho5, hF5⟩ := own_grow (HF.out.alloc _) HO.out hg5 hk5
     have HL5 := Lib.hid (Lns.snoc (s := T.data.toList) hr5)
     have HO5 := Lib.hid ho5
     have HF5 := Lib.hid hF5
     clear hr5 hg5 hk5 ho5 hF5
     go_wp2
     go_roundw
     case rel => exact ⟨j + 1, done ++ [T.data.toList], by go_num, by omega, HL5.out, by simp; omega, HR.out, HO5.out, HF5.out⟩
     case measure => simp [intOf]; omega
    ·have hTi : (0 : Int) < (T.size : Int) := by omega
     go_wp2_with (at_builtin; refine wpList_append_mine _ rfl _ _ 86 rfl 9 _ 1 16 Tryz.underlying86 HI.out rfl (by decide) _ _ _ rfl HL.out _ 1 1 [.string T] rfl rfl (fun h => (by cases h)) (ln_at _ T 9 _ (by simp)) (str_one _) (by unfold maxLen; omega) (by omega) ?_)
     intro p5 c5 w5 hr5 hg5 hk5
     obtain ⟨ho5, hF5⟩ := own_grow (HF.out.alloc _) HO.out hg5 hk5
     have HL5 := Lib.hid (Lns.snoc (s := T.data.toList) hr5)
     have HO5 := Lib.hid ho5
     have HF5 := Lib.hid hF5
     clear hr5 hg5 hk5 ho5 hF5
     go_wp2
     go_roundw
     case rel => exact ⟨j + 1, done ++ [T.data.toList], by go_num, by omega, HL5.out, by simp; omega, HR.out, HO5.out, HF5.out⟩
     case measure => simp [intOf]; omega
  ·have hstop : done = X ∧ l.drop j = Y ∧ (j = l.length ∨ ∃ s, l[j]? = some s ∧ (s = [] ∨ ∃ c t, s = c :: t ∧ c ≠ 62)) := by
    by_cases hlt : j < l.length
    ·obtain ⟨s, hs, hd⟩ := line_at hlt
     have hqf : isQuo s = false := by
      cases hb : isQuo s with
      | false => rfl
      | true => exact absurd ⟨s, hs, hb⟩ hgo
     rw [hd] at hr1 hr2
     unfold qtd at hr1 hr2
     rw [hqf] at hr1 hr2
     simp only [Bool.false_eq_true, if_false, List.append_nil] at hr1 hr2
     exact ⟨hr1, by rw [hd]; exact hr2, .inr ⟨s, hs, isQuo_first hqf⟩⟩
    ·have : j = l.length := by omega
     subst this
     rw [List.drop_length] at hr1 hr2
     exact ⟨by simpa [qtd] using hr1, by rw [List.drop_length]; exact hr2, .inl rfl⟩
   obtain ⟨hdX, hdY, hcase⟩ := hstop
   subst hdX
   have hat := hl.at
   generalize hgv : (Value.slice q done.length c).ownBlock.getD 0 = gv at hat
   have hbk := fun (W : World) (hW : Fresh wr W) => HBK.out gv (.slice q done.length c) W (hat.fresh hW)
   have hlit : (wr.alloc (.cells #[.int .i64 2, .bool false, .int .i64 0, .string ⟨#[]⟩] 104)).ownsRow 0 104 4 (.slice (some ⟨wr.heap.size, 0, none⟩) 1 1) 1 (evCells [⟨2, false, 0, []⟩]) := Evs.lit wr 104 [⟨2, false, 0, []⟩] (by simp [maxLen])
   have hfr : Fresh wr (wr.alloc (.cells #[.int .i64 2, .bool false, .int .i64 0, .string ⟨#[]⟩] 104)) := (Keeps.refl _ _).alloc _
   have HBX := Lib.hid (hbk _ hfr)
   have HLIT := Lib.hid hlit
   have HDY := Lib.hid hdY
   clear hr1 hr2 hl hat hbk hdY hgo hgv hq hg ho hlit hfr
   rcases hcase with rfl | ⟨s, hs, hsc⟩
   ·have HF := Lib.hid hF
    clear hF
    go_wp2_with fail
    refine HBX.out.mono ?_
    rintro r w2 ⟨u, rfl, he2, ho2, hk2⟩
    obtain ⟨p2, c2, rfl, hc2, hq2, hg2⟩ := own_form he2
    have hcells := own_cells he2 rfl
    have hlen4 : (evCells BB).length = BB.length * 4 := evCells_length BB
    have hrow2 := own_kept HLIT.out hk2 (fun _ _ h => h)
    have hfr0 : Fresh w w2 := (HF.out.alloc _).tr hk2
    have ho1 : ∀ b, (Value.slice (some ⟨wr.heap.size, 0, none⟩) 1 1).ownBlock = some b → w.heap.size ≤ b := fun b h => by simp [Value.ownBlock] at h; have := HF.out.size; omega
    have HROW := Lib.hid hrow2
    have HCL := Lib.hid hcells
    have HL4 := Lib.hid hlen4
    have HF2 := Lib.hid hfr0
    have HO1 := Lib.hid ho1
    clear he2 ho2 hk2 hcells hlen4 hrow2 hfr0 ho1 hc2 hg2
    generalize hbn : BB.length = bn at *
    have HBN := Lib.hid hbn
    clear hbn
    go_wp2_with (at_builtin; refine wpList_append_mine _ rfl _ _ 57 rfl 104 _ 4 40 Tryz.underlying57 HE.out rfl (by decide) _ _ _ rfl HROW.out _ bn c2 (evCells BB) rfl HL4.out hq2 HCL.out (evCells_one' _) (by unfold maxLen; omega) (by omega) ?_)
    intro p5 c5 w5 hr5 hg5 hk5
    obtain ⟨ho5, hF5⟩ := own_grow HF2.out HO1.out hg5 hk5
    have hr6 : w5.ownsRow 0 104 4 (.slice p5 (1 + bn) c5) (1 + bn) (evCells ([⟨2, false, 0, []⟩] ++ BB)) := by rw [evCells_append]; exact hr5
    have HR6 := Lib.hid (ev_add _ ⟨2, true, 0, []⟩ 104 hr6)
    have HO5 := Lib.hid ho5
    have HF5 := Lib.hid hF5
    clear hr5 hg5 hk5 hr6 ho5 hF5
    go_wp2_with (at_builtin; refine wpList_append_mine _ rfl _ _ 57 rfl 104 _ 4 40 Tryz.underlying57 HE.out rfl (by decide) _ _ _ rfl HR6.out _ 1 1 (⟨2, true, 0, []⟩ : Ev).cells rfl rfl (fun h => (by cases h)) (ev_at _ ⟨2, true, 0, []⟩ 104 _ (by simp)) (ev_one _) (by unfold maxLen; omega) (by omega) ?_)
    intro p7 c7 w7 hr7 hg7 hk7
    obtain ⟨ho7, hF7⟩ := own_grow (HF5.out.alloc _) HO5.out hg7 hk7
    have HE7 := Lib.hid (evs_three (L := [⟨2, false, 0, []⟩] ++ BB) hr7 (by rw [List.length_append, HBN.out]; rfl))
    have HO7 := Lib.hid ho7
    have HF7 := Lib.hid hF7
    clear hr7 hg7 hk7 ho7 hF7
    go_wp2
    go_ret2
    exact ⟨_, _, rfl, hj, HDY.out, HE7.out, HO7.out, HF7.out⟩
   ·have hlt : j < l.length := (List.getElem?_eq_some_iff.1 hs).1
    obtain ⟨cap', off, he, h1, h2, hcell⟩ := (H.out.fresh hF).line hs
    cases he
    have HF := Lib.hid hF
    obtain ⟨S, hS, hSl, hSs⟩ := mk_of s
    rw [hS] at hcell
    clear hF hs
    rcases hsc with rfl | ⟨x, t, rfl, hx⟩
    ·have hS0 : S.size = 0 := hSs
     clear hSl hSs hS
     go_wp2_with fail
     refine HBX.out.mono ?_
     rintro r w2 ⟨u, rfl, he2, ho2, hk2⟩
     obtain ⟨p2, c2, rfl, hc2, hq2, hg2⟩ := own_form he2
     have hcells := own_cells he2 rfl
     have hlen4 : (evCells BB).length = BB.length * 4 := evCells_length BB
     have hrow2 := own_kept HLIT.out hk2 (fun _ _ h => h)
     have hfr0 : Fresh w w2 := (HF.out.alloc _).tr hk2
     have ho1 : ∀ b, (Value.slice (some ⟨wr.heap.size, 0, none⟩) 1 1).ownBlock = some b → w.heap.size ≤ b := fun b h => by simp [Value.ownBlock] at h; have := HF.out.size; omega
     have HROW := Lib.hid hrow2
     have HCL := Lib.hid hcells
     have HL4 := Lib.hid hlen4
     have HF2 := Lib.hid hfr0
     have HO1 := Lib.hid ho1
     clear he2 ho2 hk2 hcells hlen4 hrow2 hfr0 ho1 hc2 hg2
     generalize hbn : BB.length = bn at *
     have HBN := Lib.hid hbn
     clear hbn
     go_wp2_with (at_builtin; refine wpList_append_mine _ rfl _ _ 57 rfl 104 _ 4 40 Tryz.underlying57 HE.out rfl (by decide) _ _ _ rfl HROW.out _ bn c2 (evCells BB) rfl HL4.out hq2 HCL.out (evCells_one' _) (by unfold maxLen; omega) (by omega) ?_)
     intro p5 c5 w5 hr5 hg5 hk5
     obtain ⟨ho5, hF5⟩ := own_grow HF2.out HO1.out hg5 hk5
     have hr6 : w5.ownsRow 0 104 4 (.slice p5 (1 + bn) c5) (1 + bn) (evCells ([⟨2, false, 0, []⟩] ++ BB)) := by rw [evCells_append]; exact hr5
     have HR6 := Lib.hid (ev_add _ ⟨2, true, 0, []⟩ 104 hr6)
     have HO5 := Lib.hid ho5
     have HF5 := Lib.hid hF5
     clear hr5 hg5 hk5 hr6 ho5 hF5
     go_wp2_with (at_builtin; refine wpList_append_mine _ rfl _ _ 57 rfl 104 _ 4 40 Tryz.underlying57 HE.out rfl (by decide) _ _ _ rfl HR6.out _ 1 1 (⟨2, true, 0, []⟩ : Ev).cells rfl rfl (fun h => (by cases h)) (ev_at _ ⟨2, true, 0, []⟩ 104 _ (by simp)) (ev_one _) (by unfold maxLen; omega) (by omega) ?_)
     intro p7 c7 w7 hr7 hg7 hk7
     obtain ⟨ho7, hF7⟩ := own_grow (HF5.out.alloc _) HO5.out hg7 hk7
     have HE7 := Lib.hid (evs_three (L := [⟨2, false, 0, []⟩] ++ BB) hr7 (by rw [List.length_append, HBN.out]; rfl))
     have HO7 := Lib.hid ho7
     have HF7 := Lib.hid hF7
     clear hr7 hg7 hk7 ho7 hF7
     go_wp2
     go_ret2
     exact ⟨_, _, rfl, hj, HDY.out, HE7.out, HO7.out, HF7.out⟩
    ·have hS0 : 0 < S.size := by rw [hSs]; simp
     have hx0 : S[0]'hS0 = x := by
      have := drop_lt hS0
      rw [List.drop_zero, hSl] at this
      injection this with h1 _
      exact h1.symm
     have hx62 : ((x.toNat : Int) == 62) = false := (u8_beq x 62).trans (decide_eq_false hx)
     clear hSl hSs hS
     have hSi : (0 : Int) < (S.size : Int) := by omega
     go_wp2_with fail
     refine HBX.out.mono ?_
     rintro r w2 ⟨u, rfl, he2, ho2, hk2⟩
     obtain ⟨p2, c2, rfl, hc2, hq2, hg2⟩ := own_form he2
     have hcells := own_cells he2 rfl
     have hlen4 : (evCells BB).length = BB.length * 4 := evCells_length BB
     have hrow2 := own_kept HLIT.out hk2 (fun _ _ h => h)
     have hfr0 : Fresh w w2 := (HF.out.alloc _).tr hk2
     have ho1 : ∀ b, (Value.slice (some ⟨wr.heap.size, 0, none⟩) 1 1).ownBlock = some b → w.heap.size ≤ b := fun b h => by simp [Value.ownBlock] at h; have := HF.out.size; omega
     have HROW := Lib.hid hrow2
     have HCL := Lib.hid hcells
     have HL4 := Lib.hid hlen4
     have HF2 := Lib.hid hfr0
     have HO1 := Lib.hid ho1
     clear he2 ho2 hk2 hcells hlen4 hrow2 hfr0 ho1 hc2 hg2
     generalize hbn : BB.length = bn at *
     have HBN := Lib.hid hbn
     clear hbn
     go_wp2_with (at_builtin; refine wpList_append_mine _ rfl _ _ 57 rfl 104 _ 4 40 Tryz.underlying57 HE.out rfl (by decide) _ _ _ rfl HROW.out _ bn c2 (evCells BB) rfl HL4.out hq2 HCL.out (evCells_one' _) (by unfold maxLen; omega) (by omega) ?_)
     intro p5 c5 w5 hr5 hg5 hk5
     obtain ⟨ho5, hF5⟩ := own_grow HF2.out HO1.out hg5 hk5
     have hr6 : w5.ownsRow 0 104 4 (.slice p5 (1 + bn) c5) (1 + bn) (evCells ([⟨2, false, 0, []⟩] ++ BB)) := by rw [evCells_append]; exact hr5
     have HR6 := Lib.hid (ev_add _ ⟨2, true, 0, []⟩ 104 hr6)
     have HO5 := Lib.hid ho5
     have HF5 := Lib.hid hF5
     clear hr5 hg5 hk5 hr6 ho5 hF5
     go_wp2_with (at_builtin; refine wpList_append_mine _ rfl _ _ 57 rfl 104 _ 4 40 Tryz.underlying57 HE.out rfl (by decide) _ _ _ rfl HR6.out _ 1 1 (⟨2, true, 0, []⟩ : Ev).cells rfl rfl (fun h => (by cases h)) (ev_at _ ⟨2, true, 0, []⟩ 104 _ (by simp)) (ev_one _) (by unfold maxLen; omega) (by omega) ?_)
     intro p7 c7 w7 hr7 hg7 hk7
     obtain ⟨ho7, hF7⟩ := own_grow (HF5.out.alloc _) HO5.out hg7 hk7
     have HE7 := Lib.hid (evs_three (L := [⟨2, false, 0, []⟩] ++ BB) hr7 (by rw [List.length_append, HBN.out]; rfl))
     have HO7 := Lib.hid ho7
     have HF7 := Lib.hid hF7
     clear hr7 hg7 hk7 ho7 hF7
     go_wp2
     go_ret2
     exact ⟨_, _, rfl, hj, HDY.out, HE7.out, HO7.out, HF7.out⟩
end Go.Proofs.YtbioecifiogffaaGreatDoor
namespace Go.Proofs.YtbioecifiogffaaGreatDoor
open Go.RowKit
theorem isItm_blank {s : Ln} (h : isItm s = true) : blank s = false := by
 have b45 : bl 45 = false := by decide
 unfold isItm at h
 split at h
 ·simp [blank, b45]
 ·simp [blank, b45]
 ·cases h
theorem nbl_zero {s : Ln} (t : List Ln) (h : blank s = false) : nbl (s :: t) = 0 := by simp [nbl, h]
theorem lst_item {f : Nat} {s : Ln} {t : List Ln} (h : isItm s = true) : lst (f + 1) (s :: t) = ((s.drop 2 :: (itm t).1) :: (lst f (itm t).2).1, (lst f (itm t).2).2) :=
 lst_go (by rw [nbl_zero t (isItm_blank h)]; rfl) h
theorem lst_skip {f : Nat} {l : List Ln} {s : Ln} {t : List Ln} (h : l.drop (nbl l) = s :: t) (hi : isItm s = true) : lst (f + 1) l = lst (f + 1) (s :: t) := by
 rw [lst_go h hi, lst_item hi]
def itE (m d : Nat) (x : List Ln) : List EvL := bgE 4 :: (blkF m (d + 1) x ++ [fnE 4])
theorem lst_ev_len (m d F : Nat) (l : List Ln) : ((lst F l).1.flatMap (itE m d)).length ≤ 4 * tot l := by
 have h1 := lst_sum F l
 have h2 := flat_len (itE m d) (fun x => 4 * tot x + 4) (fun a => by have := blkF_len m (d + 1) a; simp [itE]; omega) (lst F l).1
 omega
theorem itm_len (l : List Ln) : (itm l).2.length ≤ l.length := by
 induction l with
 | nil => simp [itm]
 | cons s t ih =>
  unfold itm
  split
  ·split
   ·simp
   ·simp only [List.length_cons]; omega
  ·split
   ·simp only [List.length_cons]; omega
   ·simp
theorem item_tot {s : Ln} {t : List Ln} (h : isItm s = true) : tot (s.drop 2 :: (itm t).1) + tot (itm t).2 + 1 ≤ tot (s :: t) := by
 have h1 := isItm_len h
 have h2 := itm_tot t
 rw [tot_cons, tot_cons]
 omega
theorem ba_lst {A : ByteArray} {l : List UInt8} (h : A.data.toList = l) : A = ⟨l.toArray⟩ := by subst h; rfl
theorem listed_any (m F : Nat) (IH : RBlkOK m) (g : Nat) (v : Value) (l : List Ln) (d : Nat) (w : World) (h : LnAt w g v l) (hL : tot l ≤ 16777216) (hd3 : d < 3) (hm : tot l ≤ m) (hF0 : l.length ≤ F) (s0 : Ln) (t0 : List Ln) (hl0 : l = s0 :: t0) (hi0 : isItm s0 = true) :
 Calls Tryz.prog 65 #[v, .int .i64 d] w fun e w' => ∃ u N, e = .returned (.tuple #[u, .int .i64 ((N : Nat) : Int)]) ∧ N ≤ l.length ∧ l.drop N = (lst F l).2 ∧ Evs w' 104 u (EL (bgE 3 :: ((lst F l).1.flatMap (itE m d) ++ [fnE 3]))) ∧ (∀ b, u.ownBlock = some b → w.heap.size ≤ b) ∧ Fresh w w' := by
 have hlen := tot_len l
 obtain ⟨Y, hY⟩ : ∃ Y, Y = (lst F l).2 := ⟨_, rfl⟩
 obtain ⟨X, hX⟩ : ∃ X, X = [⟨3, false, 0, []⟩] ++ EL ((lst F l).1.flatMap (itE m d)) := ⟨_, rfl⟩
 have hres : EL (bgE 3 :: ((lst F l).1.flatMap (itE m d) ++ [fnE 3])) = X ++ [⟨3, true, 0, []⟩] := by rw [hX]; simp [EL, bgE, fnE]
 have hXl : X.length ≤ 1 + 4 * tot l := by have := lst_ev_len m d F l; rw [hX, List.length_append]; unfold EL; rw [List.length_map]; simp only [List.length_cons, List.length_nil]; omega
 rw [hres, ← hY]
 have hstart : [⟨3, false, 0, []⟩] ++ EL ((lst F (l.drop 0)).1.flatMap (itE m d)) = X ∧ (lst F (l.drop 0)).2 = Y := by rw [List.drop_zero]; exact ⟨hX.symm, hY.symm⟩
 have hd0 : l.drop 0 = s0 :: t0 := hl0
 have hf0 : (l.drop 0).length ≤ F := by rw [List.drop_zero]; exact hF0
 obtain ⟨a, cap, rfl⟩ := h.form
 have hlit : (w.alloc (.cells #[.int .i64 3, .bool false, .int .i64 0, .string ⟨#[]⟩] 104)).ownsRow 0 104 4 (.slice (some ⟨w.heap.size, 0, none⟩) 1 1) 1 (evCells [⟨3, false, 0, []⟩]) := Evs.lit w 104 [⟨3, false, 0, []⟩] (by simp [maxLen])
 obtain ⟨W, hW⟩ : ∃ W, w.alloc (.cells #[.int .i64 3, .bool false, .int .i64 0, .string ⟨#[]⟩] 104) = W := ⟨_, rfl⟩
 have hFW : Fresh w W := by rw [← hW]; exact (Keeps.refl _ _).alloc _
 have hWs : w.heap.size < W.heap.size := by rw [← hW]; simp
 rw [hW] at hlit
 have ho1 : ∀ b, (Value.slice (some ⟨w.heap.size, 0, none⟩) 1 1).ownBlock = some b → w.heap.size ≤ b := fun b h => by simp [Value.ownBlock] at h; omega
 have HI := Lib.hid Tryz.infoStr
 have HE := Lib.hid Tryz.infoRE2
 have H := Lib.hid h
 have HST := Lib.hid hstart
 have HD0 := Lib.hid hd0
 have HI0 := Lib.hid hi0
 have HLIT := Lib.hid hlit
 have HFW := Lib.hid hFW
 have HO1 := Lib.hid ho1
 have HIH := Lib.hid IH
 clear h hX hY hstart hres hl0 hd0 hi0 hlit hFW IH ho1
 go_enter Tryz.func65, Tryz.ntmps65
 go_upto_block 0 with fail
 clear hW
 go_cut [6, 7] (fun u p wx => ∃ N : Nat, p = .int .i64 N ∧ N ≤ l.length ∧ l.drop N = Y ∧ Evs wx 104 u X ∧ (∀ b, u.ownBlock = some b → w.heap.size ≤ b) ∧ Fresh w wx)
 case rest =>
  obtain ⟨N, rfl, hN, hNY, he, ho, hF⟩ := hcut
  obtain ⟨q, c, rfl, hc, hq, hg⟩ := own_form he
  have he2 : wc.ownsRow 0 104 4 (.slice q X.length c) X.length (evCells X) := he
  have HR6 := Lib.hid (ev_add _ ⟨3, true, 0, []⟩ 104 he2)
  have HO5 := Lib.hid ho
  have HF5 := Lib.hid hF
  have HNY := Lib.hid hNY
  clear he he2 ho hF hNY hc hq hg
  go_wp2_with (at_builtin; refine wpList_append_mine _ rfl _ _ 57 rfl 104 _ 4 40 Tryz.underlying57 HE.out rfl (by decide) _ _ _ rfl HR6.out _ 1 1 (⟨3, true, 0, []⟩ : Ev).cells rfl rfl (fun h => (by cases h)) (ev_at _ ⟨3, true, 0, []⟩ 104 _ (by simp)) (ev_one _) (by unfold maxLen; omega) (by omega) ?_)
  intro p7 c7 w7 hr7 hg7 hk7
  obtain ⟨ho7, hF7⟩ := own_grow (HF5.out.alloc _) HO5.out hg7 hk7
  have HE7 := Lib.hid (evs_three (L := X) hr7 rfl)
  have HO7 := Lib.hid ho7
  have HF7 := Lib.hid hF7
  clear hr7 hg7 hk7 ho7 hF7
  go_wp2
  go_ret2
  exact ⟨_, _, rfl, hN, HNY.out, HE7.out, HO7.out, HF7.out⟩
 case first =>
  go_wp2_with fail
  go_loopw [6, 7] (fun u p wr => ∃ (j f : Nat) (done : List Ev) (s : Ln) (t : List Ln), p = .int .i64 j ∧ j ≤ l.length ∧ l.drop j = s :: t ∧ isItm s = true ∧ (l.drop j).length ≤ f ∧ wr.ownsRow 0 104 4 u done.length (evCells done) ∧ (∀ b, u.ownBlock = some b → w.heap.size ≤ b) ∧ Fresh w wr ∧ done ++ EL ((lst f (l.drop j)).1.flatMap (itE m d)) = X ∧ (lst f (l.drop j)).2 = Y) (fun _ p _ => l.length - (intOf p).toNat)
  case atStart => exact ⟨0, F, [⟨3, false, 0, []⟩], s0, t0, rfl, Nat.zero_le _, HD0.out, HI0.out, hf0, HLIT.out, HO1.out, HFW.out, HST.out⟩
  case round =>
   obtain ⟨j, f, done, s, t, rfl, hj, hd, hi, hf, hu, ho, hF, hr1, hr2⟩ := hrel
   obtain ⟨wo, rfl⟩ : ∃ wo : World, wo = wr := ⟨_, rfl⟩
   obtain ⟨q, c, rfl, hqc, hq, hg⟩ := own_form hu
   go_upto_if 23 with (at_builtin; refine wpList_append_mine _ rfl _ _ 86 rfl 9 _ 1 16 Tryz.underlying86 HI.out rfl (by decide) _ _ _ rfl (ln_add _ ⟨#[]⟩ 9 (World.ownsRow_nil _ _ _ _)) _ 1 1 [.string ⟨#[]⟩] rfl rfl (fun h => (by cases h)) (ln_at _ ⟨#[]⟩ 9 _ (by simp)) (str_one _) (by decide) (by decide) ?_)
   intro p5 c5 w5 hr5 hg5 hk5
   have hF5 : Fresh wo w5 := (((Keeps.refl (fun _ => False) wo).alloc _).trans hk5 (fun k _ hk => by cases hk))
   have hp5 : ∀ b, (Value.slice p5 1 c5).ownBlock = some b → wo.heap.size ≤ b := fun b hb => by
    rcases hg5 b hb with h1 | h1
    ·cases h1
    ·simp at h1; omega
   obtain ⟨g5, rfl, hg5s⟩ : ∃ g5, p5 = some ⟨g5, 0, none⟩ ∧ g5 < w5.heap.size := by
    obtain ⟨p', c', he', _, hn', hg'⟩ := own_form hr5
    cases he'
    cases p5 with
    | none => have := (hn' rfl).1; omega
    | some ad => obtain ⟨g5, rfl, h5⟩ := hg' ad rfl; exact ⟨g5, rfl, h5⟩
   have hg5w : wo.heap.size ≤ g5 := hp5 g5 rfl
   have hs : l[j]? = some s := by have := congrArg (·[0]?) hd; simpa [List.getElem?_drop] using this
   have hlt : j < l.length := (List.getElem?_eq_some_iff.1 hs).1
   have hFw5 : Fresh w w5 := hF.tr hF5
   obtain ⟨cap', off, he, h1, h2, hcell⟩ := (H.out.fresh hFw5).line hs
   cases he
   obtain ⟨S, hS, hSl, hSs⟩ := mk_of s
   rw [hS] at hcell
   have hst : s.length ≤ 16777216 := by have := tot_drop l j; rw [hd, tot_cons] at this; omega
   have hitm := item_tot (t := t) hi
   have htj := tot_drop l j
   rw [hd] at htj
   obtain ⟨f, rfl⟩ : ∃ k, f = k + 1 := ⟨f - 1, by rw [hd] at hf; simp at hf; omega⟩
   rw [hd] at hf hr1 hr2
   rw [lst_item hi] at hr1 hr2
   have hT2l := itm_len t
   obtain ⟨IN, hIN⟩ : ∃ IN, s.drop 2 :: (itm t).1 = IN := ⟨_, rfl⟩
   obtain ⟨T2, hT2⟩ : ∃ T2, (itm t).2 = T2 := ⟨_, rfl⟩
   rw [hIN, hT2] at hr1 hr2
   rw [hIN, hT2] at hitm
   rw [hT2] at hT2l
   have hdt : l.drop (j + 1) = t := by have := congrArg (List.drop 1) hd; simpa [List.drop_drop] using this
   have htl : t.length + (j + 1) = l.length := by rw [← hdt, List.length_drop]; omega
   have HTL := Lib.hid htl
   have hloop2 : [s.drop 2] ++ (itm (l.drop (j + 1))).1 = IN ∧ (itm (l.drop (j + 1))).2 = T2 := by rw [hdt]; exact ⟨hIN, hT2⟩
   have HS := Lib.hid (hF)
   have HU := Lib.hid hu
   have HO := Lib.hid ho
   have HF5 := Lib.hid hF5
   have HR1 := Lib.hid hr1
   have HR2 := Lib.hid hr2
   have HR5 := Lib.hid hr5
   have HL2 := Lib.hid hloop2
   have HSL := Lib.hid hSl
   have HSS := Lib.hid hSs
   have HHD := Lib.hid hd
   have HC5 := Lib.hid (own_cells hr5 rfl)
   have hcg : w5.cell? ⟨g5, 0, none⟩ = some (.string ⟨#[]⟩) := World.ownsRow.cells (v := .slice (some ⟨g5, 0, none⟩) 1 c5) hr5 (g := g5) rfl 0 _ rfl
   have hfg : w5.frozen? ⟨g5, 0, none⟩ = false := World.ownsRow.frozenAt hr5 0
   clear hF hu ho hr1 hr2 hr5 hloop2 hSl hd hIN hT2 hdt hs hg5 hk5 hFw5 hF5 hp5 hqc hq hg hS hSs
   go_upto_if 23 with fail
   go_cut [8] (fun v wx => wx.ownsRow 0 9 1 v 1 (lnCells [s.drop 2]) ∧ (∀ b, v.ownBlock = some b → wo.heap.size ≤ b) ∧ Fresh wo wx)
   case first =>
    by_cases h2s : 2 < S.size
    ·have h2S : (2 : Int) < (S.size : Int) := by omega
     have h2S' : (2 : Int) ≤ (S.size : Int) := by omega
     go_wp2
     go_meet
     refine ⟨?_, fun b hb => ?_, ?_⟩
     ·have h1 := (World.ownsRow.stored HR5.out 0 (.string (S.extract 2 S.size))).1
      have h2 : S.extract 2 S.size = ⟨(s.drop 2).toArray⟩ := ba_lst (by rw [rest_list, HSL.out])
      rw [h2] at h1 ⊢
      exact h1
     ·simp [Value.ownBlock] at hb; omega
     ·exact Keeps.setCell HF5.out (p := ⟨g5, 0, none⟩) (fun h => by simp at h; omega) _
    ·have h2S : ¬ (2 : Int) < (S.size : Int) := by omega
     go_wp2
     go_meet
     refine ⟨?_, fun b hb => ?_, HF5.out⟩
     ·have h2 : s.drop 2 = [] := List.drop_eq_nil_of_le (by rw [← HSS.out]; omega)
      rw [h2]
      exact HR5.out
     ·simp [Value.ownBlock] at hb; omega
   case rest =>
    obtain ⟨hin, hino, hFc⟩ := hcut
    obtain ⟨q8, c8, rfl, -, -, -⟩ := own_form hin
    have HIN := Lib.hid hin
    have HINO := Lib.hid hino
    have HFC := Lib.hid hFc
    have hsw := hFc.size
    have hsw2 := HS.out.size
    clear hin hino hFc hcell hcg hfg
    go_upto_block 2 with fail
    go_cut [7, 8] (fun p v wx => ∃ j2 : Nat, p = .int .i64 j2 ∧ j2 ≤ l.length ∧ l.drop j2 = T2 ∧ Lns wx v IN ∧ (∀ b, v.ownBlock = some b → wo.heap.size ≤ b) ∧ Fresh wo wx)
    case first =>
     go_wp2_with fail
     go_loopw [7, 8] (fun p v wx => ∃ (j3 : Nat) (ins : List Ln), p = .int .i64 j3 ∧ j3 ≤ l.length ∧ wx.ownsRow 0 9 1 v ins.length (lnCells ins) ∧ ins.length ≤ j3 + 1 ∧ ins ++ (itm (l.drop j3)).1 = IN ∧ (itm (l.drop j3)).2 = T2 ∧ (∀ b, v.ownBlock = some b → wo.heap.size ≤ b) ∧ Fresh wo wx) (fun p _ _ => l.length - (intOf p).toNat)
     case atStart => exact ⟨j + 1, [s.drop 2], by go_num, by omega, HIN.out, by simp, HL2.out.1, HL2.out.2, HINO.out, HFC.out⟩
     case round =>
      obtain ⟨j3, ins, rfl, hj3, hv3, hil, hi1, hi2, ho3, hF3⟩ := hrel
      obtain ⟨q3, c3, rfl, -, -, -⟩ := own_form hv3
      have hFx : Fresh w wr := HS.out.tr hF3
      by_cases hlt3 : j3 < l.length
      ·have hnb := nbl_le (l.drop j3)
       rw [List.length_drop] at hnb
       have hbh := behind_any g _ l j3 wr (H.out.fresh hFx) hj3 hL
       obtain ⟨K, hK⟩ : ∃ K, j3 + nbl (l.drop j3) = K := ⟨_, rfl⟩
       rw [hK] at hbh
       have hKd : (l.drop j3).drop (nbl (l.drop j3)) = l.drop K := by rw [List.drop_drop, hK]
       have HKK := Lib.hid hK
       have HBH := Lib.hid hbh
       have HV3 := Lib.hid hv3
       have HO3 := Lib.hid ho3
       have HF3 := Lib.hid hF3
       have hKl : K ≤ l.length := by omega
       have hKj : j3 ≤ K := by omega
       clear hbh hK hv3 ho3 hF3
       by_cases hKe : K = l.length
       ·have he := itm_end (hKd.trans (by rw [hKe, List.drop_length]))
        rw [he, List.append_nil] at hi1
        rw [he] at hi2
        have e1 : ((K : Int) == (l.length : Int)) = true := by rw [hKe]; simp
        have HI1 := Lib.hid hi1
        have HI2 := Lib.hid hi2
        clear hi1 hi2 he hKd hKe
        go_wp2_with fail
        refine HBH.out.mono ?_
        rintro e w6 ⟨rfl, hk6⟩
        have HK6 := Lib.hid hk6
        clear hk6
        go_wp2
        go_meet
        refine ⟨j3, rfl, hj3, HI2.out, ?_, HO3.out, HF3.out.tr HK6.out⟩
        have := own_kept HV3.out HK6.out (fun _ _ h => h)
        rw [← HI1.out]
        exact this
       ·have e1 : ((K : Int) == (l.length : Int)) = false := by rw [beq_eq_false_iff_ne]; omega
        have hKlt : K < l.length := by omega
        obtain ⟨s2, hs2, hd2⟩ := line_at hKlt
        obtain ⟨S2, hS2, hSl2, hSs2⟩ := mk_of s2
        have hst2 : s2.length ≤ 16777216 := by have := tot_drop l K; rw [hd2, tot_cons] at this; omega
        have hbg := fun W' : World => begins_any S2 ⟨#[32, 32]⟩ W' (by omega) (by decide)
        rw [hSl2, show (⟨#[32, 32]⟩ : ByteArray).data.toList = [32, 32] from rfl, isInd_pre] at hbg
        cases hind : isInd s2 with
        | false =>
         rw [hind] at hbg
         have he := itm_stop (hKd.trans hd2) hind
         rw [he, List.append_nil] at hi1
         rw [he] at hi2
         have HI1 := Lib.hid hi1
         have HI2 := Lib.hid hi2
         have HBG := Lib.hid hbg
         have HS2 := Lib.hid hs2
         clear hi1 hi2 he hKd hbg hs2 hd2 hSl2 hSs2 hKe
         go_wp2_with fail
         refine HBH.out.mono ?_
         rintro e w6 ⟨rfl, hk6⟩
         obtain ⟨cap2, off2, hev, -, -, hcell⟩ := ((H.out.fresh hFx).fresh hk6).line HS2.out
         cases hev
         rw [hS2] at hcell
         have HK6 := Lib.hid hk6
         clear hk6 hS2
         go_wp2_with fail
         refine (HBG.out _).mono ?_
         rintro e w7 ⟨rfl, hk7⟩
         have HK7 := Lib.hid hk7
         clear hk7
         go_wp2
         go_meet
         refine ⟨j3, rfl, hj3, HI2.out, ?_, HO3.out, (HF3.out.tr HK6.out).tr HK7.out⟩
         have := own_kept HV3.out (HK6.out.tr HK7.out) (fun _ _ h => h)
         rw [← HI1.out]
         exact this
        | true =>
         rw [hind] at hbg
         have he := itm_go (hKd.trans hd2) hind
         rw [he] at hi1 hi2
         obtain ⟨N3, hN3⟩ : ∃ N3, nbl (l.drop j3) = N3 := ⟨_, rfl⟩
         have hKN : j3 + N3 = K := by rw [← hN3]; exact HKK.out
         rw [hN3] at hi1 hi2
         have hcell := fun (W' : World) (hW' : Fresh w W') => (H.out.fresh hW').line hs2
         obtain ⟨U, hU⟩ : ∃ U, S2.extract 2 S2.size = U := ⟨_, rfl⟩
         have hUl : U.data.toList = s2.drop 2 := by rw [← hU, rest_list, hSl2]
         have hS2s : (2 : Int) ≤ (S2.size : Int) := by
          have : 2 ≤ s2.length := by
           unfold isInd at hind
           split at hind
           ·simp
           ·cases hind
          omega
         have HI1 := Lib.hid hi1
         have HI2 := Lib.hid hi2
         have HBG := Lib.hid hbg
         have HCELL := Lib.hid hcell
         have HU2 := Lib.hid hU
         have HUL := Lib.hid hUl
         have HD2 := Lib.hid hd2
         clear hi1 hi2 he hKd hbg hs2 hd2 hSl2 hSs2 hKe hcell hind hN3 hU hUl
         go_wp2_with fail
         refine HBH.out.mono ?_
         rintro e w6 ⟨rfl, hk6⟩
         obtain ⟨cap2, off2, hev, -, -, hcell⟩ := HCELL.out w6 (hFx.tr hk6)
         cases hev
         rw [hS2] at hcell
         have HK6 := Lib.hid hk6
         have HFX := Lib.hid hFx
         clear hk6 hFx
         go_wp2_with fail
         refine (HBG.out _).mono ?_
         rintro e w7 ⟨rfl, hk7⟩
         have HK7 := Lib.hid (HK6.out.tr hk7)
         have HV7 := Lib.hid (own_kept HV3.out HK7.out (fun _ _ h => h))
         have HF7 := Lib.hid (HF3.out.tr HK7.out)
         have HFW7 := Lib.hid (HFX.out.tr HK7.out)
         have hsz7 := HF7.out.size
         clear hk7 hcell
         go_wp2
         go_loopw [7, 8] (fun p v wx => ∃ i : Nat, i ≤ N3 ∧ p = .int .i64 ((j3 + i : Nat) : Int) ∧ wx.ownsRow 0 9 1 v (ins.length + i) (lnCells (ins ++ List.replicate i [])) ∧ (∀ b, v.ownBlock = some b → wo.heap.size ≤ b) ∧ Fresh wo wx) (fun p _ _ => K - (intOf p).toNat)
         case atStart => exact ⟨0, Nat.zero_le _, rfl, by simpa using HV7.out, HO3.out, HF7.out⟩
         case round =>
          obtain ⟨i, hiN, rfl, hvi, hoi, hFi⟩ := hrel
          obtain ⟨qi, ci, rfl, -, -, -⟩ := own_form hvi
          have HVI := Lib.hid (ln_add _ ⟨#[]⟩ 9 hvi)
          have HOI := Lib.hid hoi
          have HFI := Lib.hid hFi
          have hszi := hFi.size
          by_cases hiL : i < N3
          ·have hlt9 : ((j3 + i : Nat) : Int) < (K : Int) := by omega
           clear hvi hoi hFi
           go_wp2_with (at_builtin; refine wpList_append_mine _ rfl _ _ 86 rfl 9 _ 1 16 Tryz.underlying86 HI.out rfl (by decide) _ _ _ rfl HVI.out _ 1 1 [.string ⟨#[]⟩] rfl rfl (fun h => (by cases h)) (ln_at _ ⟨#[]⟩ 9 _ (by simp)) (str_one _) (by unfold maxLen; omega) (by omega) ?_)
           intro p8 c8 w8 hr8 hg8 hk8
           obtain ⟨ho8, hF8⟩ := own_grow (HFI.out.alloc _) HOI.out hg8 hk8
           have hr9 : w8.ownsRow 0 9 1 (.slice p8 (ins.length + (i + 1)) c8) (ins.length + (i + 1)) (lnCells (ins ++ List.replicate (i + 1) [])) := by
            rw [List.replicate_succ', ← List.append_assoc, lnCells_append]
            exact hr8
           have HR9 := Lib.hid hr9
           have HO9 := Lib.hid ho8
           have HF9 := Lib.hid hF8
           clear hr8 hg8 hk8 ho8 hF8 hr9
           go_wp2
           go_roundw
           case rel => exact ⟨i + 1, by omega, by go_num, HR9.out, HO9.out, HF9.out⟩
           case measure => simp [intOf]; omega
          ·have hiE : i = N3 := by omega
           subst hiE
           have hnlt9 : ¬ ((j3 + i : Nat) : Int) < (K : Int) := by omega
           obtain ⟨cap2', off2', hev, -, -, hcell⟩ := HCELL.out wr (HS.out.tr HFI.out)
           cases hev
           rw [hS2] at hcell
           have hvu := ln_add wr U 9 hvi
           have HVU := Lib.hid hvu
           have hUe := HU2.out
           clear hvi hoi hFi hvu hS2
           go_wp2_with (at_builtin; refine wpList_append_mine _ rfl _ _ 86 rfl 9 _ 1 16 Tryz.underlying86 HI.out rfl (by decide) _ _ _ rfl HVU.out _ 1 1 [.string U] rfl rfl (fun h => (by cases h)) (ln_at _ U 9 _ (by simp)) (str_one _) (by unfold maxLen; omega) (by omega) ?_)
           intro p8 c8 w8 hr8 hg8 hk8
           obtain ⟨ho8, hF8⟩ := own_grow (HFI.out.alloc _) HOI.out hg8 hk8
           have hr9 : w8.ownsRow 0 9 1 (.slice p8 (ins.length + i + 1) c8) (ins ++ List.replicate i [] ++ [s2.drop 2]).length (lnCells (ins ++ List.replicate i [] ++ [s2.drop 2])) := by
            rw [lnCells_append, ← HUL.out]
            have : (ins ++ List.replicate i [] ++ [U.data.toList]).length = ins.length + i + 1 := by simp; omega
            rw [this]
            exact hr8
           have HR9 := Lib.hid hr9
           have HO9 := Lib.hid ho8
           have HF9 := Lib.hid hF8
           clear hr8 hg8 hk8 ho8 hF8 hr9 hUe hcell
           go_wp2
           go_roundw
           case rel => exact ⟨K + 1, _, by go_num, by omega, HR9.out, by simp; omega, by rw [← HI1.out]; simp, HI2.out, HO9.out, HF9.out⟩
           case measure => simp [intOf]; omega
      ·have hje : j3 = l.length := by omega
       have he : itm (l.drop j3) = ([], []) := by rw [hje, List.drop_length]; rfl
       rw [he, List.append_nil] at hi1
       rw [he] at hi2
       have HI1 := Lib.hid hi1
       have HI2 := Lib.hid hi2
       have HV3 := Lib.hid hv3
       have HO3 := Lib.hid ho3
       have HF3 := Lib.hid hF3
       clear hi1 hi2 he hv3 ho3 hF3
       go_wp2
       go_meet
       refine ⟨j3, by rw [hje], hj3, ?_, ?_, HO3.out, HF3.out⟩
       ·rw [← HI2.out, hje, List.drop_length]
       ·rw [← HI1.out]
        exact HV3.out
    case rest =>
     obtain ⟨j2, rfl, hj2, hjT, hln, hlo, hF2⟩ := hcut
     have hFx : Fresh w wc := HS.out.tr hF2
     obtain ⟨q2, c2, rfl, -, -, -⟩ := own_form hln
     have hat := hln.at
     generalize hgv : (Value.slice q2 IN.length c2).ownBlock.getD 0 = gv at hat
     have htx : tot IN < m := by omega
     have hbk := HIH.out gv _ IN (d + 1) wc hat htx (by omega) (by omega)
     obtain ⟨BB, hBB⟩ : ∃ BB, BB = EL (blkF m (d + 1) IN) := ⟨_, rfl⟩
     rw [← hBB] at hbk
     have hit : EL (itE m d IN) = [⟨4, false, 0, []⟩] ++ BB ++ [⟨4, true, 0, []⟩] := by rw [hBB]; simp [EL, itE, bgE, fnE]
     have hr1 := HR1.out
     have hr2 := HR2.out
     simp only [List.flatMap_cons, EL_append, hit] at hr1
     obtain ⟨D2, hD2⟩ : ∃ D2, done ++ [⟨4, false, 0, []⟩] ++ BB ++ [⟨4, true, 0, []⟩] = D2 := ⟨_, rfl⟩
     have hr3 : D2 ++ EL ((lst f T2).1.flatMap (itE m d)) = X := by rw [← hD2, ← hr1]; simp
     have hD2l : D2.length = done.length + BB.length + 2 := by rw [← hD2]; simp; omega
     have HDL := Lib.hid hD2l
     have hDX : done.length + BB.length + 2 ≤ X.length := by rw [← hD2l, ← hr3]; simp
     have hjlt : j < j2 := by have := HTL.out; have h9 : T2.length = l.length - j2 := by rw [← hjT]; simp
                              omega
     have hnb := nbl_le T2
     have hT2len : T2.length = l.length - j2 := by rw [← hjT]; simp
     obtain ⟨K, hK⟩ : ∃ K, j2 + nbl (l.drop j2) = K := ⟨_, rfl⟩
     have hKd : T2.drop (nbl T2) = l.drop K := by rw [← hK, ← hjT, List.drop_drop]
     have hKl : j2 ≤ K ∧ K ≤ l.length := by rw [← hK, hjT]; omega
     have hbh := fun (W' : World) (hW' : Fresh w W') => behind_any g _ l j2 W' (H.out.fresh hW') hj2 hL
     rw [hK] at hbh
     have huc := own_kept HU.out hF2 (fun _ _ h => h)
     have hqlt : ∀ b, (Value.slice q done.length c).ownBlock = some b → b < wc.heap.size := fun b hb => by
      obtain ⟨p', c', he', _, _, hg'⟩ := own_form huc
      cases he'
      cases q with
      | none => cases hb
      | some ad => obtain ⟨g', rfl, h5⟩ := hg' ad rfl; simp [Value.ownBlock] at hb; omega
     have HQL := Lib.hid hqlt
     have HBK := Lib.hid hbk
     have HBH := Lib.hid hbh
     have HU2 := Lib.hid huc
     have HFX := Lib.hid hFx
     have HR3 := Lib.hid hr3
     have HRY := Lib.hid hr2
     have HD2 := Lib.hid hD2
     have HKD := Lib.hid hKd
     have HJT := Lib.hid hjT
     generalize hbn : BB.length = bn at *
     have HBN := Lib.hid hbn
     clear hbk hbh huc hFx hr3 hr2 hr1 hD2 hKd hjT hK hat hgv hln hlo hF2 hit hBB hqlt hbn hD2l
     go_wp2_with fail
     refine HBK.out.mono ?_
     rintro e w6 ⟨u6, rfl, he6, ho6, hk6⟩
     obtain ⟨q6, c6, rfl, hc6, hn6, -⟩ := own_form he6
     have hlen4 : (evCells BB).length = bn * 4 := by rw [evCells_length, HBN.out]
     have HL4 := Lib.hid hlen4
     have HU6 := Lib.hid (ev_add w6 ⟨4, false, 0, []⟩ 104 (own_kept HU2.out hk6 (fun _ _ h => h)))
     have HF6 := Lib.hid (HFX.out.tr hk6)
     have HO6 := Lib.hid ho6
     have HN6 := Lib.hid hn6
     rw [HBN.out] at *
     have HE6 := Lib.hid (he6.fresh ((Keeps.refl (fun _ => False) w6).alloc (.cells #[.int .i64 4, .bool false, .int .i64 0, .string ⟨#[]⟩] 104)))
     clear he6 hlen4 hk6 ho6 hn6 hc6
     go_wp2_with (at_builtin; refine wpList_append_mine _ rfl _ _ 57 rfl 104 _ 4 40 Tryz.underlying57 HE.out rfl (by decide) _ _ _ rfl HU6.out _ 1 1 (⟨4, false, 0, []⟩ : Ev).cells rfl rfl (fun h => (by cases h)) (ev_at _ ⟨4, false, 0, []⟩ 104 _ (by simp)) (ev_one _) (by unfold maxLen; omega) (by omega) ?_)
     intro p7 c7 w7 hr7 hg7 hk7
     have he7 := HE6.out.kept hk7 (fun k hk hD => by have := HO6.out k hk; have := HQL.out k hD; omega)
     obtain ⟨ho7, hF7⟩ := own_grow (HF6.out.alloc _) HO.out hg7 hk7
     have hr7' : w7.ownsRow 0 104 4 (.slice p7 (done.length + 1) c7) (done.length + 1) (evCells (done ++ [⟨4, false, 0, []⟩])) := by rw [evCells_append]; exact hr7
     have HCL := Lib.hid (own_cells he7 rfl)
     have HR7 := Lib.hid hr7'
     have HO7 := Lib.hid ho7
     have HF7 := Lib.hid hF7
     clear hr7 hg7 hk7 he7 ho7 hF7 hr7'
     go_wp2_with (at_builtin; refine wpList_append_mine _ rfl _ _ 57 rfl 104 _ 4 40 Tryz.underlying57 HE.out rfl (by decide) _ _ _ rfl HR7.out _ bn c6 (evCells BB) rfl HL4.out HN6.out HCL.out (evCells_one' _) (by unfold maxLen; omega) (by omega) ?_)
     intro p8 c8 w8 hr8 hg8 hk8
     obtain ⟨ho8, hF8⟩ := own_grow HF7.out HO7.out hg8 hk8
     have hr8' : w8.ownsRow 0 104 4 (.slice p8 (done.length + 1 + bn) c8) (done.length + 1 + bn) (evCells (done ++ [⟨4, false, 0, []⟩] ++ BB)) := by rw [evCells_append]; exact hr8
     have HR8 := Lib.hid (ev_add w8 ⟨4, true, 0, []⟩ 104 hr8')
     have HO8 := Lib.hid ho8
     have HF8 := Lib.hid hF8
     clear hr8 hg8 hk8 ho8 hF8 hr8'
     go_wp2_with (at_builtin; refine wpList_append_mine _ rfl _ _ 57 rfl 104 _ 4 40 Tryz.underlying57 HE.out rfl (by decide) _ _ _ rfl HR8.out _ 1 1 (⟨4, true, 0, []⟩ : Ev).cells rfl rfl (fun h => (by cases h)) (ev_at _ ⟨4, true, 0, []⟩ 104 _ (by simp)) (ev_one _) (by unfold maxLen; omega) (by omega) ?_)
     intro p9 c9 w9 hr9 hg9 hk9
     obtain ⟨ho9, hF9⟩ := own_grow (HF8.out.alloc _) HO8.out hg9 hk9
     have hr9' : w9.ownsRow 0 104 4 (.slice p9 (done.length + 1 + bn + 1) c9) D2.length (evCells D2) := by
      have : D2.length = done.length + 1 + bn + 1 := by have := HDL.out; omega
      have e2 : evCells (done ++ [⟨4, false, 0, []⟩] ++ BB ++ [⟨4, true, 0, []⟩]) = evCells (done ++ ⟨4, false, 0, []⟩ :: BB) ++ (⟨4, true, 0, []⟩ : Ev).cells := by
       rw [evCells_append, evCells_one, List.append_assoc done, List.singleton_append]
      rw [this, ← HD2.out, e2]
      exact hr9
     have HR9 := Lib.hid hr9'
     have HO9 := Lib.hid ho9
     have HF9 := Lib.hid hF9
     have hbh := HBH.out w9 hF9
     have HBH9 := Lib.hid hbh
     clear hr9 hg9 hk9 ho9 hF9 hr9' hbh
     have hstop : (lst f T2 = ([], T2)) → D2 = X ∧ l.drop j2 = Y := fun he => by
      have h1 := HR3.out
      have h2 := HRY.out
      rw [he] at h1 h2
      exact ⟨by simpa [EL] using h1, HJT.out.trans h2⟩
     have HSTOP := Lib.hid hstop
     clear hstop
     by_cases hKe : K = l.length
     ·have he := HSTOP.out (lst_stop (.inl (HKD.out.trans (by rw [hKe, List.drop_length]))))
      have e1 : ((K : Int) == (l.length : Int)) = true := by rw [hKe]; simp
      have HFIN := Lib.hid he
      clear he hKe
      go_wp2_with fail
      refine HBH9.out.mono ?_
      rintro e w10 ⟨rfl, hk10⟩
      have HK10 := Lib.hid hk10
      clear hk10
      go_wp2
      go_meet
      refine ⟨j2, rfl, hj2, HFIN.out.2, ?_, HO9.out, HF9.out.tr HK10.out⟩
      have := own_kept HR9.out HK10.out (fun _ _ h => h)
      unfold Evs
      rw [← HFIN.out.1, show D2.length = done.length + 1 + bn + 1 by have := HDL.out; omega] at *
      exact this
     ·have e1 : ((K : Int) == (l.length : Int)) = false := by rw [beq_eq_false_iff_ne]; omega
      have hKlt : K < l.length := by omega
      obtain ⟨s3, hs3, hd3⟩ := line_at hKlt
      obtain ⟨S3, hS3, hSl3, hSs3⟩ := mk_of s3
      have hst3 : s3.length ≤ 16777216 := by have := tot_drop l K; rw [hd3, tot_cons] at this; omega
      have hit3 := fun W' : World => ritem_any S3 W' (by omega)
      rw [hSl3] at hit3
      cases hi3 : isItm s3 with
      | false =>
       rw [hi3] at hit3
       have he := HSTOP.out (lst_stop (.inr ⟨s3, _, HKD.out.trans hd3, hi3⟩))
       have HFIN := Lib.hid he
       have HIT3 := Lib.hid hit3
       have HS3 := Lib.hid hs3
       clear he hit3 hs3 hd3 hSl3 hSs3 hi3 hKe
       go_wp2_with fail
       refine HBH9.out.mono ?_
       rintro e w10 ⟨rfl, hk10⟩
       have HK10 := Lib.hid hk10
       obtain ⟨cap', off', hev, -, -, hcell⟩ := (H.out.fresh (HF9.out.tr hk10)).line HS3.out
       cases hev
       rw [hS3] at hcell
       clear hk10 hS3
       go_wp2_with fail
       refine (HIT3.out _).mono ?_
       rintro e w11 ⟨rfl, hk11⟩
       have HK11 := Lib.hid (HK10.out.tr hk11)
       clear hk11
       go_wp2
       go_meet
       refine ⟨j2, rfl, hj2, HFIN.out.2, ?_, HO9.out, HF9.out.tr HK11.out⟩
       have := own_kept HR9.out HK11.out (fun _ _ h => h)
       unfold Evs
       rw [← HFIN.out.1, show D2.length = done.length + 1 + bn + 1 by have := HDL.out; omega] at *
       exact this
      | true =>
       rw [hi3] at hit3
       obtain ⟨f, rfl⟩ : ∃ k, f = k + 1 := ⟨f - 1, by simp at hf; omega⟩
       have he := lst_skip (f := f) (HKD.out.trans hd3) hi3
       have HSK := Lib.hid he
       have HIT3 := Lib.hid hit3
       have HS3 := Lib.hid hs3
       have HD3 := Lib.hid hd3
       have HI3 := Lib.hid hi3
       clear he hit3 hs3 hd3 hSl3 hSs3 hi3 hKe
       go_wp2_with fail
       refine HBH9.out.mono ?_
       rintro e w10 ⟨rfl, hk10⟩
       have HK10 := Lib.hid hk10
       obtain ⟨cap', off', hev, -, -, hcell⟩ := (H.out.fresh (HF9.out.tr hk10)).line HS3.out
       cases hev
       rw [hS3] at hcell
       clear hk10 hS3
       go_wp2_with fail
       refine (HIT3.out _).mono ?_
       rintro e w11 ⟨rfl, hk11⟩
       have HK11 := Lib.hid (HK10.out.tr hk11)
       clear hk11
       go_wp2
       go_roundw
       case rel =>
        refine ⟨K, f + 1, D2, s3, _, rfl, by omega, HD3.out, HI3.out, ?_, ?_, HO9.out, HF9.out.tr HK11.out, ?_, ?_⟩
        ·rw [List.length_drop]; simp at hf; omega
        ·have := own_kept HR9.out HK11.out (fun _ _ h => h)
         rw [show D2.length = done.length + 1 + bn + 1 by have := HDL.out; omega] at *
         exact this
        ·rw [HD3.out, ← HSK.out]; exact HR3.out
        ·rw [HD3.out, ← HSK.out]; exact HRY.out
       case measure => simp [intOf]; omega
end Go.Proofs.YtbioecifiogffaaGreatDoor
