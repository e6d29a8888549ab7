/- inline.star: where the partner of a star stands. Condition: the text has at most 2^40 bytes. -/
import Derived.Test.YtbioecifiogffaaDoorInlProg1
namespace Go.Proofs.YtbioecifiogffaaDoor
open Go.RowKit

theorem white_any (c : UInt8) : ∃ J : Int, decide (0 ≤ J) = wht c ∧ ∀ W : World, Calls Tryd.prog 98 #[.string ⟨#[32, 9, 10]⟩, .int .u8 c.toNat] W fun e w' => e = .returned (.int .i64 J) ∧ w' = W := by
  refine ⟨Lib.indexByte [32, 9, 10] c, wht_index c, fun W => ?_⟩
  have h := Tryd.strings_IndexByte ⟨#[32, 9, 10]⟩ (c.toNat : Int) W
  have e1 : ((c.toNat : Int)).toNat.toUInt8 = c := by simp
  rw [e1] at h
  exact h

theorem rest_list (s : ByteArray) (i : Nat) : (s.extract i s.size).data.toList = s.data.toList.drop i := by
  rw [ByteArray.data_extract, Array.toList_extract, List.extract_eq_take_drop]
  apply List.take_of_length_le
  simp

set_option maxHeartbeats 4000000 in
set_option maxRecDepth 100000 in
theorem star_any (s : ByteArray) (w : World) (hs : s.size ≤ 1099511627776) :
    Calls Tryd.prog 83 #[.string s] w fun e w' => e = .returned (.int .i64 (plc 0 (str s.data.toList))) ∧ Fresh w w' := by
  obtain ⟨R, hR⟩ : ∃ R, R = plc 0 (str s.data.toList) := ⟨_, rfl⟩
  rw [← hR]
  obtain ⟨D, hD⟩ : ∃ D, D = scn (s.data.toList.length + 1) s.data.toList := ⟨_, rfl⟩
  have hend : (D = none → R = -1) ∧ (∀ j (hj : j < s.size), D = some j → (j = 0 → R = -1) ∧ (0 < j → ∀ (a b : UInt8) (h1 : 0 < s.size) (h2 : j - 1 < s.size), s[0]'h1 = a → s[j - 1]'h2 = b → R = if wht a || wht b then (-1 : Int) else (j : Int))) := by
    unfold str at hR
    rw [← hD] at hR
    cases D with
    | none => exact ⟨fun _ => hR, fun j _ h => by cases h⟩
    | some n =>
      refine ⟨fun h => (by cases h), fun j hj h => ?_⟩
      obtain rfl : n = j := by simpa using h
      refine ⟨fun h => ?_, fun h a b h1 h2 ha hb => ?_⟩
      · subst h
        simpa [plc] using hR
      · have hn : ¬ n = 0 := by omega
        have e1 : s.data.toList.headD 0 = a := by
          have := drop_lt h1
          rw [List.drop_zero, ha] at this
          rw [this]; rfl
        have e2 : s.data.toList.getD (n - 1) 0 = b := by
          rw [List.getD_eq_getElem?_getD]
          have h4 : n - 1 < s.data.toList.length := by simp; omega
          rw [List.getElem?_eq_getElem h4]
          rw [← hb]
          simp [ByteArray.getElem_eq_getElem_data]
        simp only [e1, e2, hn, false_or] at hR
        rw [hR]
        cases hwa : wht a <;> cases hwb : wht b <;> simp [plc]
  have hst : (scn (s.data.toList.length + 1) (s.data.toList.drop 0)).map (0 + ·) = D := by rw [hD, List.drop_zero]; simp
  have hlen : s.data.toList.length = s.size := by simp
  have HE := Lib.hid hend
  have HST := Lib.hid hst
  have HL := Lib.hid hlen
  clear hend hst hlen
  clear hR hD
  go_enter Tryd.func83, Tryd.ntmps83
  go_wp2
  go_loopw [3] (fun p wr => Fresh w wr ∧ ∃ j n : Nat, p = .int .i64 j ∧ j ≤ s.size ∧ (s.data.toList.drop j).length ≤ n ∧ (scn (n + 1) (s.data.toList.drop j)).map (j + ·) = D) (fun p _ => s.size - (intOf p).toNat)
  case atStart => exact ⟨Keeps.refl _ _, 0, s.data.toList.length, rfl, by omega, by simp, HST.out⟩
  case round =>
    obtain ⟨hFr, j, n, rfl, hj2, hn, hp⟩ := hrel
    by_cases hlt : j < s.size
    · by_cases h42 : s[j]'hlt = 42
      · have q : (((s[j]'hlt).toNat : Int) == 42) = true := (u8_beq (s[j]'hlt) 42).trans (decide_eq_true h42)
        have hr : D = some j := by rw [← hp, drop_lt hlt]; simp [scn, h42]
        obtain ⟨x1, x2⟩ := HE.out.2 j hlt hr
        clear hp hr hn h42 HST
        by_cases hji : j = 0
        · have hr2 := Lib.hid (x1 hji)
          clear x1 x2
          subst hji
          go_wp2
          go_ret
          exact ⟨by rw [show R = _ from hr2.out]; rfl, hFr⟩
        · have h1 : 0 < s.size := by omega
          have h2 : j - 1 < s.size := by omega
          obtain ⟨a, ha⟩ : ∃ a, s[0]'h1 = a := ⟨_, rfl⟩
          obtain ⟨b, hb⟩ : ∃ b, s[j - 1]'h2 = b := ⟨_, rfl⟩
          have hr2 := x2 (by omega) a b h1 h2 ha hb
          have HR2 := Lib.hid hr2
          clear x1 x2 hr2
          obtain ⟨J0, hJ0, hc0⟩ := white_any a
          obtain ⟨J1, hJ1, hc1⟩ := white_any b
          rw [← ha] at hc0
          rw [← hb] at hc1
          have HC0 := Lib.hid hc0
          have HC1 := Lib.hid hc1
          clear hc0 hc1 ha hb
          have hj3 : ((j : Int) - 1).toNat = j - 1 := by omega
          have hj0 : ((j : Int) == 0) = false := by rw [beq_eq_false_iff_ne]; omega
          cases hwa : wht a with
          | true =>
            rw [hwa] at hJ0
            have g0 : 0 ≤ J0 := of_decide_eq_true hJ0
            have HWA := Lib.hid hwa
            clear hJ0 hJ1 hwa
            go_wp2_with (go_at_call 98; refine (HC0.out _).mono ?_)
            rintro e w2 ⟨rfl, rfl⟩
            go_wp2
            go_ret
            exact ⟨by rw [show R = _ from HR2.out, HWA.out]; rfl, hFr⟩
          | false =>
            rw [hwa] at hJ0
            have g0 : J0 < 0 := by have := of_decide_eq_false hJ0; omega
            have HWA := Lib.hid hwa
            clear hwa
            cases hwb : wht b with
            | true =>
              rw [hwb] at hJ1
              have g1 : 0 ≤ J1 := of_decide_eq_true hJ1
              have HWB := Lib.hid hwb
              clear hJ1 hwb
              go_wp2_with (go_at_call 98; refine (HC0.out _).mono ?_)
              rintro e w2 ⟨rfl, rfl⟩
              go_wp2_with (go_at_call 98; refine (HC1.out _).mono ?_)
              rintro e w2 ⟨rfl, rfl⟩
              go_wp2
              go_ret
              exact ⟨by rw [show R = _ from HR2.out, HWA.out, HWB.out]; rfl, hFr⟩
            | false =>
              rw [hwb] at hJ1
              have g1 : J1 < 0 := by have := of_decide_eq_false hJ1; omega
              have HWB := Lib.hid hwb
              clear hwb
              go_wp2_with (go_at_call 98; refine (HC0.out _).mono ?_)
              rintro e w2 ⟨rfl, rfl⟩
              go_wp2_with (go_at_call 98; refine (HC1.out _).mono ?_)
              rintro e w2 ⟨rfl, rfl⟩
              go_wp2
              go_ret
              exact ⟨by rw [show R = _ from HR2.out, HWA.out, HWB.out]; rfl, hFr⟩
      · have q : (((s[j]'hlt).toNat : Int) == 42) = false := (u8_beq (s[j]'hlt) 42).trans (decide_eq_false h42)
        have hstep := fun q hq => scn_go (q := q) hlt hn h42 hq
        rw [hp] at hstep
        have hkl := skp_le (s[j]'hlt) (s.data.toList.drop (j + 1))
        rw [List.length_drop, HL.out] at hkl
        have HSTEP := Lib.hid hstep
        have HF1 := Lib.hid hFr
        have hrest := rest_list s (j + 1)
        clear hstep hn h42 hp HE HST hFr
        by_cases c92 : s[j]'hlt = 92
        · have q1 : (((s[j]'hlt).toNat : Int) == 92) = true := (u8_beq (s[j]'hlt) 92).trans (decide_eq_true c92)
          have hes := fun W : World => escaped_any (s.extract (j + 1) s.size) W
          have hpf := fun W : World => Tryd.strings_HasPrefix (s.extract (j + 1) s.size) ⟨#[10]⟩ W
          rw [hrest] at hes hpf
          have hsk : ∃ e1 e2 : Bool, esc (s.data.toList.drop (j + 1)) = e1 ∧ Lib.hasPrefix (s.data.toList.drop (j + 1)) (⟨#[10]⟩ : ByteArray).data.toList = e2 ∧ skp (s[j]'hlt) (s.data.toList.drop (j + 1)) = if e1 || e2 then 1 else 0 := by
            refine ⟨_, _, rfl, rfl, ?_⟩
            rw [c92]
            cases hdd : s.data.toList.drop (j + 1) with
            | nil => rfl
            | cons c r =>
              have := hasPrefix_cons c 10 r
              show _ = if sgn c || Lib.hasPrefix (c :: r) [10] then 1 else 0
              rw [this]
              simp [skp]
          obtain ⟨e1, e2, he1, he2, hskp⟩ := hsk
          rw [he1] at hes
          rw [he2] at hpf
          have HES := Lib.hid hes
          have HPF := Lib.hid hpf
          have HSK := Lib.hid hskp
          clear hes hpf he1 he2 hrest c92
          cases e1 with
          | true =>
            have hq1 := HSK.out
            obtain ⟨m, hm1, hm2⟩ := HSTEP.out 1 hq1
            have HM1 := Lib.hid hm1
            have HM2 := Lib.hid hm2
            rw [hq1] at hkl
            have hkl2 : 1 ≤ s.size - (j + 1) := hkl
            clear hm1 hm2 hq1 hkl
            go_wp2_with (go_at_call 77; refine (HES.out _).mono ?_)
            rintro e w2 ⟨rfl, hk2⟩
            have HK2 := Lib.hid hk2
            clear hk2
            go_wp2
            go_roundw
            case rel => exact ⟨HF1.out.tr HK2.out, j + 1 + 1, m, by simp, by omega, HM1.out, HM2.out.symm⟩
            case measure => simp [intOf]; omega
          | false =>
            cases e2 with
            | true =>
              have hq1 := HSK.out
              obtain ⟨m, hm1, hm2⟩ := HSTEP.out 1 hq1
              have HM1 := Lib.hid hm1
              have HM2 := Lib.hid hm2
              rw [hq1] at hkl
              have hkl2 : 1 ≤ s.size - (j + 1) := hkl
              clear hm1 hm2 hq1 hkl
              go_wp2_with (go_at_call 77; refine (HES.out _).mono ?_)
              rintro e w2 ⟨rfl, hk2⟩
              have HK2 := Lib.hid hk2
              clear hk2
              go_wp2_with (go_at_call 78; refine (HPF.out _).mono ?_)
              rintro e w3 ⟨rfl, rfl⟩
              go_wp2
              go_roundw
              case rel => exact ⟨HF1.out.tr HK2.out, j + 1 + 1, m, by simp, by omega, HM1.out, HM2.out.symm⟩
              case measure => simp [intOf]; omega
            | false =>
              have hq1 := HSK.out
              obtain ⟨m, hm1, hm2⟩ := HSTEP.out 0 hq1
              have HM1 := Lib.hid hm1
              have HM2 := Lib.hid hm2
              clear hm1 hm2 hq1 hkl
              go_wp2_with (go_at_call 77; refine (HES.out _).mono ?_)
              rintro e w2 ⟨rfl, hk2⟩
              have HK2 := Lib.hid hk2
              clear hk2
              go_wp2_with (go_at_call 78; refine (HPF.out _).mono ?_)
              rintro e w3 ⟨rfl, rfl⟩
              go_wp2
              go_roundw
              case rel => exact ⟨HF1.out.tr HK2.out, j + 1, m, by simp, by omega, HM1.out, HM2.out.symm⟩
              case measure => simp [intOf]; omega
        · have q1 : (((s[j]'hlt).toNat : Int) == 92) = false := (u8_beq (s[j]'hlt) 92).trans (decide_eq_false c92)
          by_cases c96 : s[j]'hlt = 96
          · have q2 : (((s[j]'hlt).toNat : Int) == 96) = true := (u8_beq (s[j]'hlt) 96).trans (decide_eq_true c96)
            have hskp : skp (s[j]'hlt) (s.data.toList.drop (j + 1)) = match fnd 96 (s.data.toList.drop (j + 1)) with | some k => k + 1 | none => 0 := by rw [c96]; rfl
            have hib : ∀ W : World, Calls Tryd.prog 98 #[.string (s.extract (j + 1) s.size), .int .u8 96] W fun e w' => e = .returned (.int .i64 (plc 0 (fnd 96 (s.data.toList.drop (j + 1))))) ∧ w' = W := fun W => by
              have h := Tryd.strings_IndexByte (s.extract (j + 1) s.size) 96 W
              rw [hrest, indexByte_fnd] at h
              exact h
            clear c96 c92 hrest
            cases hfd : fnd 96 (s.data.toList.drop (j + 1)) with
            | none =>
              rw [hfd] at hskp hib
              obtain ⟨m, hm1, hm2⟩ := HSTEP.out 0 hskp
              have HM1 := Lib.hid hm1
              have HM2 := Lib.hid hm2
              have hpl : plc 0 none = -1 := rfl
              rw [hpl] at hib
              have HIB := Lib.hid hib
              clear hm1 hm2 hskp hkl hfd hib hpl
              go_wp2_with (go_at_call 98; refine (HIB.out _).mono ?_)
              rintro e w2 ⟨rfl, rfl⟩
              go_wp2
              go_roundw
              case rel => exact ⟨HF1.out, j + 1, m, by simp, by omega, HM1.out, HM2.out.symm⟩
              case measure => simp [intOf]; omega
            | some k =>
              rw [hfd] at hskp hib
              obtain ⟨m, hm1, hm2⟩ := HSTEP.out (k + 1) hskp
              have HM1 := Lib.hid hm1
              have HM2 := Lib.hid hm2
              have hpl : plc 0 (some k) = (k : Nat) := by simp [plc]
              rw [hpl] at hib
              have HIB := Lib.hid hib
              rw [hskp] at hkl
              have hkl2 : k + 1 ≤ s.size - (j + 1) := hkl
              clear hm1 hm2 hskp hkl hfd hib hpl
              go_wp2_with (go_at_call 98; refine (HIB.out _).mono ?_)
              rintro e w2 ⟨rfl, rfl⟩
              go_wp2
              go_roundw
              case rel => exact ⟨HF1.out, j + 1 + (k + 1), m, by simp; omega, by omega, HM1.out, HM2.out.symm⟩
              case measure => simp [intOf]; omega
          · have q2 : (((s[j]'hlt).toNat : Int) == 96) = false := (u8_beq (s[j]'hlt) 96).trans (decide_eq_false c96)
            have hskp : skp (s[j]'hlt) (s.data.toList.drop (j + 1)) = 0 := by unfold skp; rw [if_neg c92, if_neg c96]
            obtain ⟨m, hm1, hm2⟩ := HSTEP.out 0 hskp
            have HM1 := Lib.hid hm1
            have HM2 := Lib.hid hm2
            clear hm1 hm2 hskp c92 hkl c96 hrest
            go_wp2
            go_roundw
            case rel => exact ⟨HF1.out, j + 1, m, by simp, by omega, HM1.out, HM2.out.symm⟩
            case measure => simp [intOf]; omega
    · have hr : D = none := by rw [← hp, drop_ge (by omega)]; rfl
      have hr2 := Lib.hid (HE.out.1 hr)
      clear hp hr hn HST
      go_wp2
      go_ret
      exact ⟨by rw [show R = _ from hr2.out]; rfl, hFr⟩
end Go.Proofs.YtbioecifiogffaaDoor
