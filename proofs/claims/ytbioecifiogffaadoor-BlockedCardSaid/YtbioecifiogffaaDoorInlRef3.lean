/- proseref.partner: what it gives, on lists of bytes. Condition: the text has at most 2^40 bytes. -/
import Derived.Test.YtbioecifiogffaaDoorInlRef2
namespace Go.Proofs.YtbioecifiogffaaDoor
open Go.RowKit

/-- One step on the way to the partner. -/
theorem scn_go {s : ByteArray} {j n q : Nat} (hj : j < s.size) (hn : (s.data.toList.drop j).length ≤ n) (h42 : ¬ s[j]'hj = 42) (hq : skp (s[j]'hj) (s.data.toList.drop (j + 1)) = q) :
    ∃ m, (s.data.toList.drop (j + 1 + q)).length ≤ m ∧ (scn (n + 1) (s.data.toList.drop j)).map (j + ·) = (scn (m + 1) (s.data.toList.drop (j + 1 + q))).map (j + 1 + q + ·) := by
  rw [drop_lt hj] at hn ⊢
  obtain ⟨n, rfl⟩ : ∃ k, n = k + 1 := ⟨n - 1, by simp only [List.length_cons] at hn; omega⟩
  refine ⟨n, ?_, ?_⟩
  · simp only [List.length_cons, List.length_drop] at hn ⊢
    omega
  · simp only [scn, if_neg h42, hq, List.drop_drop, Option.map_map]
    congr 1
    funext x
    simp
    omega

theorem wht_eqs (x : UInt8) : ∃ p q r : Bool, (((x.toNat : Int)) == 32) = p ∧ (((x.toNat : Int)) == 9) = q ∧ (((x.toNat : Int)) == 10) = r ∧ wht x = (p || q || r) :=
  ⟨_, _, _, u8_beq x 32, u8_beq x 9, u8_beq x 10, rfl⟩

theorem skp_le (b : UInt8) (t : List UInt8) : skp b t ≤ t.length := by
  unfold skp
  split
  · split
    · simp
    · split <;> simp
  · split
    · split
      · rename_i k hk
        exact fnd_lt hk
      · simp
    · simp

set_option maxHeartbeats 4000000 in
set_option maxRecDepth 100000 in
theorem partner_any (s : ByteArray) (i : Nat) (t : List UInt8) (w : World) (hd : s.data.toList.drop i = 42 :: t) (hs : s.size ≤ 1099511627776) :
    Calls Tryd.prog 45 #[.string s, .int .i64 i] w fun e w' => e = .returned (.int .i64 (plc (i + 1) (str t))) ∧ Fresh w w' := by
  obtain ⟨hi, _, ht⟩ := drop_cons hd
  obtain ⟨R, hR⟩ : ∃ R, R = plc (i + 1) (str t) := ⟨_, rfl⟩
  rw [← hR]
  have hfind : ∀ (j : Nat) (W : World), j + 1 ≤ s.size → _ := fun j W h => find_any s 96 (j + 1) W h hs
  obtain ⟨D, hD⟩ : ∃ D, D = (scn (t.length + 1) t).map (i + 1 + ·) := ⟨_, rfl⟩
  have hend : (D = none → R = -1) ∧ (∀ j (hj : j < s.size), D = some j → i + 1 ≤ j ∧ (j = i + 1 → R = -1) ∧ (i + 1 < j → ∀ (a b : UInt8) (h1 : i + 1 < s.size) (h2 : j - 1 < s.size), s[i + 1]'h1 = a → s[j - 1]'h2 = b → R = if wht a || wht b then (-1 : Int) else (j : Int))) := by
    unfold str at hR
    cases hsc : scn (t.length + 1) t with
    | none =>
      rw [hsc] at hR hD
      exact ⟨fun _ => hR, fun j _ h => by rw [hD] at h; cases h⟩
    | some n =>
      rw [hsc] at hR hD
      refine ⟨fun h => (by rw [hD] at h; cases h), fun j hj h => ?_⟩
      obtain rfl : i + 1 + n = j := by rw [hD] at h; simpa using h
      refine ⟨by omega, fun h => ?_, fun h a b h1 h2 ha hb => ?_⟩
      · obtain rfl : n = 0 := by omega
        simpa [plc] using hR
      · have hn : ¬ n = 0 := by omega
        have e1 : t.headD 0 = a := by rw [← ht, drop_lt h1, ha]; rfl
        have e2 : t.getD (n - 1) 0 = b := by
          have h3 : i + 1 + n - 1 = i + 1 + (n - 1) := by omega
          rw [← ht, List.getD_eq_getElem?_getD, List.getElem?_drop]
          have h4 : i + 1 + (n - 1) < s.data.toList.length := by simp; omega
          rw [List.getElem?_eq_getElem h4]
          rw [← hb]
          simp [h3, ByteArray.getElem_eq_getElem_data]
        simp only [e1, e2, hn, false_or] at hR
        rw [hR]
        cases wht a <;> cases wht b <;> simp [plc]
  have hlen : t.length = s.size - (i + 1) := by rw [← ht]; simp
  have hst : (s.data.toList.drop (i + 1)).length ≤ t.length ∧ (scn (t.length + 1) (s.data.toList.drop (i + 1))).map (i + 1 + ·) = D := by rw [ht, hD]; exact ⟨Nat.le_refl _, rfl⟩
  have HF := Lib.hid hfind
  have HE := Lib.hid hend
  have HST := Lib.hid hst
  clear hfind hend hst
  clear hR hD hd ht
  go_enter Tryd.func45, Tryd.ntmps45
  go_wp2
  go_loopw [5] (fun p wr => Fresh w wr ∧ ∃ j n : Nat, p = .int .i64 j ∧ i + 1 ≤ j ∧ j ≤ s.size ∧ (s.data.toList.drop j).length ≤ n ∧ (scn (n + 1) (s.data.toList.drop j)).map (j + ·) = D) (fun p _ => s.size - (intOf p).toNat)
  case atStart => exact ⟨Keeps.refl _ _, i + 1, t.length, by simp, Nat.le_refl _, by omega, HST.out.1, HST.out.2⟩
  case round =>
    obtain ⟨hFr, j, n, rfl, hj1, hj2, hn, hp⟩ := hrel
    by_cases hlt : j < s.size
    · by_cases h42 : s[j]'hlt = 42
      · have q : (((s[j]'hlt).toNat : Int) != 42) = false := (u8_ne (s[j]'hlt) 42).trans (decide_eq_false (fun h => h h42))
        have hr : D = some j := by rw [← hp, drop_lt hlt]; simp [scn, h42]
        obtain ⟨_, x1, x2⟩ := HE.out.2 j hlt hr
        clear hp hr hn h42 HST
        by_cases hji : j = i + 1
        · have hr2 := Lib.hid (x1 hji)
          clear x1 x2
          subst hji
          go_wp2
          go_ret
          exact ⟨by rw [show R = _ from hr2.out]; rfl, hFr⟩
        · have h1 : i + 1 < s.size := by omega
          have h2 : j - 1 < s.size := by omega
          obtain ⟨a, ha⟩ : ∃ a, s[i + 1]'h1 = a := ⟨_, rfl⟩
          obtain ⟨b, hb⟩ : ∃ b, s[j - 1]'h2 = b := ⟨_, rfl⟩
          have hr2 := x2 (by omega) a b h1 h2 ha hb
          have HR2 := Lib.hid hr2
          clear x1 x2 hr2
          obtain ⟨p1, p2, p3, y1, y2, y3, hwa⟩ := wht_eqs a
          obtain ⟨r1, r2, r3, z1, z2, z3, hwb⟩ := wht_eqs b
          rw [← ha] at y1 y2 y3
          rw [← hb] at z1 z2 z3
          have HWA := Lib.hid hwa
          have HWB := Lib.hid hwb
          clear ha hb hwa hwb
          have hjj : ((j : Int) == (i : Int) + 1) = false := by rw [beq_eq_false_iff_ne]; omega
          have hj0 : 0 ≤ (j : Int) - 1 := by omega
          have hj3 : ((j : Int) - 1).toNat = j - 1 := by omega
          cases p1
          · cases p2
            · cases p3
              · cases r1
                · cases r2
                  · cases r3
                    · go_wp2
                      go_ret
                      exact ⟨by rw [show R = _ from HR2.out, HWA.out, HWB.out]; rfl, hFr⟩
                    · go_wp2
                      go_ret
                      exact ⟨by rw [show R = _ from HR2.out, HWA.out, HWB.out]; rfl, hFr⟩
                  · go_wp2
                    go_ret
                    exact ⟨by rw [show R = _ from HR2.out, HWA.out, HWB.out]; rfl, hFr⟩
                · go_wp2
                  go_ret
                  exact ⟨by rw [show R = _ from HR2.out, HWA.out, HWB.out]; rfl, hFr⟩
              · go_wp2
                go_ret
                exact ⟨by rw [show R = _ from HR2.out, HWA.out, HWB.out]; rfl, hFr⟩
            · go_wp2
              go_ret
              exact ⟨by rw [show R = _ from HR2.out, HWA.out, HWB.out]; rfl, hFr⟩
          · go_wp2
            go_ret
            exact ⟨by rw [show R = _ from HR2.out, HWA.out, HWB.out]; rfl, hFr⟩
      · have q : (((s[j]'hlt).toNat : Int) != 42) = true := (u8_ne (s[j]'hlt) 42).trans (decide_eq_true h42)
        have hstep := fun q hq => scn_go (q := q) hlt hn h42 hq
        rw [hp] at hstep
        have hkl := skp_le (s[j]'hlt) (s.data.toList.drop (j + 1))
        rw [List.length_drop] at hkl
        have hle : s.data.toList.length = s.size := by simp
        rw [hle] at hkl
        have HSTEP := Lib.hid hstep
        have HN := Lib.hid hn
        have H42 := Lib.hid h42
        clear hstep hn h42 hp hle HE HST
        go_wp2_with (go_at_call 42; refine (HF.out j _ (by omega)).mono ?_)
        rintro e w1 ⟨rfl, hk1⟩
        have hF1 := hFr.tr hk1
        clear hFr hk1
        have HF1 := Lib.hid hF1
        clear hF1
        by_cases c92 : s[j]'hlt = 92
        · have q1 : (((s[j]'hlt).toNat : Int) == 92) = true := (u8_beq (s[j]'hlt) 92).trans (decide_eq_true c92)
          have q2 : (((s[j]'hlt).toNat : Int) == 96) = false := (u8_beq (s[j]'hlt) 96).trans (decide_eq_false (by rw [c92]; decide))
          by_cases h1 : j + 1 < s.size
          · have hskp : skp (s[j]'hlt) (s.data.toList.drop (j + 1)) = if sgn (s[j + 1]'h1) || s[j + 1]'h1 = 10 then 1 else 0 := by
              rw [drop_lt h1, c92]
              simp [skp]
            have HSK := Lib.hid hskp
            have hsg := fun W : World => sign_any (s[j + 1]'h1) W
            have e10 : (((s[j + 1]'h1).toNat : Int) == 10) = decide (s[j + 1]'h1 = 10) := u8_beq _ 10
            clear hskp c92 hkl
            generalize sgn (s[j + 1]'h1) = sg at *
            generalize decide (s[j + 1]'h1 = 10) = b10 at *
            have HSG := Lib.hid hsg
            clear hsg
            go_wp2_with (go_at_call 41; refine (HSG.out _).mono ?_)
            rintro e w2 ⟨rfl, hk2⟩
            have HF2 := Lib.hid (HF1.out.tr hk2)
            clear hk2
            cases sg
            · cases b10
              · obtain ⟨m, hm1, hm2⟩ := HSTEP.out 0 (by rw [HSK.out]; rfl)
                have HM1 := Lib.hid hm1
                have HM2 := Lib.hid hm2
                clear hm1 hm2
                go_wp2
                go_roundw
                case rel => exact ⟨HF2.out, j + 1, m, rfl, by omega, by omega, HM1.out, HM2.out.symm⟩
                case measure => simp [intOf]; omega
              · obtain ⟨m, hm1, hm2⟩ := HSTEP.out 1 (by rw [HSK.out]; rfl)
                have HM1 := Lib.hid hm1
                have HM2 := Lib.hid hm2
                clear hm1 hm2
                go_wp2
                go_roundw
                case rel => exact ⟨HF2.out, j + 1 + 1, m, by simp; omega, by omega, by omega, HM1.out, HM2.out.symm⟩
                case measure => simp [intOf]; omega
            · obtain ⟨m, hm1, hm2⟩ := HSTEP.out 1 (by rw [HSK.out]; rfl)
              have HM1 := Lib.hid hm1
              have HM2 := Lib.hid hm2
              clear hm1 hm2
              go_wp2
              go_roundw
              case rel => exact ⟨HF2.out, j + 1 + 1, m, by simp; omega, by omega, by omega, HM1.out, HM2.out.symm⟩
              case measure => simp [intOf]; omega
          · have hskp : skp (s[j]'hlt) (s.data.toList.drop (j + 1)) = 0 := by
              rw [drop_ge (by omega), c92]
              simp [skp]
            obtain ⟨m, hm1, hm2⟩ := HSTEP.out 0 hskp
            have HM1 := Lib.hid hm1
            have HM2 := Lib.hid hm2
            clear hm1 hm2 hskp c92 hkl
            go_wp2
            go_roundw
            case rel => exact ⟨HF1.out, j + 1, m, rfl, by omega, by omega, HM1.out, HM2.out.symm⟩
            case measure => simp [intOf]; omega
        · have q1 : (((s[j]'hlt).toNat : Int) == 92) = false := (u8_beq (s[j]'hlt) 92).trans (decide_eq_false c92)
          by_cases c96 : s[j]'hlt = 96
          · have q2 : (((s[j]'hlt).toNat : Int) == 96) = true := (u8_beq (s[j]'hlt) 96).trans (decide_eq_true c96)
            have hskp : skp (s[j]'hlt) (s.data.toList.drop (j + 1)) = match fnd 96 (s.data.toList.drop (j + 1)) with | some k => k + 1 | none => 0 := by rw [c96]; rfl
            clear c96 c92
            cases hfd : fnd 96 (s.data.toList.drop (j + 1)) with
            | none =>
              rw [hfd] at hskp
              obtain ⟨m, hm1, hm2⟩ := HSTEP.out 0 hskp
              have HM1 := Lib.hid hm1
              have HM2 := Lib.hid hm2
              have hpl : plc (j + 1) none = -1 := rfl
              clear hm1 hm2 hskp hkl hfd
              rw [hpl]
              go_wp2
              go_roundw
              case rel => exact ⟨HF1.out, j + 1, m, rfl, by omega, by omega, HM1.out, HM2.out.symm⟩
              case measure => simp [intOf]; omega
            | some k =>
              rw [hfd] at hskp
              obtain ⟨m, hm1, hm2⟩ := HSTEP.out (k + 1) hskp
              have HM1 := Lib.hid hm1
              have HM2 := Lib.hid hm2
              have hpl : plc (j + 1) (some k) = (j + 1 + k : Nat) := rfl
              rw [hskp] at hkl
              have hkl2 : k + 1 ≤ s.size - (j + 1) := hkl
              clear hm1 hm2 hskp hkl hfd
              rw [hpl]
              go_wp2
              go_roundw
              case rel => exact ⟨HF1.out, j + 1 + (k + 1), m, by simp; omega, by omega, by omega, HM1.out, HM2.out.symm⟩
              case measure => simp [intOf]; omega
          · have q2 : (((s[j]'hlt).toNat : Int) == 96) = false := (u8_beq (s[j]'hlt) 96).trans (decide_eq_false c96)
            have hskp : skp (s[j]'hlt) (s.data.toList.drop (j + 1)) = 0 := by unfold skp; rw [if_neg c92, if_neg c96]
            obtain ⟨m, hm1, hm2⟩ := HSTEP.out 0 hskp
            have HM1 := Lib.hid hm1
            have HM2 := Lib.hid hm2
            clear hm1 hm2 hskp c92 hkl c96
            go_wp2
            go_roundw
            case rel => exact ⟨HF1.out, j + 1, m, rfl, by omega, by omega, HM1.out, HM2.out.symm⟩
            case measure => simp [intOf]; omega
    · have hr : D = none := by rw [← hp, drop_ge (by omega)]; rfl
      have hr2 := Lib.hid (HE.out.1 hr)
      clear hp hr hn HST
      go_wp2
      go_ret
      exact ⟨by rw [show R = _ from hr2.out]; rfl, hFr⟩
end Go.Proofs.YtbioecifiogffaaDoor
