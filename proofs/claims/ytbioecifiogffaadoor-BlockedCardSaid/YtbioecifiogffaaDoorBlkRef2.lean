/- proseref.level, item, starts: what they give. Condition: the text has at most 2^40 bytes. -/
import Derived.Test.YtbioecifiogffaaDoorBlkRef1
namespace Go.Proofs.YtbioecifiogffaaDoor
open Go.RowKit

theorem hsh_step {s : ByteArray} {n : Nat} (hn : n < s.size) (h : s[n]'hn = 35) : hsh (s.data.toList.drop n) = hsh (s.data.toList.drop (n + 1)) + 1 := by
  rw [drop_lt hn]
  conv => lhs; unfold hsh
  rw [if_pos h]
theorem hsh_stop {s : ByteArray} {n : Nat} (h : ∀ hn : n < s.size, s[n]'hn ≠ 35) : hsh (s.data.toList.drop n) = 0 := by
  by_cases hn : n < s.size
  · rw [drop_lt hn]
    unfold hsh
    rw [if_neg (h hn)]
  · rw [drop_ge (by omega)]
    rfl
theorem lvl_few {s : List UInt8} (h : hsh s < 1 ∨ 3 < hsh s) : lvl s = 0 := by unfold lvl; rw [if_pos h]
theorem lvl_end {s : ByteArray} (h1 : 1 ≤ hsh s.data.toList) (h3 : hsh s.data.toList ≤ 3) (he : s.size ≤ hsh s.data.toList) : lvl s.data.toList = hsh s.data.toList := by
  unfold lvl
  rw [if_neg (by omega), drop_ge he]
theorem lvl_at {s : ByteArray} (h1 : 1 ≤ hsh s.data.toList) (h3 : hsh s.data.toList ≤ 3) (hn : hsh s.data.toList < s.size) : lvl s.data.toList = if bl (s[hsh s.data.toList]'hn) then hsh s.data.toList else 0 := by
  conv => lhs; unfold lvl
  rw [if_neg (by omega), drop_lt hn]

set_option maxHeartbeats 4000000 in
theorem level_any (s : ByteArray) (w : World) (hs : s.size ≤ 1099511627776) : Calls Tryd.prog 29 #[.string s] w fun e w' => e = .returned (.int .i64 (lvl s.data.toList)) ∧ Fresh w w' := by
  obtain ⟨R, hR⟩ : ∃ R, R = lvl s.data.toList := ⟨_, rfl⟩
  rw [← hR]
  have h0 : 0 + hsh (s.data.toList.drop 0) = hsh s.data.toList := by rw [List.drop_zero]; omega
  have H0 := Lib.hid h0
  have HR := Lib.hid hR
  clear hR h0
  go_enter Tryd.func29, Tryd.ntmps29
  go_wp2
  go_loopw [3] (fun i wr => ∃ j : Nat, i = .int .i64 j ∧ j ≤ s.size ∧ j + hsh (s.data.toList.drop j) = hsh s.data.toList ∧ Fresh w wr) (fun i _ => s.size - (intOf i).toNat)
  case atStart => exact ⟨0, rfl, Nat.zero_le _, H0.out, Keeps.refl _ _⟩
  case round =>
    obtain ⟨j, rfl, hj, hr, hF⟩ := hrel
    by_cases hlt : j < s.size
    · by_cases h35 : s[j]'hlt = 35
      · have q : (((s[j]'hlt).toNat : Int) == 35) = true := (u8_beq (s[j]'hlt) 35).trans (decide_eq_true h35)
        rw [hsh_step hlt h35] at hr
        have hr2 : j + 1 + hsh (s.data.toList.drop (j + 1)) = hsh s.data.toList := by omega
        have HR2 := Lib.hid hr2
        clear hr hr2 h35
        go_wp2
        go_roundw
        case rel => exact ⟨j + 1, by go_num, by omega, HR2.out, hF⟩
        case measure => simp [intOf]; omega
      · have q : (((s[j]'hlt).toNat : Int) == 35) = false := (u8_beq (s[j]'hlt) 35).trans (decide_eq_false h35)
        rw [hsh_stop (fun _ => h35), Nat.add_zero] at hr
        subst hr
        clear h35
        by_cases h1 : hsh s.data.toList < 1
        · have hl := lvl_few (.inl h1)
          have hv : R = 0 := HR.out.trans hl
          have HV := Lib.hid hv
          generalize hsh s.data.toList = n at *
          clear hl hv
          go_wp2
          go_ret
          exact ⟨by rw [HV.out]; rfl, hF⟩
        · have h1' : 1 ≤ hsh s.data.toList := by omega
          by_cases h3 : 3 < hsh s.data.toList
          · have hl := lvl_few (.inr h3)
            have hv : R = 0 := HR.out.trans hl
            have HV := Lib.hid hv
            generalize hsh s.data.toList = n at *
            clear hl hv h1
            go_wp2
            go_ret
            exact ⟨by rw [HV.out]; rfl, hF⟩
          · have h3' : hsh s.data.toList ≤ 3 := by omega
            have hl := lvl_at h1' h3' hlt
            generalize hsh s.data.toList = n at *
            obtain ⟨c, hc⟩ : ∃ c, s[n]'hlt = c := ⟨_, rfl⟩
            rw [hc, bl_eq] at hl
            rw [hc] at q
            by_cases c1 : c = 32
            · subst c1
              have hv : R = n := by rw [HR.out, hl]; rfl
              have HV := Lib.hid hv
              have i1 : (1 : Int) ≤ n := by omega
              have i2 : (n : Int) ≤ 3 := by omega
              clear hl hv h1 h3
              go_wp2
              go_ret
              exact ⟨by rw [HV.out]; rfl, hF⟩
            · have q1 : ((c.toNat : Int) == 32) = false := (u8_beq c 32).trans (decide_eq_false c1)
              have q1' : ((c.toNat : Int) != 32) = true := by unfold bne; rw [q1]; rfl
              rw [decide_eq_false c1] at hl
              by_cases c2 : c = 9
              · subst c2
                have hv : R = n := by rw [HR.out, hl]; rfl
                have HV := Lib.hid hv
                clear hl hv h1 h3
                go_wp2
                go_ret
                exact ⟨by rw [HV.out]; rfl, hF⟩
              · have q2 : ((c.toNat : Int) == 9) = false := (u8_beq c 9).trans (decide_eq_false c2)
                have q2' : ((c.toNat : Int) != 9) = true := by unfold bne; rw [q2]; rfl
                rw [decide_eq_false c2] at hl
                have hv : R = 0 := by rw [HR.out, hl]; rfl
                have HV := Lib.hid hv
                clear hl hv h1 h3 c1 c2
                go_wp2

                go_ret
                exact ⟨by rw [HV.out]; rfl, hF⟩
    · obtain rfl : j = s.size := by omega
      rw [hsh_stop (fun h => absurd h hlt), Nat.add_zero] at hr
      by_cases h1 : s.size < 1
      · have hv : R = 0 := HR.out.trans (lvl_few (.inl (by omega)))
        have HV := Lib.hid hv
        clear hr hv hj
        go_wp2
        go_ret
        exact ⟨by rw [HV.out]; rfl, hF⟩
      · by_cases h3 : 3 < s.size
        · have hv : R = 0 := HR.out.trans (lvl_few (.inr (by omega)))
          have HV := Lib.hid hv
          clear hr hv hj
          go_wp2
          go_ret
          exact ⟨by rw [HV.out]; rfl, hF⟩
        · have hv : R = s.size := by rw [HR.out, lvl_end (by omega) (by omega) (by omega), hr]
          have HV := Lib.hid hv
          have i1 : (1 : Int) ≤ s.size := by omega
          have i2 : (s.size : Int) ≤ 3 := by omega
          clear hr hv hj h1 h3
          go_wp2
          go_ret
          exact ⟨by rw [HV.out]; rfl, hF⟩

theorem isFen_pre (l : List UInt8) : Lib.hasPrefix l [96, 96, 96] = isFen l := by
  unfold Lib.hasPrefix isFen
  match l with
  | [] => rfl
  | [a] => simp [List.isPrefixOf]
  | [a, b] => simp [List.isPrefixOf]
  | a :: b :: c :: t =>
    by_cases h1 : a = 96
    · by_cases h2 : b = 96
      · by_cases h3 : c = 96
        · subst h1 h2 h3; simp
        · have : ¬ 96 = c := fun e => h3 e.symm
          simp [List.isPrefixOf, h1, h2, h3, this]
      · have : ¬ 96 = b := fun e => h2 e.symm
        simp [List.isPrefixOf, h1, h2, this]
    · have : ¬ 96 = a := fun e => h1 e.symm
      simp [List.isPrefixOf, h1, this]
theorem isQuo_pre (l : List UInt8) : Lib.hasPrefix l [62] = isQuo l := by
  cases l with
  | nil => rfl
  | cons a t =>
    rw [hasPrefix_cons]
    unfold isQuo
    by_cases h : a = 62
    · subst h; simp
    · simp [h]
theorem isInd_pre (l : List UInt8) : Lib.hasPrefix l [32, 32] = isInd l := by
  unfold Lib.hasPrefix isInd
  match l with
  | [] => rfl
  | [a] => simp [List.isPrefixOf]
  | a :: b :: t =>
    by_cases h1 : a = 32
    · by_cases h2 : b = 32
      · subst h1 h2; simp
      · have : ¬ 32 = b := fun e => h2 e.symm
        simp [List.isPrefixOf, h1, h2, this]
    · have : ¬ 32 = a := fun e => h1 e.symm
      simp [List.isPrefixOf, h1, this]
theorem isItm_pre (l : List UInt8) : isItm l = ((l == [45]) || (Lib.hasPrefix l [45, 32] || Lib.hasPrefix l [45, 9])) := by
  unfold Lib.hasPrefix isItm
  match l with
  | [] => rfl
  | [a] =>
    by_cases h : a = 45
    · subst h; simp
    · simp [List.isPrefixOf, h]
  | a :: b :: t =>
    by_cases h : a = 45
    · subst h
      simp only [bl_eq]
      by_cases h1 : b = 32
      · subst h1; simp [List.isPrefixOf]
      · by_cases h2 : b = 9
        · subst h2; simp [List.isPrefixOf]
        · have e1 : ¬ 32 = b := fun e => h1 e.symm
          have e2 : ¬ 9 = b := fun e => h2 e.symm
          simp [List.isPrefixOf, h1, h2, e1, e2]
    · have e1 : ¬ 45 = a := fun e => h e.symm
      simp [List.isPrefixOf, h, e1]

set_option maxHeartbeats 2000000 in
theorem ritem_any (s : ByteArray) (w : World) (hs : s.size ≤ 1099511627776) : Calls Tryd.prog 50 #[.string s] w fun e w' => e = .returned (.bool (isItm s.data.toList)) ∧ Fresh w w' := by
  have h1 := fun W : World => begins_any s ⟨#[45, 32]⟩ W hs (by decide)
  have h2 := fun W : World => begins_any s ⟨#[45, 9]⟩ W hs (by decide)
  have hi := isItm_pre s.data.toList
  rw [show (⟨#[45, 32]⟩ : ByteArray).data.toList = [45, 32] from rfl] at h1
  rw [show (⟨#[45, 9]⟩ : ByteArray).data.toList = [45, 9] from rfl] at h2
  obtain ⟨R, hR⟩ : ∃ R, isItm s.data.toList = R := ⟨_, rfl⟩
  rw [hR] at hi ⊢
  generalize Lib.hasPrefix s.data.toList [45, 32] = b1 at *
  generalize Lib.hasPrefix s.data.toList [45, 9] = b2 at *
  have HI := Lib.hid hi
  have H1 := Lib.hid h1
  have H2 := Lib.hid h2
  have hq : (s.toList == [45]) = (s.data.toList == [45]) := by rw [ByteArray.toList_eq]
  clear hi h1 h2 hR
  cases h0 : (s.data.toList == [45]) with
  | true =>
    rw [h0] at hq
    have hv : R = true := by rw [HI.out, h0]; rfl
    have HV := Lib.hid hv
    clear hv h0
    go_enter Tryd.func50, Tryd.ntmps50
    go_wp2
    go_ret
    exact ⟨by rw [HV.out]; rfl, Keeps.refl _ _⟩
  | false =>
    rw [h0] at hq
    have hv : R = (b1 || b2) := by rw [HI.out, h0]; rfl
    have HV := Lib.hid hv
    clear hv h0
    cases b1 with
    | true =>
      go_enter Tryd.func50, Tryd.ntmps50
      go_wp2_with fail
      refine (H1.out _).mono ?_
      rintro r w2 ⟨rfl, hk2⟩
      have HK2 := Lib.hid hk2
      clear hk2
      go_wp2
      go_ret
      exact ⟨by rw [HV.out]; rfl, HK2.out⟩
    | false =>
      go_enter Tryd.func50, Tryd.ntmps50
      go_wp2_with fail
      refine (H1.out _).mono ?_
      rintro r w2 ⟨rfl, hk2⟩
      have HK2 := Lib.hid hk2
      clear hk2
      go_wp2_with fail
      refine (H2.out _).mono ?_
      rintro r w3 ⟨rfl, hk3⟩
      have HK3 := Lib.hid (HK2.out.tr hk3)
      clear hk3
      go_wp2
      go_ret
      exact ⟨by rw [HV.out]; rfl, HK3.out⟩

set_option maxHeartbeats 2000000 in
theorem starts_any (s : ByteArray) (d : Nat) (w : World) (hs : s.size ≤ 1099511627776) (hd : d ≤ 1000) : Calls Tryd.prog 27 #[.string s, .int .i64 d] w fun e w' => e = .returned (.int .i64 (sta s.data.toList d)) ∧ Fresh w w' := by
  have h1 := fun W : World => begins_any s ⟨#[96, 96, 96]⟩ W hs (by decide)
  have h2 := fun W : World => level_any s W hs
  have h3 := fun W : World => begins_any s ⟨#[62]⟩ W hs (by decide)
  have h4 := fun W : World => ritem_any s W hs
  rw [show (⟨#[96, 96, 96]⟩ : ByteArray).data.toList = [96, 96, 96] from rfl, isFen_pre] at h1
  rw [show (⟨#[62]⟩ : ByteArray).data.toList = [62] from rfl, isQuo_pre] at h3
  have hl := (lvl_le s.data.toList).1
  obtain ⟨R, hR⟩ : ∃ R, R = sta s.data.toList d := ⟨_, rfl⟩
  rw [← hR]
  unfold sta at hR
  generalize isFen s.data.toList = b1 at *
  generalize lvl s.data.toList = l at *
  generalize isQuo s.data.toList = b3 at *
  generalize isItm s.data.toList = b4 at *
  have H1 := Lib.hid h1
  have H2 := Lib.hid h2
  have H3 := Lib.hid h3
  have H4 := Lib.hid h4
  have HR := Lib.hid hR
  clear h1 h2 h3 h4 hR
  have hfin : (b1 = true ∧ R = 2) ∨ (b1 = false ∧ 0 < l ∧ R = 3) ∨ (b1 = false ∧ l = 0 ∧ b3 = true ∧ d < 3 ∧ R = 4) ∨ (b1 = false ∧ l = 0 ∧ b3 = false ∧ b4 = true ∧ d < 3 ∧ R = 5) ∨ (b1 = false ∧ l = 0 ∧ 3 ≤ d ∧ R = 0) ∨ (b1 = false ∧ l = 0 ∧ b3 = false ∧ b4 = false ∧ d < 3 ∧ R = 0) := by
    have := HR.out
    cases b1 with
    | true => exact .inl ⟨rfl, by simpa using this⟩
    | false =>
      rcases Nat.eq_zero_or_pos l with rfl | hl0
      · rcases Nat.lt_or_ge d 3 with hd3 | hd3
        · cases b3 with
          | true => exact .inr (.inr (.inl ⟨rfl, rfl, rfl, hd3, by simpa [hd3] using this⟩))
          | false =>
            cases b4 with
            | true => exact .inr (.inr (.inr (.inl ⟨rfl, rfl, rfl, rfl, hd3, by simpa [hd3] using this⟩)))
            | false => exact .inr (.inr (.inr (.inr (.inr ⟨rfl, rfl, rfl, rfl, hd3, by simpa [hd3] using this⟩))))
        · have hn : ¬ d < 3 := by omega
          exact .inr (.inr (.inr (.inr (.inl ⟨rfl, rfl, hd3, by simpa [hn] using this⟩))))
      · exact .inr (.inl ⟨rfl, hl0, by simpa [hl0] using this⟩)
  have HC := Lib.hid hfin
  clear hfin
  rcases HC.out with ⟨rfl, hv⟩ | ⟨rfl, hl0, hv⟩ | ⟨rfl, rfl, rfl, hd3, hv⟩ | ⟨rfl, rfl, rfl, rfl, hd3, hv⟩ | ⟨rfl, rfl, hd3, hv⟩ | ⟨rfl, rfl, rfl, rfl, hd3, hv⟩
  all_goals
    have HV := Lib.hid hv
    clear hv
    go_enter Tryd.func27, Tryd.ntmps27
    go_wp2_with fail
    refine (H1.out _).mono ?_
    rintro r w2 ⟨rfl, hk2⟩
    have HK2 := Lib.hid hk2
    clear hk2
    go_wp2_with fail
    refine (H2.out _).mono ?_
    rintro r w3 ⟨rfl, hk3⟩
    have HK3 := Lib.hid (HK2.out.tr hk3)
    clear hk3
    go_wp2_with fail
    refine (H3.out _).mono ?_
    rintro r w4 ⟨rfl, hk4⟩
    have HK4 := Lib.hid (HK3.out.tr hk4)
    clear hk4
    go_wp2_with fail
    refine (H4.out _).mono ?_
    rintro r w5 ⟨rfl, hk5⟩
    have HK5 := Lib.hid (HK4.out.tr hk5)
    clear hk5
    go_wp2
    all_goals
      go_ret
      exact ⟨by rw [HV.out]; rfl, HK5.out⟩
end Go.Proofs.YtbioecifiogffaaDoor
