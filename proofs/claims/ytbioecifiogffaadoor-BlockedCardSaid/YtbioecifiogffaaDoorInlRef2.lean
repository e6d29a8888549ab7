/- proseref.link, partner: what they give, on lists of bytes. Condition: the text has at most 2^40 bytes. -/
import Derived.Test.YtbioecifiogffaaDoorInlRef1
namespace Go.Proofs.YtbioecifiogffaaDoor
open Go.RowKit

theorem u8_ne (a b : UInt8) : (((a.toNat : Int)) != (b.toNat : Int)) = decide (a ≠ b) := by
  unfold bne
  rw [u8_beq]
  by_cases h : a = b <;> simp [h]

theorem fnd_take {c : UInt8} {t : List UInt8} (a : Nat) : (fnd c (t.take a)).isSome = true ↔ ∃ b, fnd c t = some b ∧ b < a := by
  induction t generalizing a with
  | nil => simp [fnd]
  | cons x r ih =>
    cases a with
    | zero => simp [fnd]
    | succ a =>
      rw [List.take_succ_cons]
      simp only [fnd]
      by_cases h : x = c
      · simp [h]
      · rw [if_neg h, if_neg h]
        have := ih a
        cases h1 : fnd c (r.take a) <;> cases h2 : fnd c r <;> simp [h1, h2] at this ⊢ <;> omega

def lres (i : Nat) : Option (Nat × Nat) → Value
  | some (k, m) => .tuple #[.int .i64 (i + 1 + k : Nat), .int .i64 (i + 1 + k + 2 : Nat), .int .i64 (i + 1 + k + 2 + m : Nat), .bool true]
  | none => .tuple #[.int .i64 0, .int .i64 0, .int .i64 0, .bool false]

set_option maxHeartbeats 2000000 in
set_option maxRecDepth 100000 in
theorem link_any (s : ByteArray) (i : Nat) (t : List UInt8) (w : World) (hd : s.data.toList.drop i = 91 :: t) (hs : s.size ≤ 1099511627776) :
    Calls Tryd.prog 44 #[.string s, .int .i64 i] w fun e w' => e = .returned (lres i (lnk t)) ∧ Fresh w w' := by
  obtain ⟨hi, _, ht⟩ := drop_cons hd
  obtain ⟨R, hR⟩ : ∃ R, R = lres i (lnk t) := ⟨_, rfl⟩
  rw [← hR]
  have HF1 := Lib.hid (fun W : World => find_any s 93 i W (by omega) hs)
  have HF2 := Lib.hid (fun W : World => find_any s 91 (i + 1) W (by omega) hs)
  have e1 : fnd 93 (91 :: t) = (fnd 93 t).map (· + 1) := rfl
  have key : ∀ (J K : Int), J = plc i (fnd 93 (s.data.toList.drop i)) → K = plc (i + 1) (fnd 91 (s.data.toList.drop (i + 1))) →
      (R = lres i none ∧ (J < 0 ∨ (0 ≤ K ∧ K < J ∧ 0 ≤ J))) ∨ (∃ a : Nat, i + 1 + a < s.size ∧ J = (i + 1 + a : Nat) ∧ (K < 0 ∨ J ≤ K) ∧
        ((R = lres i none ∧ s.size ≤ i + 1 + a + 1) ∨ ∃ h : i + 1 + a + 1 < s.size, (R = lres i none ∧ s[i + 1 + a + 1]'h ≠ 40) ∨
          (s[i + 1 + a + 1]'h = 40 ∧ R = lres i ((dst (s.data.toList.drop (i + 1 + a + 2))).map fun m => (a, m))))) := by
    intro J K hJ hK
    rw [hd, e1] at hJ
    rw [ht] at hK
    unfold lnk at hR
    cases h1 : fnd 93 t with
    | none =>
      rw [h1] at hJ hR
      exact .inl ⟨hR, .inl (by rw [hJ]; simp [plc])⟩
    | some a =>
      rw [h1] at hJ hR
      have hJ' : J = (i + 1 + a : Nat) := by rw [hJ]; simp only [plc, Option.map_some]; omega
      have hal : i + 1 + a < s.size := by
        have h3 := fnd_lt h1
        have h4 : t.length = s.size - (i + 1) := by rw [← ht]; simp
        omega
      by_cases h2 : (fnd 91 (t.take a)).isSome = true
      · simp only [h2, if_true] at hR
        obtain ⟨b, hb, hba⟩ := (fnd_take a).1 h2
        rw [hb] at hK
        simp only [plc] at hK
        exact .inl ⟨hR, .inr ⟨by omega, by omega, by omega⟩⟩
      · simp only [h2] at hR
        refine .inr ⟨a, hal, hJ', ?_, ?_⟩
        · cases h3 : fnd 91 t with
          | none => rw [h3] at hK; left; rw [hK]; simp [plc]
          | some b =>
            rw [h3] at hK
            simp only [plc] at hK
            have : ¬ b < a := fun hlt => h2 ((fnd_take a).2 ⟨b, h3, hlt⟩)
            right; omega
        · have hdd : t.drop (a + 1) = s.data.toList.drop (i + 1 + a + 1) := by rw [← ht, List.drop_drop]; rfl
          rw [hdd] at hR
          by_cases h4 : i + 1 + a + 1 < s.size
          · refine .inr ⟨h4, ?_⟩
            rw [drop_lt h4] at hR
            simp only [Bool.false_eq_true, if_false] at hR
            by_cases h5 : s[i + 1 + a + 1]'h4 = 40
            · rw [if_pos h5] at hR
              exact .inr ⟨h5, hR⟩
            · rw [if_neg h5] at hR
              exact .inl ⟨hR, h5⟩
          · rw [drop_ge (by omega)] at hR
            simp only [Bool.false_eq_true, if_false] at hR
            exact .inl ⟨hR, by omega⟩
  clear hR hd ht e1
  have HK := Lib.hid key
  clear key
  go_enter Tryd.func44, Tryd.ntmps44
  go_wp2_with (go_at_call 42; refine (HF1.out _).mono ?_)
  rintro e w1 ⟨rfl, hk1⟩
  go_wp2_with (go_at_call 42; refine (HF2.out _).mono ?_)
  rintro e w2 ⟨rfl, hk2⟩
  have HKK := Lib.hid (hk1.tr hk2)
  have hkey := HK.out _ _ rfl rfl
  clear HF1 HF2 HK hk1 hk2
  generalize plc i (fnd 93 (s.data.toList.drop i)) = J at *
  generalize plc (i + 1) (fnd 91 (s.data.toList.drop (i + 1))) = K at *
  rcases hkey with ⟨hR, hJ | ⟨hK0, hKJ, hJ0⟩⟩ | ⟨a, hal, rfl, hK, ⟨hR, hlen⟩ | ⟨h4, ⟨hR, h5⟩ | ⟨h5, hR⟩⟩⟩
  · have H := Lib.hid hR
    clear hR
    go_wp2
    refine bodyPost_ret (v := .tuple #[.int .i64 0, .int .i64 0, .int .i64 0, .bool false]) (by simp [results, Tryd.results44, go_sem]) rfl ⟨by rw [show R = _ from H.out]; rfl, HKK.out⟩
  · have H := Lib.hid hR
    clear hR
    go_wp2
    refine bodyPost_ret (v := .tuple #[.int .i64 0, .int .i64 0, .int .i64 0, .bool false]) (by simp [results, Tryd.results44, go_sem]) rfl ⟨by rw [show R = _ from H.out]; rfl, HKK.out⟩
  · have H := Lib.hid hR
    clear hR
    rcases hK with hK | hK
    all_goals
      go_wp2
      refine bodyPost_ret (v := .tuple #[.int .i64 0, .int .i64 0, .int .i64 0, .bool false]) (by simp [results, Tryd.results44, go_sem]) rfl ⟨by rw [show R = _ from H.out]; rfl, HKK.out⟩
  · have H := Lib.hid hR
    have e5 : (((s[i + 1 + a + 1]'h4).toNat : Int) != 40) = true := by rw [show ((40 : Int)) = ((40 : UInt8).toNat : Int) from rfl, u8_ne]; exact decide_eq_true h5
    clear hR h5
    rcases hK with hK | hK
    all_goals
      go_wp2
      refine bodyPost_ret (v := .tuple #[.int .i64 0, .int .i64 0, .int .i64 0, .bool false]) (by simp [results, Tryd.results44, go_sem]) rfl ⟨by rw [show R = _ from H.out]; rfl, HKK.out⟩
  · have e5 : (((s[i + 1 + a + 1]'h4).toNat : Int) != 40) = false := by rw [show ((40 : Int)) = ((40 : UInt8).toNat : Int) from rfl, u8_ne]; exact decide_eq_false (fun h => h h5)
    have hloop : ∀ D : Option Nat, D = (dst (s.data.toList.drop (i + 1 + a + 2))).map (i + 1 + a + 2 + ·) → R = match D with | some e => .tuple #[.int .i64 (i + 1 + a : Nat), .int .i64 (i + 1 + a + 2 : Nat), .int .i64 (e : Nat), .bool true] | none => .tuple #[.int .i64 0, .int .i64 0, .int .i64 0, .bool false] := by
      rintro D rfl
      rw [hR]
      cases dst (s.data.toList.drop (i + 1 + a + 2)) <;> rfl
    obtain ⟨D, hD⟩ : ∃ D, D = (dst (s.data.toList.drop (i + 1 + a + 2))).map (i + 1 + a + 2 + ·) := ⟨_, rfl⟩
    have H := Lib.hid (hloop D hD)
    have HD := Lib.hid hD
    clear hR h5 hloop hD
    rcases hK with hK | hK
    all_goals
      go_wp2
      go_loop [10] (fun p => ∃ e : Nat, p = .int .i64 e ∧ i + 1 + a + 2 ≤ e ∧ e ≤ s.size ∧ (dst (s.data.toList.drop e)).map (e + ·) = D) (fun p => s.size - (intOf p).toNat)
      case atStart => exact ⟨i + 1 + a + 2, by simp, Nat.le_refl _, by omega, HD.out.symm⟩
      case round =>
        obtain ⟨e, rfl, he1, he2, hp⟩ := hrel
        have HP := Lib.hid hp
        clear hp
        by_cases hlt : e < s.size
        · have hd := drop_lt hlt
          by_cases c41 : s[e]'hlt = 41
          · have q : (((s[e]'hlt).toNat : Int) == 41) = true := (u8_beq (s[e]'hlt) 41).trans (decide_eq_true c41)
            have hr : D = some e := by rw [← HP.out, hd]; simp [dst, c41]
            have HR2 := Lib.hid hr
            clear hd c41 hr
            go_wp2
            refine bodyPost_ret (v := .tuple #[.int .i64 (i + 1 + a : Nat), .int .i64 (i + 1 + a + 2 : Nat), .int .i64 e, .bool true]) (by simp [results, Tryd.results44, go_sem]) rfl ⟨by rw [show R = _ from H.out, show D = _ from HR2.out], HKK.out⟩
          · have q : (((s[e]'hlt).toNat : Int) == 41) = false := (u8_beq (s[e]'hlt) 41).trans (decide_eq_false c41)
            by_cases cw : s[e]'hlt = 32 ∨ s[e]'hlt = 9 ∨ s[e]'hlt = 10 ∨ s[e]'hlt = 40
            · have hr : D = none := by rw [← HP.out, hd]; simp only [dst, if_neg c41, if_pos cw]; rfl
              have HR2 := Lib.hid hr
              have q32 := u8_beq (s[e]'hlt) 32
              have q9 := u8_beq (s[e]'hlt) 9
              have q10 := u8_beq (s[e]'hlt) 10
              have q40 := u8_beq (s[e]'hlt) 40
              clear hd c41 hr
              rcases cw with cw | cw | cw | cw
              all_goals
                rw [cw] at q q32 q9 q10 q40
                have q' : (((s[e]'hlt).toNat : Int) == 41) = false := by rw [cw]; rfl
                have q32' : (((s[e]'hlt).toNat : Int) == 32) = decide (s[e]'hlt = 32) := u8_beq (s[e]'hlt) 32
                have q9' : (((s[e]'hlt).toNat : Int) == 9) = decide (s[e]'hlt = 9) := u8_beq (s[e]'hlt) 9
                have q10' : (((s[e]'hlt).toNat : Int) == 10) = decide (s[e]'hlt = 10) := u8_beq (s[e]'hlt) 10
                have q40' : (((s[e]'hlt).toNat : Int) == 40) = decide (s[e]'hlt = 40) := u8_beq (s[e]'hlt) 40
                have z32 : decide (s[e]'hlt = 32) = _ := congrArg (fun x : UInt8 => decide (x = 32)) cw
                have z9 : decide (s[e]'hlt = 9) = _ := congrArg (fun x : UInt8 => decide (x = 9)) cw
                have z10 : decide (s[e]'hlt = 10) = _ := congrArg (fun x : UInt8 => decide (x = 10)) cw
                have z40 : decide (s[e]'hlt = 40) = _ := congrArg (fun x : UInt8 => decide (x = 40)) cw
                rw [z32] at q32'
                rw [z9] at q9'
                rw [z10] at q10'
                rw [z40] at q40'
                clear cw q q32 q9 q10 q40 z32 z9 z10 z40
                go_wp2
                refine bodyPost_ret (v := .tuple #[.int .i64 0, .int .i64 0, .int .i64 0, .bool false]) (by simp [results, Tryd.results44, go_sem]) rfl ⟨by rw [show R = _ from H.out, show D = _ from HR2.out], HKK.out⟩
            · have hr : (dst (s.data.toList.drop (e + 1))).map (e + 1 + ·) = D := by
                rw [← HP.out, hd]
                simp only [dst, if_neg c41, if_neg cw, Option.map_map]
                congr 1
                funext x
                simp
                omega
              have HR2 := Lib.hid hr
              have q32 : (((s[e]'hlt).toNat : Int) == 32) = false := (u8_beq (s[e]'hlt) 32).trans (decide_eq_false (fun h => cw (.inl h)))
              have q9 : (((s[e]'hlt).toNat : Int) == 9) = false := (u8_beq (s[e]'hlt) 9).trans (decide_eq_false (fun h => cw (.inr (.inl h))))
              have q10 : (((s[e]'hlt).toNat : Int) == 10) = false := (u8_beq (s[e]'hlt) 10).trans (decide_eq_false (fun h => cw (.inr (.inr (.inl h)))))
              have q40 : (((s[e]'hlt).toNat : Int) == 40) = false := (u8_beq (s[e]'hlt) 40).trans (decide_eq_false (fun h => cw (.inr (.inr (.inr h)))))
              clear hd c41 hr cw
              go_wp2
              go_roundw
              case rel => exact ⟨e + 1, rfl, by omega, by omega, HR2.out⟩
              case measure => simp [intOf]; omega
        · have hd := drop_ge (s := s) (i := e) (by omega)
          have hr : D = none := by rw [← HP.out, hd]; rfl
          have HR2 := Lib.hid hr
          clear hd hr
          go_wp2
          refine bodyPost_ret (v := .tuple #[.int .i64 0, .int .i64 0, .int .i64 0, .bool false]) (by simp [results, Tryd.results44, go_sem]) rfl ⟨by rw [show R = _ from H.out, show D = _ from HR2.out], HKK.out⟩
end Go.Proofs.YtbioecifiogffaaDoor
