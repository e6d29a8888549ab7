/- prosekeep.Tame: the walk. Conditions: the listed variables read as the text lays them. -/
import Derived.Test.YtbioecifiogffaaGreatDoorM11
import Derived.Test.YtbioecifiogffaaGreatDoorM2
import Derived.Test.YtbioecifiogffaaGreatDoorJPull
import Derived.Deep.CutBlock
import Derived.Deep.DeepCutAuto
set_option linter.unusedVariables false
set_option linter.unusedSimpArgs false
namespace Go.Proofs.YtbioecifiogffaaGreatDoor
open Go.RowKit
theorem sum_take_succ {L : List Ev} {j : Nat} {x : Ev} (h : L[j]? = some x) : ((L.take (j + 1)).map tagsE).sum = ((L.take j).map tagsE).sum + tagsE x := by
  rw [List.take_add_one, h]
  simp
theorem cnt2_step {o s : Nat} {c : UInt8} {r : List UInt8} {p : Nat × Nat} (h : cnt2 o s (c :: r) = some p) :
    cnt2 (if c = 60 then o + 1 else o) (if c = 62 then s + 1 else s) r = some p ∧ ¬ (if c = 60 then o + 1 else o) < (if c = 62 then s + 1 else s) ∧ ¬ (if c = 62 then s + 1 else s) + 1 < (if c = 60 then o + 1 else o) := by
  simp only [cnt2] at h
  by_cases hn : (if c = 60 then o + 1 else o) < (if c = 62 then s + 1 else s) ∨ (if c = 62 then s + 1 else s) + 1 < (if c = 60 then o + 1 else o)
  · rw [if_pos hn] at h; cases h
  · rw [if_neg hn] at h
    exact ⟨h, fun h1 => hn (.inl h1), fun h1 => hn (.inr h1)⟩
theorem tags_le (L : List Ev) : ∀ j, ((L.take j).map tagsE).sum ≤ 2 * j := by
  intro j
  induction j with
  | zero => simp
  | succ j ih =>
    by_cases h : j < L.length
    · rw [sum_take_succ (List.getElem?_eq_getElem h)]
      have : tagsE L[j] ≤ 2 := by unfold tagsE; split <;> (try split) <;> omega
      omega
    · rw [List.take_of_length_le (by omega)]
      rw [List.take_of_length_le (by omega)] at ih
      omega
set_option maxHeartbeats 8000000 in
set_option maxRecDepth 1000000 in
theorem Tame_any (aL aI aS : Addr) (w : World) (hV : LaidVars aL aI aS w) (hG : Gl w) (s : ByteArray) (tv : Value) (ts : List Int) (ht : IntsAt w tv ts) (hm : s.size ≤ maxLen) (htm : ts.length ≤ maxLen) :
    Calls Tryz.prog 3 #[.string s, tv] w fun e w' => e = .returned (.bool true) ∧ Fresh w w' := by
  have hal := alive_any aL aI aS w hV hG
  obtain ⟨ao, cap, rfl⟩ := ht.form
  unfold maxLen at hm htm
  by_cases hs : s.size ≤ 1048576
  · have hsi : (s.size : Int) ≤ 1048576 := by omega
    by_cases htl : ts.length ≤ 1048576
    · have hti : (ts.length : Int) ≤ 1048576 := by omega
      obtain ⟨c, hc⟩ : ∃ c, comeL s.data.toList [] 0 false = c := ⟨_, rfl⟩
      obtain ⟨P, hP⟩ : ∃ P, (⟨(pgL c).toArray⟩ : ByteArray) = P := ⟨_, rfl⟩
      have hct : c.text.length ≤ 1200 := by rw [← hc]; exact comeL_text _ _ _ _
      have hwh := whole_any s
      have hht := fun (W : World) (hF : Fresh w W) => fine_any aL aI aS W (hV.fresh hF) (hG.fresh hF) s hs (.slice ao ts.length cap) ts (ht.fresh hF) htl 0 c hc P hP
      have hpu := fun (W : World) (hF : Fresh w W) => pull_any aL aI aS W (hV.fresh hF) (hG.fresh hF) s (.slice none 0 0) [] 0 false (ints_nil W) hs (by simp) (by simp) c hc
      have HAL := Lib.hid hal
      have HWH := Lib.hid hwh
      have HHT := Lib.hid hht
      have HPU := Lib.hid hpu
      have HCT := Lib.hid hct
      have HP := Lib.hid hP
      clear hal hwh hht hpu hV hG ht hc hct hP
      by_cases he : c.err = 0
      · have hpl : P.size ≤ 40000000 := by
          rw [← HP.out]
          unfold pgL
          rw [if_pos he]
          have := pageF_len c.text HCT.out
          simpa [ByteArray.size] using this
        have hce : comeE c = evsF c.text := by unfold comeE; rw [if_pos he]
        have hll := comeE_len c HCT.out
        have hcn : cnt2 0 0 (P.data.toList.drop 0) = some (((comeE c).map tagsE).sum, ((comeE c).map tagsE).sum) := by
          rw [← HP.out, hce, ← cnt2_page]
          unfold pgL
          rw [if_pos he]
          simp
        obtain ⟨L, hL⟩ : ∃ L, comeE c = L := ⟨_, rfl⟩
        rw [hL] at hcn hll
        obtain ⟨T, hT⟩ : ∃ T, (L.map tagsE).sum = T := ⟨_, rfl⟩
        rw [hT] at hcn
        have hei : (c.err : Int) = 0 := by omega
        rw [he] at HHT HPU
        have hpu := HPU.out
        rw [hL] at hpu
        have HPU := Lib.hid hpu
        have HCN := Lib.hid hcn
        have HT := Lib.hid hT
        clear hce hcn hpu hL hT
        go_enter Tryz.func3, Tryz.ntmps3
        go_upto_region 4 with (go_at_call 11; refine HAL.out.mono ?_; rintro e w1 ⟨rfl, hk1⟩)
        go_upto_region 5 with (first
          | (go_at_call 13; refine (HWH.out _).mono ?_; rintro e w2 ⟨rfl, hk2⟩)
          | (go_at_call 12; refine (HHT.out _ (hk1.tr hk2)).mono ?_; rintro e w3 ⟨n, o, m, rd, nn, rfl, -, hk3⟩))
        refine name_world fun X4 hX4 => ?_
        have hA4 : X4.heap[w3.heap.size]? = some (.cells #[.int .i64 0, .int .i64 n, .int .i64 P.size, .string P, .int .i64 o, .int .i64 m, .bool nn, .int .i64 rd] 27 (0, 0)) := by rw [hX4]; exact heap_alloc_new w3 _
        have hF4 : Fresh w X4 := by rw [hX4]; exact (((hk1.tr hk2).tr hk3).alloc _)
        have a0 : X4.cell? ⟨w3.heap.size, 0, none⟩ = some (.int .i64 0) := by rw [Lib.cell_of_heap hA4]; rfl
        have a3 : X4.cell? ⟨w3.heap.size, 3, none⟩ = some (.string P) := by rw [Lib.cell_of_heap hA4]; rfl
        have HF4 := Lib.hid hF4
        clear hX4 hk1 hk2 hk3 hA4 hF4
        go_upto_region 9 with (first
          | (go_at_call 13; refine (HWH.out _).mono ?_; rintro e w5 ⟨rfl, hk5⟩)
          | (go_at_call 14; refine (HPU.out _ (HF4.out.tr hk5)).mono ?_; rintro e w6 ⟨u, rfl, hE, hk6⟩))
        refine name_world fun X hX => ?_
        have hFX : Fresh w X := by rw [hX]; exact ((HF4.out.tr hk5).tr hk6).alloc _
        have hEX : EvSl X ((u.ownBlock).getD 0) u L := by rw [hX]; exact (hE.fresh ((Keeps.refl _ _).alloc _)).sl
        obtain ⟨g, hg⟩ : ∃ g, (u.ownBlock).getD 0 = g := ⟨_, rfl⟩
        rw [hg] at hEX
        obtain ⟨ua, uc, rfl, -, -, -⟩ := hEX.form
        have HFX := Lib.hid hFX
        have HEX := Lib.hid hEX
        clear hX hk5 hk6 hE hFX hEX hg HAL HWH HHT HPU HP HF4 a0 a3
        go_upto_block 0 with fail
        go_cut [10] (fun v wr => v = .int .i64 T ∧ wr = X)
        case first =>
          go_wp2
          go_loopw [10, 11] (fun t i wr => ∃ j : Nat, i = .int .i64 j ∧ j ≤ L.length ∧ t = .int .i64 (((L.take j).map tagsE).sum : Nat) ∧ wr = X) (fun _ i _ => L.length - (intOf i).toNat)
          case atStart => exact ⟨0, rfl, Nat.zero_le _, rfl, rfl⟩
          case round =>
            obtain ⟨j, rfl, hj, rfl, rfl⟩ := hrel
            by_cases hlt : j < L.length
            · have hx := List.getElem?_eq_getElem hlt
              have hsum := sum_take_succ hx
              have htl2 := tags_le L j
              obtain ⟨off, hua, -, hgl, q0, -, -, -⟩ := HEX.out.at hx
              obtain ⟨S, hS⟩ : ∃ S, ((L.take j).map tagsE).sum = S := ⟨_, rfl⟩
              rw [hS] at hsum htl2 ⊢
              obtain ⟨S2, hS2⟩ : ∃ S2, ((L.take (j + 1)).map tagsE).sum = S2 := ⟨_, rfl⟩
              rw [hS2] at hsum
              obtain ⟨kk, hkk⟩ : ∃ kk, (L[j]'hlt).kind = kk := ⟨_, rfl⟩
              unfold tagsE at hsum
              rw [hkk] at hsum q0
              subst hua
              have HS2 := Lib.hid hS2
              clear hx hS hS2 hkk
              by_cases k5 : kk = 5
              · subst k5
                rw [if_pos (.inl rfl)] at hsum
                have HSUM := Lib.hid hsum
                clear hsum
                go_wp2
                go_roundw
                case rel => exact ⟨j + 1, by go_num, by omega, by rw [HS2.out, HSUM.out]; go_num, by trivial⟩
                case measure => simp [intOf]; omega
              by_cases k9 : kk = 9
              · subst k9
                rw [if_pos (.inr rfl)] at hsum
                have HSUM := Lib.hid hsum
                clear hsum
                go_wp2
                go_roundw
                case rel => exact ⟨j + 1, by go_num, by omega, by rw [HS2.out, HSUM.out]; go_num, by trivial⟩
                case measure => simp [intOf]; omega
              have e59 : ¬ (kk = 5 ∨ kk = 9) := by omega
              rw [if_neg e59] at hsum
              by_cases k8 : kk = 8
              · subst k8
                rw [if_pos (.inl rfl)] at hsum
                have HSUM := Lib.hid hsum
                clear hsum
                go_wp2
                go_roundw
                case rel => exact ⟨j + 1, by go_num, by omega, by rw [HS2.out, HSUM.out]; go_num, by trivial⟩
                case measure => simp [intOf]; omega
              by_cases k10 : kk = 10
              · subst k10
                rw [if_pos (.inr rfl)] at hsum
                have HSUM := Lib.hid hsum
                clear hsum
                go_wp2
                go_roundw
                case rel => exact ⟨j + 1, by go_num, by omega, by rw [HS2.out, HSUM.out]; go_num, by trivial⟩
                case measure => simp [intOf]; omega
              have e810 : ¬ (kk = 8 ∨ kk = 10) := by omega
              rw [if_neg e810] at hsum
              clear e59 e810
              have HSUM := Lib.hid hsum
              clear hsum
              go_wp2
              go_roundw
              case rel => exact ⟨j + 1, by go_num, by omega, by rw [HS2.out, HSUM.out]; go_num, by trivial⟩
              case measure => simp [intOf]; omega
            · have hjl : j = L.length := by omega
              subst hjl
              rw [List.take_length, HT.out]
              go_wp2
              go_meet
              exact ⟨rfl, by trivial⟩
        case rest =>
          obtain ⟨rfl, hw0⟩ := hcut
          obtain rfl : X = wc := hw0.symm
          go_upto_block 3 with fail
          go_cut [12, 13] (fun a b wr => a = .int .i64 T ∧ b = .int .i64 T ∧ wr = X)
          case first =>
            go_wp2
            go_loopw [12, 13, 14] (fun a b i wr => ∃ j o s : Nat, i = .int .i64 j ∧ j ≤ P.size ∧ a = .int .i64 o ∧ b = .int .i64 s ∧ o ≤ j ∧ s ≤ j ∧ cnt2 o s (P.data.toList.drop j) = some (T, T) ∧ wr = X) (fun _ _ i _ => P.size - (intOf i).toNat)
            case atStart => exact ⟨0, 0, 0, rfl, Nat.zero_le _, rfl, rfl, Nat.le_refl _, Nat.le_refl _, HCN.out, rfl⟩
            case round =>
              obtain ⟨j, oo, ss, rfl, hj, rfl, rfl, ho, hs2, hc2, rfl⟩ := hrel
              by_cases hlt : j < P.size
              · rw [drop_lt hlt] at hc2
                obtain ⟨h1, h2, h3⟩ := cnt2_step hc2
                clear hc2
                by_cases q60 : P[j]'hlt = 60
                · have k1 : (((P[j]'hlt).toNat : Int) == 60) = true := (u8_beq (P[j]'hlt) 60).trans (decide_eq_true q60)
                  have k2 : (((P[j]'hlt).toNat : Int) == 62) = false := (u8_beq (P[j]'hlt) 62).trans (decide_eq_false (by rw [q60]; decide))
                  rw [if_pos q60, if_neg (by rw [q60]; decide)] at h1 h2 h3
                  have i2 : ¬ (oo : Int) + 1 < (ss : Int) := by omega
                  have i3 : ¬ (ss : Int) + 1 < (oo : Int) + 1 := by omega
                  have H1 := Lib.hid h1
                  clear h1 h2 h3 q60
                  go_wp2
                  go_roundw
                  case rel => exact ⟨j + 1, oo + 1, ss, by go_num, by omega, by go_num, rfl, by omega, by omega, H1.out, by trivial⟩
                  case measure => simp [intOf]; omega
                by_cases q62 : P[j]'hlt = 62
                · have k1 : (((P[j]'hlt).toNat : Int) == 60) = false := (u8_beq (P[j]'hlt) 60).trans (decide_eq_false q60)
                  have k2 : (((P[j]'hlt).toNat : Int) == 62) = true := (u8_beq (P[j]'hlt) 62).trans (decide_eq_true q62)
                  rw [if_neg q60, if_pos q62] at h1 h2 h3
                  have i2 : ¬ (oo : Int) < (ss : Int) + 1 := by omega
                  have i3 : ¬ (ss : Int) + 1 + 1 < (oo : Int) := by omega
                  have H1 := Lib.hid h1
                  clear h1 h2 h3 q60 q62
                  go_wp2
                  go_roundw
                  case rel => exact ⟨j + 1, oo, ss + 1, by go_num, by omega, rfl, by go_num, by omega, by omega, H1.out, by trivial⟩
                  case measure => simp [intOf]; omega
                have k1 : (((P[j]'hlt).toNat : Int) == 60) = false := (u8_beq (P[j]'hlt) 60).trans (decide_eq_false q60)
                have k2 : (((P[j]'hlt).toNat : Int) == 62) = false := (u8_beq (P[j]'hlt) 62).trans (decide_eq_false q62)
                rw [if_neg q60, if_neg q62] at h1 h2 h3
                have i2 : ¬ (oo : Int) < (ss : Int) := by omega
                have i3 : ¬ (ss : Int) + 1 < (oo : Int) := by omega
                have H1 := Lib.hid h1
                clear h1 h2 h3 q60 q62
                go_wp2
                go_roundw
                case rel => exact ⟨j + 1, oo, ss, by go_num, by omega, rfl, rfl, by omega, by omega, H1.out, by trivial⟩
                case measure => simp [intOf]; omega
              · have hjl : j = P.size := by omega
                rw [drop_ge (by omega)] at hc2
                have e1 : oo = T ∧ ss = T := by
                  simp only [cnt2, Option.some.injEq, Prod.mk.injEq] at hc2
                  exact hc2
                obtain ⟨rfl, e2⟩ := e1
                subst e2
                clear hc2
                go_wp2
                go_meet
                exact ⟨rfl, rfl, by trivial⟩
          case rest =>
            obtain ⟨rfl, rfl, hw1⟩ := hcut
            obtain rfl : X = wc := hw1.symm
            go_wp2
            go_ret
            exact ⟨rfl, HFX.out⟩
      · have hP0 : P = ⟨#[]⟩ := by
          rw [← HP.out]
          unfold pgL
          rw [if_neg he]
        subst hP0
        have hei : ¬ (c.err : Int) = 0 := by omega
        go_enter Tryz.func3, Tryz.ntmps3
        go_upto_region 4 with (go_at_call 11; refine HAL.out.mono ?_; rintro e w1 ⟨rfl, hk1⟩)
        go_upto_region 5 with (first
          | (go_at_call 13; refine (HWH.out _).mono ?_; rintro e w2 ⟨rfl, hk2⟩)
          | (go_at_call 12; refine (HHT.out _ (hk1.tr hk2)).mono ?_; rintro e w3 ⟨n, o, m, rd, nn, rfl, -, hk3⟩))
        refine name_world fun X4 hX4 => ?_
        have hA4 : X4.heap[w3.heap.size]? = some (.cells #[.int .i64 c.err, .int .i64 n, .int .i64 (⟨#[]⟩ : ByteArray).size, .string ⟨#[]⟩, .int .i64 o, .int .i64 m, .bool nn, .int .i64 rd] 27 (0, 0)) := by rw [hX4]; exact heap_alloc_new w3 _
        have hF4 : Fresh w X4 := by rw [hX4]; exact (((hk1.tr hk2).tr hk3).alloc _)
        have a0 : X4.cell? ⟨w3.heap.size, 0, none⟩ = some (.int .i64 c.err) := by rw [Lib.cell_of_heap hA4]; rfl
        have a3 : X4.cell? ⟨w3.heap.size, 3, none⟩ = some (.string ⟨#[]⟩) := by rw [Lib.cell_of_heap hA4]; rfl
        have HF := Lib.hid hF4
        clear hX4 hk1 hk2 hk3 hA4 hF4
        go_wp2
        go_ret
        exact ⟨rfl, HF.out⟩
    · have hti : ¬ (ts.length : Int) ≤ 1048576 := by omega
      have hti2 : (1048576 : Int) < (ts.length : Int) := by omega
      have HAL := Lib.hid hal
      clear hal hV hG ht
      go_enter Tryz.func3, Tryz.ntmps3
      go_wp2_with (go_at_call 11; refine HAL.out.mono ?_; rintro e w1 ⟨rfl, hk1⟩)
      go_ret
      exact ⟨rfl, hk1⟩
  · have hsi : (1048576 : Int) < (s.size : Int) := by omega
    have HAL := Lib.hid hal
    clear hal hV hG ht
    go_enter Tryz.func3, Tryz.ntmps3
    go_wp2_with (go_at_call 11; refine HAL.out.mono ?_; rintro e w1 ⟨rfl, hk1⟩)
    go_ret
    exact ⟨rfl, hk1⟩
end Go.Proofs.YtbioecifiogffaaGreatDoor
