/- prosekeep.Nests: the walk. Conditions: the listed variables read as the text lays them. -/
import Derived.Test.YtbioecifiogffabGreatDoorR11
import Derived.Test.YtbioecifiogffabGreatDoorYNestIn
import Derived.Test.YtbioecifiogffabGreatDoorYPull
import Derived.Deep.CutBlock
import Derived.Deep.DeepCutAuto
import Derived.BigQuiet
import Derived.Deep.QuietTactic
import Derived.IntWalk
set_option linter.unusedVariables false
set_option linter.unusedSimpArgs false
set_option maxHeartbeats 8000000
set_option maxRecDepth 1000000
namespace Go.Proofs.YtbioecifiogffabGreatDoor
open Go.RowKit
theorem Nests_any (aL aI aS : Addr) (w : World) (hV : LaidVars aL aI aS w) (hG : Gl w) (s : ByteArray) (hm : s.size ≤ maxLen) :
 Calls Tryz.prog 3 #[.string s] w fun e w' => e = .returned (.bool true) ∧ Fresh w w' := by
 have hal := alive_any aL aI aS w hV hG
 unfold maxLen at hm
 by_cases hs : s.size ≤ 1048576
 ·have hsi : (s.size : Int) ≤ 1048576 := by omega
  obtain ⟨c, hc⟩ : ∃ c, comeL s.data.toList [] 0 false = c := ⟨_, rfl⟩
  have hct : c.text.length ≤ 1200 := by rw [← hc]; exact comeL_text _ _ _ _
  have hwh := whole_any s
  have hpu := fun (W : World) (hF : Fresh w W) => pull_any aL aI aS W (hV.fresh hF) (hG.fresh hF) s (.slice none 0 0) [] 0 false (ints_nil W) hs (by simp) (by simp) c hc
  have hll := comeE_len c hct
  have hnp : nestP 0 [] (comeE c) = true := by
   unfold comeE
   split
   ·exact evsF_nest _
   ·rfl
  obtain ⟨L, hL⟩ : ∃ L, comeE c = L := ⟨_, rfl⟩
  rw [hL] at hpu hll hnp
  have HAL := Lib.hid hal
  have HWH := Lib.hid hwh
  have HPU := Lib.hid hpu
  have HNP := Lib.hid hnp
  clear hal hwh hpu hV hG hc hct hL hnp
  go_enter Tryz.func3, Tryz.ntmps3
  go_upto_region 4 with (go_at_call 4; refine HAL.out.mono ?_; rintro e w1 ⟨rfl, hk1⟩)
  go_upto_region 5 with (first
    | (go_at_call 6; refine (HWH.out _).mono ?_; rintro e w5 ⟨rfl, hk5⟩)
    | (go_at_call 5; refine (HPU.out _ (hk1.tr hk5)).mono ?_; rintro e w6 ⟨u, rfl, hE, hk6⟩))
  refine name_world fun X hX => ?_
  have hFX : Fresh w X := by rw [hX]; exact (((hk1.tr hk5).tr hk6).alloc _)
  have hEX : Evs X 33 u L := by rw [hX]; exact hE.fresh ((Keeps.refl _ _).alloc _)
  obtain ⟨ua, uc, rfl, -, -, -⟩ := own_form hEX
  have HFX := Lib.hid hFX
  have HEX := Lib.hid hEX
  have HI := Lib.hid Tryz.infoPlE
  clear hX hk1 hk5 hk6 hE hFX hEX HAL HWH HPU
  go_upto_block 0 with fail
  go_cut [6] (fun v wr => (∃ p c, v = .slice p 0 c) ∧ Fresh X wr)
  case first =>
   go_wp2
   go_loopw [6, 7] (fun o i wr => ∃ (j : Nat) (st : List Ev) (q : Int), j ≤ L.length ∧ i = .int .i64 j ∧ st.length ≤ j ∧ Evs wr 33 o st ∧ (∀ k, o.ownBlock = some k → X.heap.size ≤ k) ∧ Fresh X wr ∧ nestP q st (L.drop j) = true ∧ (∀ i y, j = i + 1 → L[i]? = some y → y.kind = q)) (fun _ i _ => L.length - (intOf i).toNat)
   case atStart => exact ⟨0, [], 0, Nat.zero_le _, rfl, Nat.le_refl _, Evs.nil _ _, (fun k hk => by cases hk), Keeps.refl _ _, HNP.out, (fun i y h => by cases h)⟩
   case round =>
    obtain ⟨j, st, q, hj, rfl, hst, hev, hown, hF, hnest, hq⟩ := hrel
    obtain ⟨wo, rfl⟩ : ∃ wo : World, wo = wr := ⟨_, rfl⟩
    by_cases hlt : j < L.length
    ·obtain ⟨x, hx⟩ : ∃ x, L[j]? = some x := ⟨L[j], List.getElem?_eq_getElem hlt⟩
     obtain ⟨g, hue, -, hgl, x0, x1, x2, x3⟩ := Evs.at (HEX.out.fresh hF) hx
     subst hue
     have hdr : L.drop j = x :: L.drop (j + 1) := by
      rw [List.drop_eq_getElem_cons hlt]
      congr 1
      rw [List.getElem?_eq_getElem hlt] at hx
      exact Option.some.inj hx
     rw [hdr] at hnest
     have hinv := nestP_inv hnest
     have hqn : ∀ i y, j + 1 = i + 1 → L[i]? = some y → y.kind = x.kind := fun i y h1 h2 => by
      obtain rfl : j = i := by omega
      rw [hx] at h2
      cases h2
      rfl
     have hjl : (j : Int) < (L.length : Int) := by omega
     have hj0 : (0 : Int) ≤ (j : Int) := by omega
     have hj5 : (j : Int) < 5000 := by omega
     obtain ⟨kd, fn, lv, tx⟩ := x
     simp only at x0 x1 x2 x3 hinv hqn
     have HQN := Lib.hid hqn
     clear hx hdr hnest hqn
     rcases hinv with ⟨h8, hne, rfl, rfl, ht8, htop, hnx⟩ | ⟨h8, rfl, y, st', rfl, hyk, hyl, hnx⟩ | ⟨h8, rfl, hlv, hl3, hl0, hin, hnx⟩
     ·obtain ⟨y, st', rfl⟩ : ∃ y st', st = st' ++ [y] := by
       rcases List.eq_nil_or_concat st with h | ⟨a, b, h⟩
       ·rw [h] at hne; simp at hne
       ·exact ⟨b, a, by rw [h, List.concat_eq_append]⟩
      rw [topK_snoc] at htop
      obtain ⟨m, hm1⟩ : ∃ m, st'.length = m := ⟨_, rfl⟩
      have hsl : (st' ++ [y]).length = m + 1 := by simp [hm1]
      obtain ⟨p, pc, rfl, hpc, -, -⟩ := own_form hev
      rw [hsl] at hst hev hpc
      have hpc2 : (m : Int) ≤ (pc : Int) := by omega
      have hev0 := hev
      rw [hsl] at hown ⊢
      obtain ⟨i, rfl⟩ : ∃ i, j = i + 1 := ⟨j - 1, by omega⟩
      have hy : (st' ++ [y])[m]? = some y := by rw [← hm1]; simp
      obtain ⟨g2, hp, -, hg2, y0, -, y2, -⟩ := Evs.at hev hy
      subst hp
      have hm5 : (m : Int) < 5000 := by omega
      have hm0 : (0 : Int) ≤ (m : Int) := by omega
      have bm : ((m : Int) + 1 == 0) = false := by simp; omega
      obtain ⟨z, hz⟩ : ∃ z, L[i]? = some z := ⟨L[i]'(by omega), List.getElem?_eq_getElem _⟩
      have hzq := hq i z rfl hz
      obtain ⟨g', hge, -, -, z0, -, -, -⟩ := Evs.at (HEX.out.fresh hF) hz
      cases hge
      rw [hzq] at z0
      obtain ⟨yk, hyk⟩ : ∃ yk, y.kind = yk := ⟨_, rfl⟩
      rw [hyk] at htop y0
      have i0 : (0 : Int) ≤ (i : Int) := by omega
      have i1 : (i : Int) < (L.length : Int) := by omega
      have HOWN := Lib.hid hown
      have HNX := Lib.hid hnx
      go_upto_region 11 with fail
      refine name_world fun Y hY => ?_
      have hfY : Fresh wo Y := by rw [hY]; exact (Keeps.refl _ wo).alloc _
      have hbY : Y.heap[wo.heap.size]? = some (.cells #[.int .i64 kd, .bool false, .int .i64 0, .string ⟨tx.toArray⟩] 33 (0, 0)) := by rw [hY]; exact heap_alloc_new wo _
      have e0 : Y.cell? ⟨wo.heap.size, 0, none⟩ = some (.int .i64 kd) := by rw [Lib.cell_of_heap hbY]; rfl
      have e1 : Y.cell? ⟨wo.heap.size, 1, none⟩ = some (.bool false) := by rw [Lib.cell_of_heap hbY]; rfl
      have e2 : Y.cell? ⟨wo.heap.size, 2, none⟩ = some (.int .i64 0) := by rw [Lib.cell_of_heap hbY]; rfl
      have e3 : Y.cell? ⟨wo.heap.size, 3, none⟩ = some (.string ⟨tx.toArray⟩) := by rw [Lib.cell_of_heap hbY]; rfl
      have HEV := Lib.hid (hev.fresh hfY)
      have HFY := Lib.hid (hF.tr hfY)
      have y0Y := hfY.cell_some y0 (fun h => h)
      have z0Y := hfY.cell_some z0 (fun h => h)
      clear hY hbY hev hev0 hF hown hnx y0 y2 z0 x0 x1 x2 x3 hz hzq hq hy hne hyk hfY
      by_cases k8 : kd = 8
      ·obtain ⟨t1, t2⟩ := ht8 k8
       subst k8
       have bt : tx.isEmpty = false := by simpa using t1
       have bq : (q == 8) = false := by simpa using t2
       clear ht8
       by_cases h2 : 2 ≤ yk
       ·have h4 : ¬ yk ≤ 4 := by omega
        go_wp2
        go_roundw
        case rel => exact ⟨i + 1 + 1, _, _, by omega, by go_num, by omega, HEV.out, HOWN.out, HFY.out, HNX.out, HQN.out⟩
        case measure => simp [intOf]; omega
       ·go_wp2
        go_roundw
        case rel => exact ⟨i + 1 + 1, _, _, by omega, by go_num, by omega, HEV.out, HOWN.out, HFY.out, HNX.out, HQN.out⟩
        case measure => simp [intOf]; omega
      ·clear ht8
       have b8 : (kd == 8) = false := by simpa using k8
       by_cases h2 : 2 ≤ yk
       ·have h4 : ¬ yk ≤ 4 := by omega
        go_wp2
        go_roundw
        case rel => exact ⟨i + 1 + 1, _, _, by omega, by go_num, by omega, HEV.out, HOWN.out, HFY.out, HNX.out, HQN.out⟩
        case measure => simp [intOf]; omega
       ·go_wp2
        go_roundw
        case rel => exact ⟨i + 1 + 1, _, _, by omega, by go_num, by omega, HEV.out, HOWN.out, HFY.out, HNX.out, HQN.out⟩
        case measure => simp [intOf]; omega
     ·obtain ⟨yk, yf, yl, yt⟩ := y
      simp only at hyk hyl
      subst hyk
      subst hyl
      obtain ⟨m, hm1⟩ : ∃ m, st'.length = m := ⟨_, rfl⟩
      have hsl : (st' ++ ([⟨yk, yf, yl, yt⟩] : List Ev)).length = m + 1 := by simp [hm1]
      obtain ⟨p, pc, rfl, hpc, -, -⟩ := own_form hev
      rw [hsl] at hst hev hpc
      have hpc2 : (m : Int) ≤ (pc : Int) := by omega
      have hev0 := hev
      rw [hsl] at hown ⊢
      obtain ⟨i, rfl⟩ : ∃ i, j = i + 1 := ⟨j - 1, by omega⟩
      have hy : (st' ++ ([⟨yk, yf, yl, yt⟩] : List Ev))[m]? = some (⟨yk, yf, yl, yt⟩ : Ev) := by rw [← hm1]; simp
      obtain ⟨g2, hp, -, hg2, y0, -, y2, -⟩ := Evs.at hev hy
      subst hp
      have hm5 : (m : Int) < 5000 := by omega
      have hm0 : (0 : Int) ≤ (m : Int) := by omega
      have bm : ((m : Int) + 1 == 0) = false := by simp; omega
      simp only at y0 y2
      have HOWN := Lib.hid hown
      have HNX := Lib.hid hnx
      go_upto_region 11 with fail
      refine name_world fun Y hY => ?_
      have hfY : Fresh wo Y := by rw [hY]; exact (Keeps.refl _ wo).alloc _
      have hbY : Y.heap[wo.heap.size]? = some (.cells #[.int .i64 yk, .bool true, .int .i64 yl, .string ⟨tx.toArray⟩] 33 (0, 0)) := by rw [hY]; exact heap_alloc_new wo _
      have e0 : Y.cell? ⟨wo.heap.size, 0, none⟩ = some (.int .i64 yk) := by rw [Lib.cell_of_heap hbY]; rfl
      have e1 : Y.cell? ⟨wo.heap.size, 1, none⟩ = some (.bool true) := by rw [Lib.cell_of_heap hbY]; rfl
      have e2 : Y.cell? ⟨wo.heap.size, 2, none⟩ = some (.int .i64 yl) := by rw [Lib.cell_of_heap hbY]; rfl
      have e3 : Y.cell? ⟨wo.heap.size, 3, none⟩ = some (.string ⟨tx.toArray⟩) := by rw [Lib.cell_of_heap hbY]; rfl
      have HEV := Lib.hid (hev.fresh hfY)
      have HFY := Lib.hid (hF.tr hfY)
      have y0Y := hfY.cell_some y0 (fun h => h)
      have y2Y := hfY.cell_some y2 (fun h => h)
      clear hY hbY hev hev0 hF hown hnx y0 y2 x0 x1 x2 x3 hq hy hfY
      have w1 : IntKind.i64.wrap ((m : Int) + 1 - 1) = (m : Int) := by rw [Int.add_sub_cancel]; exact IntWalk.i64_in _ (by omega)
      go_upto_region 18 with fail
      go_quiet (fail)
      clear w1
      go_wp2
      go_roundw
      case rel =>
       refine ⟨i + 1 + 1, st', yk, by omega, by go_num, by omega, ?_, HOWN.out, ?_, HNX.out, HQN.out⟩
       ·exact (Evs.pop (HEV.out) hm1).fresh (by repeat (first | exact Keeps.refl _ _ | refine Keeps.drew ?_ | refine Keeps.drewN ?_ _))
       ·exact HFY.out.tr (by repeat (first | exact Keeps.refl _ _ | refine Keeps.drew ?_ | refine Keeps.drewN ?_ _))
      case measure => simp [intOf]; omega
     ·obtain ⟨p, pc, rfl, -, -, -⟩ := own_form hev
      have HOWN := Lib.hid hown
      have HNX := Lib.hid hnx
      have hs5 : (st.length : Int) ≤ 5000 := by omega
      go_upto_region 11 with fail
      refine name_world fun Y hY => ?_
      have hfY : Fresh wo Y := by rw [hY]; exact (Keeps.refl _ wo).alloc _
      have hbY : Y.heap[wo.heap.size]? = some (.cells #[.int .i64 kd, .bool false, .int .i64 lv, .string ⟨tx.toArray⟩] 33 (0, 0)) := by rw [hY]; exact heap_alloc_new wo _
      have e0 : Y.cell? ⟨wo.heap.size, 0, none⟩ = some (.int .i64 kd) := by rw [Lib.cell_of_heap hbY]; rfl
      have e1 : Y.cell? ⟨wo.heap.size, 1, none⟩ = some (.bool false) := by rw [Lib.cell_of_heap hbY]; rfl
      have e2 : Y.cell? ⟨wo.heap.size, 2, none⟩ = some (.int .i64 lv) := by rw [Lib.cell_of_heap hbY]; rfl
      have e3 : Y.cell? ⟨wo.heap.size, 3, none⟩ = some (.string ⟨tx.toArray⟩) := by rw [Lib.cell_of_heap hbY]; rfl
      have HEV := Lib.hid (hev.fresh hfY)
      have HFY := Lib.hid (hF.tr hfY)
      clear hY hbY hev hF hown hnx x0 x1 x2 x3 hq hfY
      rcases hlv with ⟨rfl, hl1⟩ | ⟨hk1, hl1⟩
      ·have HIN := Lib.hid (inside_any 1 st _ Y HEV.out (by omega) hin)
       have hrow := HEV.out.fresh ((Keeps.refl _ Y).alloc (.cells #[.int .i64 1, .bool false, .int .i64 lv, .string ⟨tx.toArray⟩] 33))
       unfold Evs at hrow
       have HROW := Lib.hid hrow
       clear hrow hin
       go_upto_region 23 with fail
       go_upto_region 24 with (go_at_call 7; refine HIN.out.mono ?_; rintro e w7 ⟨rfl, hwe⟩; rw [hwe]; clear hwe w7)
       go_wp2_with (at_builtin; refine wpList_append_mine _ rfl _ _ 23 rfl 33 _ 4 40 Tryz.underlying23 HI.out rfl (by decide) _ _ _ rfl HROW.out (some ⟨Y.heap.size, 0, none⟩) 1 1 (⟨1, false, lv, tx⟩ : Ev).cells rfl rfl (fun h => (by cases h)) (ev_new Y ⟨1, false, lv, tx⟩ 33) (ev_one _) (by unfold maxLen; omega) (by omega) ?_)
       intro p7 c7 w7 hr7 hg7 hk7
       have he7 := Evs.snoc hr7
       have hF7 : Fresh X w7 := (HFY.out.alloc (.cells #[.int .i64 1, .bool false, .int .i64 lv, .string ⟨tx.toArray⟩] 33)).trans hk7 (fun k h1 h2 => by have := HOWN.out k h2; omega)
       have ho7 : ∀ k, (Value.slice p7 (st.length + 1) c7).ownBlock = some k → X.heap.size ≤ k := fun k hk => by
        rcases hg7 k hk with h | h
        ·exact HOWN.out k h
        ·have := HFY.out.size; simp at h; omega
       have HE7 := Lib.hid he7
       have HF7 := Lib.hid hF7
       have HO7 := Lib.hid ho7
       clear he7 hF7 ho7 hr7 hg7 hk7
       go_wp2
       go_roundw
       case rel => exact ⟨j + 1, _, _, by omega, by go_num, by simp; omega, HE7.out, HO7.out, HF7.out, HNX.out, HQN.out⟩
       case measure => simp [intOf]; omega
      ·have HIN := Lib.hid (inside_any kd st _ Y HEV.out (by omega) hin)
       have hrow := HEV.out.fresh ((Keeps.refl _ Y).alloc (.cells #[.int .i64 kd, .bool false, .int .i64 lv, .string ⟨tx.toArray⟩] 33))
       unfold Evs at hrow
       have HROW := Lib.hid hrow
       clear hrow hin
       go_upto_region 23 with fail
       go_upto_region 24 with (go_at_call 7; refine HIN.out.mono ?_; rintro e w7 ⟨rfl, hwe⟩; rw [hwe]; clear hwe w7)
       go_wp2_with (at_builtin; refine wpList_append_mine _ rfl _ _ 23 rfl 33 _ 4 40 Tryz.underlying23 HI.out rfl (by decide) _ _ _ rfl HROW.out (some ⟨Y.heap.size, 0, none⟩) 1 1 (⟨kd, false, lv, tx⟩ : Ev).cells rfl rfl (fun h => (by cases h)) (ev_new Y ⟨kd, false, lv, tx⟩ 33) (ev_one _) (by unfold maxLen; omega) (by omega) ?_)
       intro p7 c7 w7 hr7 hg7 hk7
       have he7 := Evs.snoc hr7
       have hF7 : Fresh X w7 := (HFY.out.alloc (.cells #[.int .i64 kd, .bool false, .int .i64 lv, .string ⟨tx.toArray⟩] 33)).trans hk7 (fun k h1 h2 => by have := HOWN.out k h2; omega)
       have ho7 : ∀ k, (Value.slice p7 (st.length + 1) c7).ownBlock = some k → X.heap.size ≤ k := fun k hk => by
        rcases hg7 k hk with h | h
        ·exact HOWN.out k h
        ·have := HFY.out.size; simp at h; omega
       have HE7 := Lib.hid he7
       have HF7 := Lib.hid hF7
       have HO7 := Lib.hid ho7
       clear he7 hF7 ho7 hr7 hg7 hk7
       go_wp2
       go_roundw
       case rel => exact ⟨j + 1, _, _, by omega, by go_num, by simp; omega, HE7.out, HO7.out, HF7.out, HNX.out, HQN.out⟩
       case measure => simp [intOf]; omega
    ·obtain rfl : j = L.length := by omega
     rw [List.drop_of_length_le (Nat.le_refl _)] at hnest
     have hz : st.length = 0 := by simpa [nestP] using hnest
     obtain ⟨p, pc, rfl, -, -, -⟩ := own_form hev
     rw [hz]
     have HF := Lib.hid hF
     clear hF hev hown hnest hq
     go_wp2
     go_meet
     exact ⟨⟨_, _, rfl⟩, HF.out⟩
  case rest =>
   obtain ⟨⟨p, pc, rfl⟩, hF⟩ := hcut
   have HF := Lib.hid hF
   clear hF
   go_wp2
   go_ret
   exact ⟨rfl, HFX.out.tr HF.out⟩
 ·have hsi : (1048576 : Int) < (s.size : Int) := by omega
  have HAL := Lib.hid hal
  clear hal hV hG
  go_enter Tryz.func3, Tryz.ntmps3
  go_wp2_with (go_at_call 4; refine HAL.out.mono ?_; rintro e w1 ⟨rfl, hk1⟩)
  go_ret
  exact ⟨rfl, hk1⟩
end Go.Proofs.YtbioecifiogffabGreatDoor
