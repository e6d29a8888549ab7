/- prosekeep.Cuts: the walk. Conditions: the listed variables read as the text lays them. -/
import Derived.Test.YtbioecifiogffaaGreatDoorM11
import Derived.Test.YtbioecifiogffaaGreatDoorM2
import Derived.Test.YtbioecifiogffaaGreatDoorJPull
import Derived.Test.YtbioecifiogffaaGreatDoorJSameKp
import Derived.Deep.CutBlock
import Derived.Deep.DeepCutAuto
set_option linter.unusedVariables false
set_option linter.unusedSimpArgs false
namespace Go.Proofs.YtbioecifiogffaaGreatDoor
open Go.RowKit
def intL (l : List Int) : List Value := l.map fun x => .int .i64 x
theorem ints_own {w : World} {v : Value} {l : List Int} (h : w.ownsRow 0 3 1 v l.length (intL l)) : IntsAt w v l := by
  obtain ⟨p, c, rfl, hc, hn, hg⟩ := own_form h
  refine ⟨p, c, rfl, hc, fun h => ⟨List.length_eq_zero_iff.1 (hn h).1, (hn h).2⟩, fun hne => ?_⟩
  cases p with
  | none => exact absurd (List.length_eq_zero_iff.1 (hn rfl).1) hne
  | some ad =>
    obtain ⟨g, rfl, hgl⟩ := hg ad rfl
    refine ⟨g, 0, rfl, fun j hj => ?_⟩
    have := World.ownsRow.cells (v := .slice (some ⟨g, 0, none⟩) l.length c) h (g := g) rfl j (.int .i64 (l.getD j 0)) (by simp [intL, List.getD, List.getElem?_eq_getElem hj])
    rw [Addr.add_lit] at this
    exact this
theorem int_add (w : World) (n : Int) (t : TypeId) {v : Value} {m : Nat} {xs : List Value} {e : TypeId} (h : w.ownsRow 0 e 1 v m xs) : (w.alloc (.cells #[.int .i64 n] t)).ownsRow 0 e 1 v m xs := own_kept h ((Keeps.refl (fun _ => False) _).alloc _) (fun _ _ h => h)
theorem int_at (w : World) (n : Int) (t : TypeId) (H : Nat) (hH : w.heap.size = H) : ∀ ad, some (⟨H, 0, none⟩ : Addr) = some ad → ∀ j u, [Value.int .i64 n][j]? = some u → (w.alloc (.cells #[.int .i64 n] t)).cell? (ad.add j) = some u := by
  subst hH
  intro ad had j u hj
  cases had
  match j, hj with
  | 0, hj => simp at hj; subst hj; simp [Addr.add]
theorem int_one (n : Int) : ∀ u ∈ [Value.int .i64 n], u.oneCell' = true := fun u hu => by simp at hu; rw [hu]; rfl
theorem infoI : (Tryz.prog.info? 3).map (fun i => (i.zero, i.size, i.bytes)) = some (some (.int .i64 0), 1, 8) := by kernel_rfl
theorem cutsF_bd (cs : List Int) : ∀ r, ∀ x ∈ cutsF r cs, 1 ≤ x ∧ x ≤ (r : Int) := by
  induction cs with
  | nil => intro r x hx; simp [cutsF] at hx
  | cons c cs ih =>
    intro r x hx
    unfold cutsF at hx
    split at hx
    · cases hx
    · rename_i h1
      obtain ⟨b1, b2⟩ := cut_bd r c h1
      rcases List.mem_cons.1 hx with rfl | hx
      · omega
      · have := ih _ x hx
        omega
set_option maxHeartbeats 2000000 in
set_option maxRecDepth 1000000 in
theorem Cuts_any (aL aI aS : Addr) (w : World) (hV : LaidVars aL aI aS w) (hG : Gl w) (s : ByteArray) (tv : Value) (ts : List Int) (wt : Bool) (ht : IntsAt w tv ts) (hm : s.size ≤ maxLen) (htm : ts.length ≤ maxLen) (htb : ∀ x ∈ ts, -9223372036854775808 ≤ x ∧ x ≤ 9223372036854775807) :
    Calls Tryz.prog 10 #[.string s, tv, .bool wt] w fun e w' => e = .returned (.bool true) ∧ Fresh w w' := by
  have hal := alive_any aL aI aS w hV hG
  obtain ⟨ao, cap, rfl⟩ := ht.form
  unfold maxLen at hm htm
  by_cases hs : s.size ≤ 1048576
  · have hsi : (s.size : Int) ≤ 1048576 := by omega
    by_cases htl : ts.length ≤ 1048576
    · have hti : (ts.length : Int) ≤ 1048576 := by omega
      obtain ⟨CL, hCL⟩ : ∃ CL, cutsF s.size ts = CL := ⟨_, rfl⟩
      have hcl : CL.length ≤ ts.length := by rw [← hCL]; exact cutsF_len _ _
      have hcb : ∀ x ∈ CL, -9223372036854775808 ≤ x ∧ x ≤ 9223372036854775807 := fun x hx => by
        rw [← hCL] at hx
        have := cutsF_bd _ _ x hx
        omega
      obtain ⟨r1, h1⟩ := comeL_whole s.data.toList
      obtain ⟨r2, h2⟩ := comeL_cuts s.data.toList ts wt
      have hsz : s.data.toList.length = s.size := Array.length_toList
      rw [hsz] at h1 h2
      rw [hCL] at h2
      obtain ⟨E, hE⟩ : ∃ E : Nat, (if s.size ≤ 300 then 0 else 1) = E := ⟨_, rfl⟩
      obtain ⟨TX, hTX⟩ : ∃ TX : List UInt8, (if s.size ≤ 300 then regular ⟨s.data.toList.toArray⟩ else []) = TX := ⟨_, rfl⟩
      rw [hE, hTX] at h1 h2
      obtain ⟨L, hL⟩ : ∃ L, comeE ⟨TX, E, 0, r1⟩ = L := ⟨_, rfl⟩
      have hL2 : comeE ⟨TX, E, 0, r2⟩ = L := hL
      have hwh := whole_any s
      have hpu := fun (W : World) (hF : Fresh w W) => pull_any aL aI aS W (hV.fresh hF) (hG.fresh hF) s (.slice none 0 0) [] 0 false (ints_nil W) hs (by simp) (by simp) _ h1
      have hpu2 := fun (W : World) (u : Value) (hF : Fresh w W) (hu : IntsAt W u CL) => pull_any aL aI aS W (hV.fresh hF) (hG.fresh hF) s u CL 0 wt hu hs (by omega) hcb _ h2
      rw [hL] at hpu
      rw [hL2] at hpu2
      have hll : L.length ≤ 5000 := by
        rw [← hL]
        refine comeE_len _ ?_
        have := comeL_text s.data.toList [] 0 false
        rw [h1] at this
        exact this
      have h0 : [] ++ cutsF s.size (ts.drop 0) = CL := by rw [List.drop_zero, hCL]; rfl
      have HAL := Lib.hid hal
      have HWH := Lib.hid hwh
      have HPU := Lib.hid hpu
      have HPU2 := Lib.hid hpu2
      have HE := Lib.hid hE
      have HTS := Lib.hid ht
      have HTB := Lib.hid htb
      have H0 := Lib.hid h0
      clear hal hwh hpu hpu2 hV hG ht htb h1 h2 hE hTX hL hL2 hcb hsz hCL h0
      go_enter Tryz.func10, Tryz.ntmps10
      go_upto_region 4 with (go_at_call 11; refine HAL.out.mono ?_; rintro e w1 ⟨rfl, hk1⟩)
      have HK1 := Lib.hid hk1
      clear hk1 HAL
      go_upto_block 0 with fail
      go_cut [8] (fun v wr => wr.ownsRow 0 3 1 v CL.length (intL CL) ∧ Fresh w wr)
      case first =>
        go_wp2
        go_loopw [8, 9, 10] (fun v rv i wr => ∃ (j r : Nat) (done : List Int), i = .int .i64 j ∧ j ≤ ts.length ∧ rv = .int .i64 r ∧ r ≤ s.size ∧ wr.ownsRow 0 3 1 v done.length (intL done) ∧ (∀ b, v.ownBlock = some b → w.heap.size ≤ b) ∧ Fresh w wr ∧ done ++ cutsF r (ts.drop j) = CL) (fun _ _ i _ => ts.length - (intOf i).toNat)
        case atStart => exact ⟨0, s.size, [], rfl, Nat.zero_le _, rfl, Nat.le_refl _, World.ownsRow_nil _ _ _ _, (fun b h => by cases h), HK1.out, H0.out⟩
        case round =>
          obtain ⟨j, r, done, rfl, hj, rfl, hr, hown, hob, hF, hrest⟩ := hrel
          by_cases hlt : j < ts.length
          · by_cases h1 : 1 < r
            · have i1 : (1 : Int) < (r : Int) := by omega
              have hx := List.getElem?_eq_getElem hlt
              obtain ⟨x, hxx⟩ : ∃ x, ts[j] = x := ⟨_, rfl⟩
              rw [hxx] at hx
              have hxm : x ∈ ts := by rw [← hxx]; exact List.getElem_mem hlt
              obtain ⟨xb1, xb2⟩ := HTB.out x hxm
              have hd : ts.drop j = x :: ts.drop (j + 1) := by rw [List.drop_eq_getElem_cons hlt, hxx]
              rw [hd] at hrest
              obtain ⟨q1, q2⟩ := cut_bd r x (by omega)
              unfold cutsF at hrest
              rw [if_neg (by omega)] at hrest
              obtain ⟨b, off, cap', he, hbl, hcell⟩ := IntsAt.cells (HTS.out.kept hF (fun _ _ h => h)) hlt
              have hgd : ts.getD j 0 = x := by rw [List.getD, hx]; rfl
              rw [hgd] at hcell
              cases he
              obtain ⟨u8, c8, rfl, -, -, -⟩ := own_form hown
              have hdl : done.length ≤ CL.length := by rw [← hrest]; simp
              by_cases hn : x < 0
              · rw [if_pos hn] at hrest q1 q2
                have hmod : Int.tmod (-(x + 1)) ((r : Int) - 1) = -(x + 1) % ((r : Int) - 1) := Int.tmod_eq_emod_of_nonneg (by omega)
                obtain ⟨N, hN⟩ : ∃ N : Nat, 1 + -(x + 1) % ((r : Int) - 1) = (N : Int) := ⟨_, (Int.toNat_of_nonneg (by omega)).symm⟩
                rw [hN] at hrest q1 q2
                have hN2 : ((N : Int)).toNat = N := Int.toNat_natCast N
                rw [hN2] at hrest
                have hne : ¬ (r : Int) - 1 = 0 := by omega
                have hrs : (done ++ [(N : Int)]) ++ cutsF (r - N) (ts.drop (j + 1)) = CL := by rw [← hrest]; simp
                have HO := Lib.hid (int_add wr N 3 hown)
                have HOB := Lib.hid hob
                have HFF := Lib.hid hF
                have HR := Lib.hid hrs
                clear hown hob hF hrest hx hxx hxm hd hgd hN2 hrs
                go_wp2_with (at_builtin; refine wpList_append_mine _ rfl _ _ 22 rfl 3 _ 1 8 Tryz.underlying22 infoI rfl (by decide) _ _ _ rfl HO.out _ 1 1 [.int .i64 N] rfl rfl (fun h => (by cases h)) (int_at _ _ 3 _ (by simp)) (int_one _) (by unfold maxLen; omega) (by omega) ?_)
                intro p7 c7 w7 hr7 hg7 hk7
                obtain ⟨ho7, hF7⟩ := own_grow (HFF.out.alloc _) HOB.out hg7 hk7
                have hr8 : w7.ownsRow 0 3 1 (.slice p7 (done.length + 1) c7) (done ++ [(N : Int)]).length (intL (done ++ [(N : Int)])) := by
                  rw [show intL (done ++ [(N : Int)]) = intL done ++ [.int .i64 N] from by simp [intL], List.length_append]
                  exact hr7
                have HR8 := Lib.hid hr8
                have HO7 := Lib.hid ho7
                have HF7 := Lib.hid hF7
                clear hr7 hr8 hg7 hk7 ho7 hF7
                go_wp2
                go_roundw
                case rel => exact ⟨j + 1, r - N, done ++ [(N : Int)], by go_num, by omega, by congr 1; omega, by omega, HR8.out, HO7.out, HF7.out, HR.out⟩
                case measure => simp [intOf]; omega
              · rw [if_neg hn] at hrest q1 q2
                have hmod : Int.tmod (x) ((r : Int) - 1) = x % ((r : Int) - 1) := Int.tmod_eq_emod_of_nonneg (by omega)
                obtain ⟨N, hN⟩ : ∃ N : Nat, 1 + x % ((r : Int) - 1) = (N : Int) := ⟨_, (Int.toNat_of_nonneg (by omega)).symm⟩
                rw [hN] at hrest q1 q2
                have hN2 : ((N : Int)).toNat = N := Int.toNat_natCast N
                rw [hN2] at hrest
                have hne : ¬ (r : Int) - 1 = 0 := by omega
                have hrs : (done ++ [(N : Int)]) ++ cutsF (r - N) (ts.drop (j + 1)) = CL := by rw [← hrest]; simp
                have HO := Lib.hid (int_add wr N 3 hown)
                have HOB := Lib.hid hob
                have HFF := Lib.hid hF
                have HR := Lib.hid hrs
                clear hown hob hF hrest hx hxx hxm hd hgd hN2 hrs
                go_wp2_with (at_builtin; refine wpList_append_mine _ rfl _ _ 22 rfl 3 _ 1 8 Tryz.underlying22 infoI rfl (by decide) _ _ _ rfl HO.out _ 1 1 [.int .i64 N] rfl rfl (fun h => (by cases h)) (int_at _ _ 3 _ (by simp)) (int_one _) (by unfold maxLen; omega) (by omega) ?_)
                intro p7 c7 w7 hr7 hg7 hk7
                obtain ⟨ho7, hF7⟩ := own_grow (HFF.out.alloc _) HOB.out hg7 hk7
                have hr8 : w7.ownsRow 0 3 1 (.slice p7 (done.length + 1) c7) (done ++ [(N : Int)]).length (intL (done ++ [(N : Int)])) := by
                  rw [show intL (done ++ [(N : Int)]) = intL done ++ [.int .i64 N] from by simp [intL], List.length_append]
                  exact hr7
                have HR8 := Lib.hid hr8
                have HO7 := Lib.hid ho7
                have HF7 := Lib.hid hF7
                clear hr7 hr8 hg7 hk7 ho7 hF7
                go_wp2
                go_roundw
                case rel => exact ⟨j + 1, r - N, done ++ [(N : Int)], by go_num, by omega, by congr 1; omega, by omega, HR8.out, HO7.out, HF7.out, HR.out⟩
                case measure => simp [intOf]; omega
            · have i1 : ¬ (1 : Int) < (r : Int) := by omega
              have hce : cutsF r (ts.drop j) = [] := by
                cases ts.drop j with
                | nil => rfl
                | cons a b => unfold cutsF; rw [if_pos (by omega)]
              rw [hce, List.append_nil] at hrest
              subst hrest
              have HO := Lib.hid hown
              have HF := Lib.hid hF
              clear hown hF hce hob
              go_wp2
              go_meet
              exact ⟨HO.out, HF.out⟩
          · have hjl : j = ts.length := by omega
            have hce : cutsF r (ts.drop j) = [] := by
              rw [List.drop_of_length_le (by omega)]; rfl
            rw [hce, List.append_nil] at hrest
            subst hrest
            have HO := Lib.hid hown
            have HF := Lib.hid hF
            clear hown hF hce hob
            go_wp2
            go_meet
            exact ⟨HO.out, HF.out⟩
      case rest =>
        obtain ⟨hown, hF⟩ := hcut
        have hia := ints_own hown
        obtain ⟨u8, c8, rfl, -, -, -⟩ := own_form hown
        have HIA := Lib.hid hia
        have HF := Lib.hid hF
        clear hown hF hia
        go_upto_region 16 with (first
          | (go_at_call 13; refine (HWH.out _).mono ?_; rintro e w5 ⟨rfl, hk5⟩)
          | (go_at_call 14; refine (HPU.out _ (HF.out.tr hk5)).mono ?_; rintro e w6 ⟨u, rfl, hE6, hk6⟩))
        refine name_world fun X hX => ?_
        have hcX : Fresh wc X := by rw [hX]; exact (hk5.tr hk6).alloc _
        have hX0 : X.heap[w6.heap.size]? = some (.cells #[.int .i64 E, .int .i64 0] 25 (0, 0)) := by rw [hX]; exact heap_alloc_new w6 _
        have hEX : EvSl X ((u.ownBlock).getD 0) u L := by rw [hX]; exact (hE6.fresh ((Keeps.refl _ _).alloc _)).sl
        have hiX := HIA.out.kept hcX (fun _ _ h => h)
        have hFX := HF.out.tr hcX
        have HX0 := Lib.hid hX0
        have HEX := Lib.hid hEX
        have HIX := Lib.hid hiX
        have HFX := Lib.hid hFX
        clear hX hcX hX0 hEX hiX hFX hk5 hk6 hE6 HIA HF HPU HWH
        go_upto_region 17 with (go_at_call 14; refine (HPU2.out _ _ HFX.out HIX.out).mono ?_; rintro e w7 ⟨u2, rfl, hE7, hk7⟩)
        refine name_world fun Y hY => ?_
        have hcY : Fresh X Y := by rw [hY]; exact hk7.alloc _
        have hY0 := hcY.heap_some HX0.out (fun h => h)
        have hY1 : Y.heap[w7.heap.size]? = some (.cells #[.int .i64 E, .int .i64 0] 25 (0, 0)) := by rw [hY]; exact heap_alloc_new w7 _
        have hEY : EvSl Y ((u2.ownBlock).getD 0) u2 L := by rw [hY]; exact (hE7.fresh ((Keeps.refl _ _).alloc _)).sl
        have hEY1 := HEX.out.fresh hcY
        have hFY := HFX.out.tr hcY
        have hsm := sameK_sl u u2 _ _ L Y hEY1 hEY (by omega)
        have HSM := Lib.hid hsm
        have HY0 := Lib.hid hY0
        have HY1 := Lib.hid hY1
        have HFY := Lib.hid hFY
        clear hY hcY hY0 hY1 hEY hEY1 hFY hsm hk7 hE7 HX0 HEX HIX HFX HPU2
        go_upto_region 18 with (go_at_call 27; refine HSM.out.mono ?_; rintro e w8 ⟨rfl, hk8⟩)
        have hZ0 := hk8.heap_some HY0.out (fun h => h)
        have hZ1 := hk8.heap_some HY1.out (fun h => h)
        have x0 : w8.cell? ⟨w6.heap.size, 0, none⟩ = some (.int .i64 E) := by rw [Lib.cell_of_heap hZ0]; rfl
        have x1 : w8.cell? ⟨w6.heap.size, 1, none⟩ = some (.int .i64 0) := by rw [Lib.cell_of_heap hZ0]; rfl
        have y0 : w8.cell? ⟨w7.heap.size, 0, none⟩ = some (.int .i64 E) := by rw [Lib.cell_of_heap hZ1]; rfl
        have y1 : w8.cell? ⟨w7.heap.size, 1, none⟩ = some (.int .i64 0) := by rw [Lib.cell_of_heap hZ1]; rfl
        have HFZ := Lib.hid (HFY.out.tr hk8)
        have hE := HE.out
        clear hZ0 hZ1 hk8 HY0 HY1 HFY HSM HE
        by_cases h300 : s.size ≤ 300
        · have h3i : (s.size : Int) ≤ 300 := by omega
          rw [if_pos h300] at hE
          subst hE
          go_wp2
          go_ret
          exact ⟨rfl, HFZ.out⟩
        · have h3i : ¬ (s.size : Int) ≤ 300 := by omega
          rw [if_neg h300] at hE
          subst hE
          go_wp2
          go_ret
          exact ⟨rfl, HFZ.out⟩
    · have hti : ¬ (ts.length : Int) ≤ 1048576 := by omega
      have hti2 : (1048576 : Int) < (ts.length : Int) := by omega
      have HAL := Lib.hid hal
      clear hal hV hG ht
      go_enter Tryz.func10, Tryz.ntmps10
      go_wp2_with (go_at_call 11; refine HAL.out.mono ?_; rintro e w1 ⟨rfl, hk1⟩)
      go_ret
      exact ⟨rfl, hk1⟩
  · have hsi : (1048576 : Int) < (s.size : Int) := by omega
    have HAL := Lib.hid hal
    clear hal hV hG ht
    go_enter Tryz.func10, Tryz.ntmps10
    go_wp2_with (go_at_call 11; refine HAL.out.mono ?_; rintro e w1 ⟨rfl, hk1⟩)
    go_ret
    exact ⟨rfl, hk1⟩
end Go.Proofs.YtbioecifiogffaaGreatDoor
