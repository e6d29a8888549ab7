/- proseref.listed, by what Blocks does with fewer lines. Condition: no more than 2^24 bytes. -/
import Derived.Test.YtbioecifiogffaaDoorBlkRef8
import Derived.Deep.CutBlock
import Derived.Deep.DeepCutAuto
namespace Go.Proofs.YtbioecifiogffaaDoor
open Go.RowKit

theorem isItm_blank {s : Ln} (h : isItm s = true) : blank s = false := by
  have b45 : bl 45 = false := by decide
  unfold isItm at h
  split at h
  · simp [blank, b45]
  · simp [blank, b45]
  · cases h
theorem nbl_zero {s : Ln} (t : List Ln) (h : blank s = false) : nbl (s :: t) = 0 := by simp [nbl, h]
theorem lst_item {f : Nat} {s : Ln} {t : List Ln} (h : isItm s = true) : lst (f + 1) (s :: t) = ((s.drop 2 :: (itm t).1) :: (lst f (itm t).2).1, (lst f (itm t).2).2) :=
  lst_go (by rw [nbl_zero t (isItm_blank h)]; rfl) h
theorem lst_skip {f : Nat} {l : List Ln} {s : Ln} {t : List Ln} (h : l.drop (nbl l) = s :: t) (hi : isItm s = true) : lst (f + 1) l = lst (f + 1) (s :: t) := by
  rw [lst_go h hi, lst_item hi]
/-- An item's events, its lines by Blocks at fuel m. -/
def itE (m d : Nat) (x : List Ln) : List EvL := bgE 4 :: (blkF m (d + 1) x ++ [fnE 4])
theorem lst_ev_len (m d F : Nat) (l : List Ln) : ((lst F l).1.flatMap (itE m d)).length ≤ 4 * tot l := by
  have h1 := lst_sum F l
  have h2 := flat_len (itE m d) (fun x => 4 * tot x + 4) (fun a => by have := blkF_len m (d + 1) a; simp [itE]; omega) (lst F l).1
  omega
theorem itm_len (l : List Ln) : (itm l).2.length ≤ l.length := by
  induction l with
  | nil => simp [itm]
  | cons s t ih =>
    unfold itm
    split
    · split
      · simp
      · simp only [List.length_cons]; omega
    · split
      · simp only [List.length_cons]; omega
      · simp
theorem item_tot {s : Ln} {t : List Ln} (h : isItm s = true) : tot (s.drop 2 :: (itm t).1) + tot (itm t).2 + 1 ≤ tot (s :: t) := by
  have h1 := isItm_len h
  have h2 := itm_tot t
  rw [tot_cons, tot_cons]
  omega

theorem ba_lst {A : ByteArray} {l : List UInt8} (h : A.data.toList = l) : A = ⟨l.toArray⟩ := by subst h; rfl

set_option maxHeartbeats 16000000 in
set_option maxRecDepth 100000 in
theorem listed_any (m F : Nat) (IH : RBlkOK m) (g : Nat) (v : Value) (l : List Ln) (d : Nat) (w : World) (h : LnAt w g v l) (hL : tot l ≤ 16777216) (hd3 : d < 3) (hm : tot l ≤ m) (hF0 : l.length ≤ F) (s0 : Ln) (t0 : List Ln) (hl0 : l = s0 :: t0) (hi0 : isItm s0 = true) :
    Calls Tryd.prog 33 #[v, .int .i64 d] w fun e w' => ∃ u N, e = .returned (.tuple #[u, .int .i64 ((N : Nat) : Int)]) ∧ N ≤ l.length ∧ l.drop N = (lst F l).2 ∧ Evs w' 61 u (EL (bgE 3 :: ((lst F l).1.flatMap (itE m d) ++ [fnE 3]))) ∧ (∀ b, u.ownBlock = some b → w.heap.size ≤ b) ∧ Fresh w w' := by
  have hlen := tot_len l
  obtain ⟨Y, hY⟩ : ∃ Y, Y = (lst F l).2 := ⟨_, rfl⟩
  obtain ⟨X, hX⟩ : ∃ X, X = [⟨3, false, 0, []⟩] ++ EL ((lst F l).1.flatMap (itE m d)) := ⟨_, rfl⟩
  have hres : EL (bgE 3 :: ((lst F l).1.flatMap (itE m d) ++ [fnE 3])) = X ++ [⟨3, true, 0, []⟩] := by rw [hX]; simp [EL, bgE, fnE]
  have hXl : X.length ≤ 1 + 4 * tot l := by have := lst_ev_len m d F l; rw [hX, List.length_append]; unfold EL; rw [List.length_map]; simp only [List.length_cons, List.length_nil]; omega
  rw [hres, ← hY]
  have hstart : [⟨3, false, 0, []⟩] ++ EL ((lst F (l.drop 0)).1.flatMap (itE m d)) = X ∧ (lst F (l.drop 0)).2 = Y := by rw [List.drop_zero]; exact ⟨hX.symm, hY.symm⟩
  have hd0 : l.drop 0 = s0 :: t0 := hl0
  have hf0 : (l.drop 0).length ≤ F := by rw [List.drop_zero]; exact hF0
  obtain ⟨a, cap, rfl⟩ := h.form
  have hlit : (w.alloc (.cells #[.int .i64 3, .bool false, .int .i64 0, .string ⟨#[]⟩] 61)).ownsRow 0 61 4 (.slice (some ⟨w.heap.size, 0, none⟩) 1 1) 1 (evCells [⟨3, false, 0, []⟩]) := Evs.lit w 61 [⟨3, false, 0, []⟩] (by simp [maxLen])
  obtain ⟨W, hW⟩ : ∃ W, w.alloc (.cells #[.int .i64 3, .bool false, .int .i64 0, .string ⟨#[]⟩] 61) = W := ⟨_, rfl⟩
  have hFW : Fresh w W := by rw [← hW]; exact (Keeps.refl _ _).alloc _
  have hWs : w.heap.size < W.heap.size := by rw [← hW]; simp
  rw [hW] at hlit
  have ho1 : ∀ b, (Value.slice (some ⟨w.heap.size, 0, none⟩) 1 1).ownBlock = some b → w.heap.size ≤ b := fun b h => by simp [Value.ownBlock] at h; omega
  have HI := Lib.hid Tryd.infoStr
  have HE := Lib.hid Tryd.infoRE2
  have H := Lib.hid h
  have HST := Lib.hid hstart
  have HD0 := Lib.hid hd0
  have HI0 := Lib.hid hi0
  have HLIT := Lib.hid hlit
  have HFW := Lib.hid hFW
  have HO1 := Lib.hid ho1
  have HIH := Lib.hid IH
  clear h hX hY hstart hres hl0 hd0 hi0 hlit hFW IH ho1
  go_enter Tryd.func33, Tryd.ntmps33
  go_upto_block 0 with fail
  clear hW
  go_cut [6, 7] (fun u p wx => ∃ N : Nat, p = .int .i64 N ∧ N ≤ l.length ∧ l.drop N = Y ∧ Evs wx 61 u X ∧ (∀ b, u.ownBlock = some b → w.heap.size ≤ b) ∧ Fresh w wx)
  case rest =>
    obtain ⟨N, rfl, hN, hNY, he, ho, hF⟩ := hcut
    obtain ⟨q, c, rfl, hc, hq, hg⟩ := own_form he
    have he2 : wc.ownsRow 0 61 4 (.slice q X.length c) X.length (evCells X) := he
    have HR6 := Lib.hid (ev_add _ ⟨3, true, 0, []⟩ 61 he2)
    have HO5 := Lib.hid ho
    have HF5 := Lib.hid hF
    have HNY := Lib.hid hNY
    clear he he2 ho hF hNY hc hq hg
    go_wp2_with (at_builtin; refine wpList_append_mine _ rfl _ _ 37 rfl 61 _ 4 40 Tryd.underlying37 HE.out rfl (by decide) _ _ _ rfl HR6.out _ 1 1 (⟨3, true, 0, []⟩ : Ev).cells rfl rfl (fun h => (by cases h)) (ev_at _ ⟨3, true, 0, []⟩ 61 _ (by simp)) (ev_one _) (by unfold maxLen; omega) (by omega) ?_)
    intro p7 c7 w7 hr7 hg7 hk7
    obtain ⟨ho7, hF7⟩ := own_grow (HF5.out.alloc _) HO5.out hg7 hk7
    have HE7 := Lib.hid (evs_three (L := X) hr7 rfl)
    have HO7 := Lib.hid ho7
    have HF7 := Lib.hid hF7
    clear hr7 hg7 hk7 ho7 hF7
    go_wp2
    go_ret2
    exact ⟨_, _, rfl, hN, HNY.out, HE7.out, HO7.out, HF7.out⟩
  case first =>
    go_wp2_with fail
    go_loopw [6, 7] (fun u p wr => ∃ (j f : Nat) (done : List Ev) (s : Ln) (t : List Ln), p = .int .i64 j ∧ j ≤ l.length ∧ l.drop j = s :: t ∧ isItm s = true ∧ (l.drop j).length ≤ f ∧ wr.ownsRow 0 61 4 u done.length (evCells done) ∧ (∀ b, u.ownBlock = some b → w.heap.size ≤ b) ∧ Fresh w wr ∧ done ++ EL ((lst f (l.drop j)).1.flatMap (itE m d)) = X ∧ (lst f (l.drop j)).2 = Y) (fun _ p _ => l.length - (intOf p).toNat)
    case atStart => exact ⟨0, F, [⟨3, false, 0, []⟩], s0, t0, rfl, Nat.zero_le _, HD0.out, HI0.out, hf0, HLIT.out, HO1.out, HFW.out, HST.out⟩
    case round =>
      obtain ⟨j, f, done, s, t, rfl, hj, hd, hi, hf, hu, ho, hF, hr1, hr2⟩ := hrel
      obtain ⟨wo, rfl⟩ : ∃ wo : World, wo = wr := ⟨_, rfl⟩
      obtain ⟨q, c, rfl, hqc, hq, hg⟩ := own_form hu
      go_upto_if 23 with (at_builtin; refine wpList_append_mine _ rfl _ _ 41 rfl 9 _ 1 16 Tryd.underlying41 HI.out rfl (by decide) _ _ _ rfl (ln_add _ ⟨#[]⟩ 9 (World.ownsRow_nil _ _ _ _)) _ 1 1 [.string ⟨#[]⟩] rfl rfl (fun h => (by cases h)) (ln_at _ ⟨#[]⟩ 9 _ (by simp)) (str_one _) (by decide) (by decide) ?_)
      intro p5 c5 w5 hr5 hg5 hk5
      have hF5 : Fresh wo w5 := (((Keeps.refl (fun _ => False) wo).alloc _).trans hk5 (fun k _ hk => by cases hk))
      have hp5 : ∀ b, (Value.slice p5 1 c5).ownBlock = some b → wo.heap.size ≤ b := fun b hb => by
        rcases hg5 b hb with h1 | h1
        · cases h1
        · simp at h1; omega
      obtain ⟨g5, rfl, hg5s⟩ : ∃ g5, p5 = some ⟨g5, 0, none⟩ ∧ g5 < w5.heap.size := by
        obtain ⟨p', c', he', _, hn', hg'⟩ := own_form hr5
        cases he'
        cases p5 with
        | none => have := (hn' rfl).1; omega
        | some ad => obtain ⟨g5, rfl, h5⟩ := hg' ad rfl; exact ⟨g5, rfl, h5⟩
      have hg5w : wo.heap.size ≤ g5 := hp5 g5 rfl
      have hs : l[j]? = some s := by have := congrArg (·[0]?) hd; simpa [List.getElem?_drop] using this
      have hlt : j < l.length := (List.getElem?_eq_some_iff.1 hs).1
      have hFw5 : Fresh w w5 := hF.tr hF5
      obtain ⟨cap', off, he, h1, h2, hcell⟩ := (H.out.fresh hFw5).line hs
      cases he
      obtain ⟨S, hS, hSl, hSs⟩ := mk_of s
      rw [hS] at hcell
      have hst : s.length ≤ 16777216 := by have := tot_drop l j; rw [hd, tot_cons] at this; omega
      have hitm := item_tot (t := t) hi
      have htj := tot_drop l j
      rw [hd] at htj
      obtain ⟨f, rfl⟩ : ∃ k, f = k + 1 := ⟨f - 1, by rw [hd] at hf; simp at hf; omega⟩
      rw [hd] at hf hr1 hr2
      rw [lst_item hi] at hr1 hr2
      have hT2l := itm_len t
      obtain ⟨IN, hIN⟩ : ∃ IN, s.drop 2 :: (itm t).1 = IN := ⟨_, rfl⟩
      obtain ⟨T2, hT2⟩ : ∃ T2, (itm t).2 = T2 := ⟨_, rfl⟩
      rw [hIN, hT2] at hr1 hr2
      rw [hIN, hT2] at hitm
      rw [hT2] at hT2l
      have hdt : l.drop (j + 1) = t := by have := congrArg (List.drop 1) hd; simpa [List.drop_drop] using this
      have htl : t.length + (j + 1) = l.length := by rw [← hdt, List.length_drop]; omega
      have HTL := Lib.hid htl
      have hloop2 : [s.drop 2] ++ (itm (l.drop (j + 1))).1 = IN ∧ (itm (l.drop (j + 1))).2 = T2 := by rw [hdt]; exact ⟨hIN, hT2⟩
      have HS := Lib.hid (hF)
      have HU := Lib.hid hu
      have HO := Lib.hid ho
      have HF5 := Lib.hid hF5
      have HR1 := Lib.hid hr1
      have HR2 := Lib.hid hr2
      have HR5 := Lib.hid hr5
      have HL2 := Lib.hid hloop2
      have HSL := Lib.hid hSl
      have HSS := Lib.hid hSs
      have HHD := Lib.hid hd
      have HC5 := Lib.hid (own_cells hr5 rfl)
      have hcg : w5.cell? ⟨g5, 0, none⟩ = some (.string ⟨#[]⟩) := World.ownsRow.cells (v := .slice (some ⟨g5, 0, none⟩) 1 c5) hr5 (g := g5) rfl 0 _ rfl
      have hfg : w5.frozen? ⟨g5, 0, none⟩ = false := World.ownsRow.frozenAt hr5 0
      clear hF hu ho hr1 hr2 hr5 hloop2 hSl hd hIN hT2 hdt hs hg5 hk5 hFw5 hF5 hp5 hqc hq hg hS hSs
      go_upto_if 23 with fail
      go_cut [8] (fun v wx => wx.ownsRow 0 9 1 v 1 (lnCells [s.drop 2]) ∧ (∀ b, v.ownBlock = some b → wo.heap.size ≤ b) ∧ Fresh wo wx)
      case first =>
        by_cases h2s : 2 < S.size
        · have h2S : (2 : Int) < (S.size : Int) := by omega
          have h2S' : (2 : Int) ≤ (S.size : Int) := by omega
          go_wp2
          go_meet
          refine ⟨?_, fun b hb => ?_, ?_⟩
          · have h1 := (World.ownsRow.stored HR5.out 0 (.string (S.extract 2 S.size))).1
            have h2 : S.extract 2 S.size = ⟨(s.drop 2).toArray⟩ := ba_lst (by rw [rest_list, HSL.out])
            rw [h2] at h1 ⊢
            exact h1
          · simp [Value.ownBlock] at hb; omega
          · exact Keeps.setCell HF5.out (p := ⟨g5, 0, none⟩) (fun h => by simp at h; omega) _
        · have h2S : ¬ (2 : Int) < (S.size : Int) := by omega
          go_wp2
          go_meet
          refine ⟨?_, fun b hb => ?_, HF5.out⟩
          · have h2 : s.drop 2 = [] := List.drop_eq_nil_of_le (by rw [← HSS.out]; omega)
            rw [h2]
            exact HR5.out
          · simp [Value.ownBlock] at hb; omega
      case rest =>
        obtain ⟨hin, hino, hFc⟩ := hcut
        obtain ⟨q8, c8, rfl, -, -, -⟩ := own_form hin
        have HIN := Lib.hid hin
        have HINO := Lib.hid hino
        have HFC := Lib.hid hFc
        have hsw := hFc.size
        have hsw2 := HS.out.size
        clear hin hino hFc hcell hcg hfg
        go_upto_block 2 with fail
        go_cut [7, 8] (fun p v wx => ∃ j2 : Nat, p = .int .i64 j2 ∧ j2 ≤ l.length ∧ l.drop j2 = T2 ∧ Lns wx v IN ∧ (∀ b, v.ownBlock = some b → wo.heap.size ≤ b) ∧ Fresh wo wx)
        case first =>
          go_wp2_with fail
          go_loopw [7, 8] (fun p v wx => ∃ (j3 : Nat) (ins : List Ln), p = .int .i64 j3 ∧ j3 ≤ l.length ∧ wx.ownsRow 0 9 1 v ins.length (lnCells ins) ∧ ins.length ≤ j3 + 1 ∧ ins ++ (itm (l.drop j3)).1 = IN ∧ (itm (l.drop j3)).2 = T2 ∧ (∀ b, v.ownBlock = some b → wo.heap.size ≤ b) ∧ Fresh wo wx) (fun p _ _ => l.length - (intOf p).toNat)
          case atStart => exact ⟨j + 1, [s.drop 2], by go_num, by omega, HIN.out, by simp, HL2.out.1, HL2.out.2, HINO.out, HFC.out⟩
          case round =>
            obtain ⟨j3, ins, rfl, hj3, hv3, hil, hi1, hi2, ho3, hF3⟩ := hrel
            obtain ⟨q3, c3, rfl, -, -, -⟩ := own_form hv3
            have hFx : Fresh w wr := HS.out.tr hF3
            by_cases hlt3 : j3 < l.length
            · have hnb := nbl_le (l.drop j3)
              rw [List.length_drop] at hnb
              have hbh := behind_any g _ l j3 wr (H.out.fresh hFx) hj3 hL
              obtain ⟨K, hK⟩ : ∃ K, j3 + nbl (l.drop j3) = K := ⟨_, rfl⟩
              rw [hK] at hbh
              have hKd : (l.drop j3).drop (nbl (l.drop j3)) = l.drop K := by rw [List.drop_drop, hK]
              have HKK := Lib.hid hK
              have HBH := Lib.hid hbh
              have HV3 := Lib.hid hv3
              have HO3 := Lib.hid ho3
              have HF3 := Lib.hid hF3
              have hKl : K ≤ l.length := by omega
              have hKj : j3 ≤ K := by omega
              clear hbh hK hv3 ho3 hF3
              by_cases hKe : K = l.length
              · have he := itm_end (hKd.trans (by rw [hKe, List.drop_length]))
                rw [he, List.append_nil] at hi1
                rw [he] at hi2
                have e1 : ((K : Int) == (l.length : Int)) = true := by rw [hKe]; simp
                have HI1 := Lib.hid hi1
                have HI2 := Lib.hid hi2
                clear hi1 hi2 he hKd hKe
                go_wp2_with fail
                refine HBH.out.mono ?_
                rintro e w6 ⟨rfl, hk6⟩
                have HK6 := Lib.hid hk6
                clear hk6
                go_wp2
                go_meet
                refine ⟨j3, rfl, hj3, HI2.out, ?_, HO3.out, HF3.out.tr HK6.out⟩
                have := own_kept HV3.out HK6.out (fun _ _ h => h)
                rw [← HI1.out]
                exact this
              · have e1 : ((K : Int) == (l.length : Int)) = false := by rw [beq_eq_false_iff_ne]; omega
                have hKlt : K < l.length := by omega
                obtain ⟨s2, hs2, hd2⟩ := line_at hKlt
                obtain ⟨S2, hS2, hSl2, hSs2⟩ := mk_of s2
                have hst2 : s2.length ≤ 16777216 := by have := tot_drop l K; rw [hd2, tot_cons] at this; omega
                have hbg := fun W' : World => begins_any S2 ⟨#[32, 32]⟩ W' (by omega) (by decide)
                rw [hSl2, show (⟨#[32, 32]⟩ : ByteArray).data.toList = [32, 32] from rfl, isInd_pre] at hbg
                cases hind : isInd s2 with
                | false =>
                  rw [hind] at hbg
                  have he := itm_stop (hKd.trans hd2) hind
                  rw [he, List.append_nil] at hi1
                  rw [he] at hi2
                  have HI1 := Lib.hid hi1
                  have HI2 := Lib.hid hi2
                  have HBG := Lib.hid hbg
                  have HS2 := Lib.hid hs2
                  clear hi1 hi2 he hKd hbg hs2 hd2 hSl2 hSs2 hKe
                  go_wp2_with fail
                  refine HBH.out.mono ?_
                  rintro e w6 ⟨rfl, hk6⟩
                  obtain ⟨cap2, off2, hev, -, -, hcell⟩ := ((H.out.fresh hFx).fresh hk6).line HS2.out
                  cases hev
                  rw [hS2] at hcell
                  have HK6 := Lib.hid hk6
                  clear hk6 hS2
                  go_wp2_with fail
                  refine (HBG.out _).mono ?_
                  rintro e w7 ⟨rfl, hk7⟩
                  have HK7 := Lib.hid hk7
                  clear hk7
                  go_wp2
                  go_meet
                  refine ⟨j3, rfl, hj3, HI2.out, ?_, HO3.out, (HF3.out.tr HK6.out).tr HK7.out⟩
                  have := own_kept HV3.out (HK6.out.tr HK7.out) (fun _ _ h => h)
                  rw [← HI1.out]
                  exact this
                | true =>
                  rw [hind] at hbg
                  have he := itm_go (hKd.trans hd2) hind
                  rw [he] at hi1 hi2
                  obtain ⟨N3, hN3⟩ : ∃ N3, nbl (l.drop j3) = N3 := ⟨_, rfl⟩
                  have hKN : j3 + N3 = K := by rw [← hN3]; exact HKK.out
                  rw [hN3] at hi1 hi2
                  have hcell := fun (W' : World) (hW' : Fresh w W') => (H.out.fresh hW').line hs2
                  obtain ⟨U, hU⟩ : ∃ U, S2.extract 2 S2.size = U := ⟨_, rfl⟩
                  have hUl : U.data.toList = s2.drop 2 := by rw [← hU, rest_list, hSl2]
                  have hS2s : (2 : Int) ≤ (S2.size : Int) := by
                    have : 2 ≤ s2.length := by
                      unfold isInd at hind
                      split at hind
                      · simp
                      · cases hind
                    omega
                  have HI1 := Lib.hid hi1
                  have HI2 := Lib.hid hi2
                  have HBG := Lib.hid hbg
                  have HCELL := Lib.hid hcell
                  have HU2 := Lib.hid hU
                  have HUL := Lib.hid hUl
                  have HD2 := Lib.hid hd2
                  clear hi1 hi2 he hKd hbg hs2 hd2 hSl2 hSs2 hKe hcell hind hN3 hU hUl
                  go_wp2_with fail
                  refine HBH.out.mono ?_
                  rintro e w6 ⟨rfl, hk6⟩
                  obtain ⟨cap2, off2, hev, -, -, hcell⟩ := HCELL.out w6 (hFx.tr hk6)
                  cases hev
                  rw [hS2] at hcell
                  have HK6 := Lib.hid hk6
                  have HFX := Lib.hid hFx
                  clear hk6 hFx
                  go_wp2_with fail
                  refine (HBG.out _).mono ?_
                  rintro e w7 ⟨rfl, hk7⟩
                  have HK7 := Lib.hid (HK6.out.tr hk7)
                  have HV7 := Lib.hid (own_kept HV3.out HK7.out (fun _ _ h => h))
                  have HF7 := Lib.hid (HF3.out.tr HK7.out)
                  have HFW7 := Lib.hid (HFX.out.tr HK7.out)
                  have hsz7 := HF7.out.size
                  clear hk7 hcell
                  go_wp2
                  go_loopw [7, 8] (fun p v wx => ∃ i : Nat, i ≤ N3 ∧ p = .int .i64 ((j3 + i : Nat) : Int) ∧ wx.ownsRow 0 9 1 v (ins.length + i) (lnCells (ins ++ List.replicate i [])) ∧ (∀ b, v.ownBlock = some b → wo.heap.size ≤ b) ∧ Fresh wo wx) (fun p _ _ => K - (intOf p).toNat)
                  case atStart => exact ⟨0, Nat.zero_le _, rfl, by simpa using HV7.out, HO3.out, HF7.out⟩
                  case round =>
                    obtain ⟨i, hiN, rfl, hvi, hoi, hFi⟩ := hrel
                    obtain ⟨qi, ci, rfl, -, -, -⟩ := own_form hvi
                    have HVI := Lib.hid (ln_add _ ⟨#[]⟩ 9 hvi)
                    have HOI := Lib.hid hoi
                    have HFI := Lib.hid hFi
                    have hszi := hFi.size
                    by_cases hiL : i < N3
                    · have hlt9 : ((j3 + i : Nat) : Int) < (K : Int) := by omega
                      clear hvi hoi hFi
                      go_wp2_with (at_builtin; refine wpList_append_mine _ rfl _ _ 41 rfl 9 _ 1 16 Tryd.underlying41 HI.out rfl (by decide) _ _ _ rfl HVI.out _ 1 1 [.string ⟨#[]⟩] rfl rfl (fun h => (by cases h)) (ln_at _ ⟨#[]⟩ 9 _ (by simp)) (str_one _) (by unfold maxLen; omega) (by omega) ?_)
                      intro p8 c8 w8 hr8 hg8 hk8
                      obtain ⟨ho8, hF8⟩ := own_grow (HFI.out.alloc _) HOI.out hg8 hk8
                      have hr9 : w8.ownsRow 0 9 1 (.slice p8 (ins.length + (i + 1)) c8) (ins.length + (i + 1)) (lnCells (ins ++ List.replicate (i + 1) [])) := by
                        rw [List.replicate_succ', ← List.append_assoc, lnCells_append]
                        exact hr8
                      have HR9 := Lib.hid hr9
                      have HO9 := Lib.hid ho8
                      have HF9 := Lib.hid hF8
                      clear hr8 hg8 hk8 ho8 hF8 hr9
                      go_wp2
                      go_roundw
                      case rel => exact ⟨i + 1, by omega, by go_num, HR9.out, HO9.out, HF9.out⟩
                      case measure => simp [intOf]; omega
                    · have hiE : i = N3 := by omega
                      subst hiE
                      have hnlt9 : ¬ ((j3 + i : Nat) : Int) < (K : Int) := by omega
                      obtain ⟨cap2', off2', hev, -, -, hcell⟩ := HCELL.out wr (HS.out.tr HFI.out)
                      cases hev
                      rw [hS2] at hcell
                      have hvu := ln_add wr U 9 hvi
                      have HVU := Lib.hid hvu
                      have hUe := HU2.out
                      clear hvi hoi hFi hvu hS2
                      go_wp2_with (at_builtin; refine wpList_append_mine _ rfl _ _ 41 rfl 9 _ 1 16 Tryd.underlying41 HI.out rfl (by decide) _ _ _ rfl HVU.out _ 1 1 [.string U] rfl rfl (fun h => (by cases h)) (ln_at _ U 9 _ (by simp)) (str_one _) (by unfold maxLen; omega) (by omega) ?_)
                      intro p8 c8 w8 hr8 hg8 hk8
                      obtain ⟨ho8, hF8⟩ := own_grow (HFI.out.alloc _) HOI.out hg8 hk8
                      have hr9 : w8.ownsRow 0 9 1 (.slice p8 (ins.length + i + 1) c8) (ins ++ List.replicate i [] ++ [s2.drop 2]).length (lnCells (ins ++ List.replicate i [] ++ [s2.drop 2])) := by
                        rw [lnCells_append, ← HUL.out]
                        have : (ins ++ List.replicate i [] ++ [U.data.toList]).length = ins.length + i + 1 := by simp; omega
                        rw [this]
                        exact hr8
                      have HR9 := Lib.hid hr9
                      have HO9 := Lib.hid ho8
                      have HF9 := Lib.hid hF8
                      clear hr8 hg8 hk8 ho8 hF8 hr9 hUe hcell
                      go_wp2
                      go_roundw
                      case rel => exact ⟨K + 1, _, by go_num, by omega, HR9.out, by simp; omega, by rw [← HI1.out]; simp, HI2.out, HO9.out, HF9.out⟩
                      case measure => simp [intOf]; omega
            · have hje : j3 = l.length := by omega
              have he : itm (l.drop j3) = ([], []) := by rw [hje, List.drop_length]; rfl
              rw [he, List.append_nil] at hi1
              rw [he] at hi2
              have HI1 := Lib.hid hi1
              have HI2 := Lib.hid hi2
              have HV3 := Lib.hid hv3
              have HO3 := Lib.hid ho3
              have HF3 := Lib.hid hF3
              clear hi1 hi2 he hv3 ho3 hF3
              go_wp2
              go_meet
              refine ⟨j3, by rw [hje], hj3, ?_, ?_, HO3.out, HF3.out⟩
              · rw [← HI2.out, hje, List.drop_length]
              · rw [← HI1.out]
                exact HV3.out
        case rest =>
          obtain ⟨j2, rfl, hj2, hjT, hln, hlo, hF2⟩ := hcut
          have hFx : Fresh w wc := HS.out.tr hF2
          obtain ⟨q2, c2, rfl, -, -, -⟩ := own_form hln
          have hat := hln.at
          generalize hgv : (Value.slice q2 IN.length c2).ownBlock.getD 0 = gv at hat
          have htx : tot IN < m := by omega
          have hbk := HIH.out gv _ IN (d + 1) wc hat htx (by omega) (by omega)
          obtain ⟨BB, hBB⟩ : ∃ BB, BB = EL (blkF m (d + 1) IN) := ⟨_, rfl⟩
          rw [← hBB] at hbk
          have hit : EL (itE m d IN) = [⟨4, false, 0, []⟩] ++ BB ++ [⟨4, true, 0, []⟩] := by rw [hBB]; simp [EL, itE, bgE, fnE]
          have hr1 := HR1.out
          have hr2 := HR2.out
          simp only [List.flatMap_cons, EL_append, hit] at hr1
          obtain ⟨D2, hD2⟩ : ∃ D2, done ++ [⟨4, false, 0, []⟩] ++ BB ++ [⟨4, true, 0, []⟩] = D2 := ⟨_, rfl⟩
          have hr3 : D2 ++ EL ((lst f T2).1.flatMap (itE m d)) = X := by rw [← hD2, ← hr1]; simp
          have hD2l : D2.length = done.length + BB.length + 2 := by rw [← hD2]; simp; omega
          have HDL := Lib.hid hD2l
          have hDX : done.length + BB.length + 2 ≤ X.length := by rw [← hD2l, ← hr3]; simp
          have hjlt : j < j2 := by have := HTL.out; have h9 : T2.length = l.length - j2 := by rw [← hjT]; simp
                                   omega
          have hnb := nbl_le T2
          have hT2len : T2.length = l.length - j2 := by rw [← hjT]; simp
          obtain ⟨K, hK⟩ : ∃ K, j2 + nbl (l.drop j2) = K := ⟨_, rfl⟩
          have hKd : T2.drop (nbl T2) = l.drop K := by rw [← hK, ← hjT, List.drop_drop]
          have hKl : j2 ≤ K ∧ K ≤ l.length := by rw [← hK, hjT]; omega
          have hbh := fun (W' : World) (hW' : Fresh w W') => behind_any g _ l j2 W' (H.out.fresh hW') hj2 hL
          rw [hK] at hbh
          have huc := own_kept HU.out hF2 (fun _ _ h => h)
          have hqlt : ∀ b, (Value.slice q done.length c).ownBlock = some b → b < wc.heap.size := fun b hb => by
            obtain ⟨p', c', he', _, _, hg'⟩ := own_form huc
            cases he'
            cases q with
            | none => cases hb
            | some ad => obtain ⟨g', rfl, h5⟩ := hg' ad rfl; simp [Value.ownBlock] at hb; omega
          have HQL := Lib.hid hqlt
          have HBK := Lib.hid hbk
          have HBH := Lib.hid hbh
          have HU2 := Lib.hid huc
          have HFX := Lib.hid hFx
          have HR3 := Lib.hid hr3
          have HRY := Lib.hid hr2
          have HD2 := Lib.hid hD2
          have HKD := Lib.hid hKd
          have HJT := Lib.hid hjT
          generalize hbn : BB.length = bn at *
          have HBN := Lib.hid hbn
          clear hbk hbh huc hFx hr3 hr2 hr1 hD2 hKd hjT hK hat hgv hln hlo hF2 hit hBB hqlt hbn hD2l
          go_wp2_with fail
          refine HBK.out.mono ?_
          rintro e w6 ⟨u6, rfl, he6, ho6, hk6⟩
          obtain ⟨q6, c6, rfl, hc6, hn6, -⟩ := own_form he6
          have hlen4 : (evCells BB).length = bn * 4 := by rw [evCells_length, HBN.out]
          have HL4 := Lib.hid hlen4
          have HU6 := Lib.hid (ev_add w6 ⟨4, false, 0, []⟩ 61 (own_kept HU2.out hk6 (fun _ _ h => h)))
          have HF6 := Lib.hid (HFX.out.tr hk6)
          have HO6 := Lib.hid ho6
          have HN6 := Lib.hid hn6
          rw [HBN.out] at *
          have HE6 := Lib.hid (he6.fresh ((Keeps.refl (fun _ => False) w6).alloc (.cells #[.int .i64 4, .bool false, .int .i64 0, .string ⟨#[]⟩] 61)))
          clear he6 hlen4 hk6 ho6 hn6 hc6
          go_wp2_with (at_builtin; refine wpList_append_mine _ rfl _ _ 37 rfl 61 _ 4 40 Tryd.underlying37 HE.out rfl (by decide) _ _ _ rfl HU6.out _ 1 1 (⟨4, false, 0, []⟩ : Ev).cells rfl rfl (fun h => (by cases h)) (ev_at _ ⟨4, false, 0, []⟩ 61 _ (by simp)) (ev_one _) (by unfold maxLen; omega) (by omega) ?_)
          intro p7 c7 w7 hr7 hg7 hk7
          have he7 := HE6.out.kept hk7 (fun k hk hD => by have := HO6.out k hk; have := HQL.out k hD; omega)
          obtain ⟨ho7, hF7⟩ := own_grow (HF6.out.alloc _) HO.out hg7 hk7
          have hr7' : w7.ownsRow 0 61 4 (.slice p7 (done.length + 1) c7) (done.length + 1) (evCells (done ++ [⟨4, false, 0, []⟩])) := by rw [evCells_append]; exact hr7
          have HCL := Lib.hid (own_cells he7 rfl)
          have HR7 := Lib.hid hr7'
          have HO7 := Lib.hid ho7
          have HF7 := Lib.hid hF7
          clear hr7 hg7 hk7 he7 ho7 hF7 hr7'
          go_wp2_with (at_builtin; refine wpList_append_mine _ rfl _ _ 37 rfl 61 _ 4 40 Tryd.underlying37 HE.out rfl (by decide) _ _ _ rfl HR7.out _ bn c6 (evCells BB) rfl HL4.out HN6.out HCL.out (evCells_one' _) (by unfold maxLen; omega) (by omega) ?_)
          intro p8 c8 w8 hr8 hg8 hk8
          obtain ⟨ho8, hF8⟩ := own_grow HF7.out HO7.out hg8 hk8
          have hr8' : w8.ownsRow 0 61 4 (.slice p8 (done.length + 1 + bn) c8) (done.length + 1 + bn) (evCells (done ++ [⟨4, false, 0, []⟩] ++ BB)) := by rw [evCells_append]; exact hr8
          have HR8 := Lib.hid (ev_add w8 ⟨4, true, 0, []⟩ 61 hr8')
          have HO8 := Lib.hid ho8
          have HF8 := Lib.hid hF8
          clear hr8 hg8 hk8 ho8 hF8 hr8'
          go_wp2_with (at_builtin; refine wpList_append_mine _ rfl _ _ 37 rfl 61 _ 4 40 Tryd.underlying37 HE.out rfl (by decide) _ _ _ rfl HR8.out _ 1 1 (⟨4, true, 0, []⟩ : Ev).cells rfl rfl (fun h => (by cases h)) (ev_at _ ⟨4, true, 0, []⟩ 61 _ (by simp)) (ev_one _) (by unfold maxLen; omega) (by omega) ?_)
          intro p9 c9 w9 hr9 hg9 hk9
          obtain ⟨ho9, hF9⟩ := own_grow (HF8.out.alloc _) HO8.out hg9 hk9
          have hr9' : w9.ownsRow 0 61 4 (.slice p9 (done.length + 1 + bn + 1) c9) D2.length (evCells D2) := by
            have : D2.length = done.length + 1 + bn + 1 := by have := HDL.out; omega
            have e2 : evCells (done ++ [⟨4, false, 0, []⟩] ++ BB ++ [⟨4, true, 0, []⟩]) = evCells (done ++ ⟨4, false, 0, []⟩ :: BB) ++ (⟨4, true, 0, []⟩ : Ev).cells := by
              rw [evCells_append, evCells_one, List.append_assoc done, List.singleton_append]
            rw [this, ← HD2.out, e2]
            exact hr9
          have HR9 := Lib.hid hr9'
          have HO9 := Lib.hid ho9
          have HF9 := Lib.hid hF9
          have hbh := HBH.out w9 hF9
          have HBH9 := Lib.hid hbh
          clear hr9 hg9 hk9 ho9 hF9 hr9' hbh
          have hstop : (lst f T2 = ([], T2)) → D2 = X ∧ l.drop j2 = Y := fun he => by
            have h1 := HR3.out
            have h2 := HRY.out
            rw [he] at h1 h2
            exact ⟨by simpa [EL] using h1, HJT.out.trans h2⟩
          have HSTOP := Lib.hid hstop
          clear hstop
          by_cases hKe : K = l.length
          · have he := HSTOP.out (lst_stop (.inl (HKD.out.trans (by rw [hKe, List.drop_length]))))
            have e1 : ((K : Int) == (l.length : Int)) = true := by rw [hKe]; simp
            have HFIN := Lib.hid he
            clear he hKe
            go_wp2_with fail
            refine HBH9.out.mono ?_
            rintro e w10 ⟨rfl, hk10⟩
            have HK10 := Lib.hid hk10
            clear hk10
            go_wp2
            go_meet
            refine ⟨j2, rfl, hj2, HFIN.out.2, ?_, HO9.out, HF9.out.tr HK10.out⟩
            have := own_kept HR9.out HK10.out (fun _ _ h => h)
            unfold Evs
            rw [← HFIN.out.1, show D2.length = done.length + 1 + bn + 1 by have := HDL.out; omega] at *
            exact this
          · have e1 : ((K : Int) == (l.length : Int)) = false := by rw [beq_eq_false_iff_ne]; omega
            have hKlt : K < l.length := by omega
            obtain ⟨s3, hs3, hd3⟩ := line_at hKlt
            obtain ⟨S3, hS3, hSl3, hSs3⟩ := mk_of s3
            have hst3 : s3.length ≤ 16777216 := by have := tot_drop l K; rw [hd3, tot_cons] at this; omega
            have hit3 := fun W' : World => ritem_any S3 W' (by omega)
            rw [hSl3] at hit3
            cases hi3 : isItm s3 with
            | false =>
              rw [hi3] at hit3
              have he := HSTOP.out (lst_stop (.inr ⟨s3, _, HKD.out.trans hd3, hi3⟩))
              have HFIN := Lib.hid he
              have HIT3 := Lib.hid hit3
              have HS3 := Lib.hid hs3
              clear he hit3 hs3 hd3 hSl3 hSs3 hi3 hKe
              go_wp2_with fail
              refine HBH9.out.mono ?_
              rintro e w10 ⟨rfl, hk10⟩
              have HK10 := Lib.hid hk10
              obtain ⟨cap', off', hev, -, -, hcell⟩ := (H.out.fresh (HF9.out.tr hk10)).line HS3.out
              cases hev
              rw [hS3] at hcell
              clear hk10 hS3
              go_wp2_with fail
              refine (HIT3.out _).mono ?_
              rintro e w11 ⟨rfl, hk11⟩
              have HK11 := Lib.hid (HK10.out.tr hk11)
              clear hk11
              go_wp2
              go_meet
              refine ⟨j2, rfl, hj2, HFIN.out.2, ?_, HO9.out, HF9.out.tr HK11.out⟩
              have := own_kept HR9.out HK11.out (fun _ _ h => h)
              unfold Evs
              rw [← HFIN.out.1, show D2.length = done.length + 1 + bn + 1 by have := HDL.out; omega] at *
              exact this
            | true =>
              rw [hi3] at hit3
              obtain ⟨f, rfl⟩ : ∃ k, f = k + 1 := ⟨f - 1, by simp at hf; omega⟩
              have he := lst_skip (f := f) (HKD.out.trans hd3) hi3
              have HSK := Lib.hid he
              have HIT3 := Lib.hid hit3
              have HS3 := Lib.hid hs3
              have HD3 := Lib.hid hd3
              have HI3 := Lib.hid hi3
              clear he hit3 hs3 hd3 hSl3 hSs3 hi3 hKe
              go_wp2_with fail
              refine HBH9.out.mono ?_
              rintro e w10 ⟨rfl, hk10⟩
              have HK10 := Lib.hid hk10
              obtain ⟨cap', off', hev, -, -, hcell⟩ := (H.out.fresh (HF9.out.tr hk10)).line HS3.out
              cases hev
              rw [hS3] at hcell
              clear hk10 hS3
              go_wp2_with fail
              refine (HIT3.out _).mono ?_
              rintro e w11 ⟨rfl, hk11⟩
              have HK11 := Lib.hid (HK10.out.tr hk11)
              clear hk11
              go_wp2
              go_roundw
              case rel =>
                refine ⟨K, f + 1, D2, s3, _, rfl, by omega, HD3.out, HI3.out, ?_, ?_, HO9.out, HF9.out.tr HK11.out, ?_, ?_⟩
                · rw [List.length_drop]; simp at hf; omega
                · have := own_kept HR9.out HK11.out (fun _ _ h => h)
                  rw [show D2.length = done.length + 1 + bn + 1 by have := HDL.out; omega] at *
                  exact this
                · rw [HD3.out, ← HSK.out]; exact HR3.out
                · rw [HD3.out, ← HSK.out]; exact HRY.out
              case measure => simp [intOf]; omega
end Go.Proofs.YtbioecifiogffaaDoor
