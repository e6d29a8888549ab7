/- proseref.Blocks: the blocks of some lines. Condition: no more than 2^24 bytes. -/
import Derived.Test.YtbioecifiogffaaDoorBlkRef9
namespace Go.Proofs.YtbioecifiogffaaDoor
open Go.RowKit

/-- What begins with a line that is not blank: its events, the lines behind it. -/
def stepB (n d : Nat) (s : Ln) (t : List Ln) : List EvL × List Ln :=
  if sta s d = 2 then (leafE 5 0 (fnc t).1 false, (fnc t).2)
  else if sta s d = 3 then (leafE 1 (lvl s) (trm (s.drop (lvl s))) true, t)
  else if sta s d = 4 then (bgE 2 :: (blkF n (d + 1) (qtd (s :: t)).1 ++ [fnE 2]), (qtd (s :: t)).2)
  else if sta s d = 5 then (bgE 3 :: ((lst n (s :: t)).1.flatMap (itE n d) ++ [fnE 3]), (lst n (s :: t)).2)
  else (leafE 0 0 (joinN (trm s :: (prg d t).1)) true, (prg d t).2)
theorem blkF_step (n d : Nat) (s : Ln) (t : List Ln) : blkF (n + 1) d (s :: t) = if blank s then blkF n d t else (stepB n d s t).1 ++ blkF n d (stepB n d s t).2 := by
  conv => lhs; unfold blkF
  unfold stepB
  split
  · rfl
  · split
    · rfl
    · split
      · rfl
      · split
        · simp
        · split
          · simp only [List.cons_append, List.append_assoc, List.nil_append]; rfl
          · rfl
theorem fnc_len (l : List Ln) : (fnc l).2.length ≤ l.length := by
  induction l with
  | nil => simp [fnc]
  | cons s t ih =>
    unfold fnc
    split
    · simp
    · simp only [List.length_cons]; omega
theorem qtd_len (l : List Ln) : (qtd l).2.length ≤ l.length := by
  induction l with
  | nil => simp [qtd]
  | cons s t ih =>
    unfold qtd
    split
    · simp only [List.length_cons]; omega
    · exact Nat.le_refl _
theorem prg_len (d : Nat) (l : List Ln) : (prg d l).2.length ≤ l.length := by
  induction l with
  | nil => simp [prg]
  | cons s t ih =>
    unfold prg
    split
    · exact Nat.le_refl _
    · simp only [List.length_cons]; omega
theorem skb_len (l : List Ln) : (skb l).length ≤ l.length := by
  induction l with
  | nil => simp [skb]
  | cons s t ih =>
    unfold skb
    split
    · simp only [List.length_cons]; omega
    · exact Nat.le_refl _
theorem lst_len (n : Nat) (l : List Ln) : (lst n l).2.length ≤ l.length := by
  induction n generalizing l with
  | zero => exact Nat.le_refl _
  | succ n ih =>
    unfold lst
    split
    · exact Nat.le_refl _
    · rename_i s t e
      have h1 := skb_len l
      rw [e] at h1
      split
      · have h2 := ih (itm t).2
        have h3 := itm_len t
        simp only [List.length_cons] at h1
        simp only
        omega
      · exact Nat.le_refl _
theorem stepB_len (n d : Nat) (s : Ln) (t : List Ln) : (stepB (n + 1) d s t).2.length ≤ t.length := by
  unfold stepB
  split
  · exact fnc_len t
  · split
    · exact Nat.le_refl _
    · split
      · rename_i h4
        have hq := (sta_four h4).1
        have : (qtd (s :: t)).2 = (qtd t).2 := by simp [qtd, hq]
        simp only
        rw [this]
        exact qtd_len t
      · split
        · rename_i h5
          have hi := (sta_five h5).1
          simp only
          rw [lst_item hi]
          exact Nat.le_trans (lst_len n _) (itm_len t)
        · exact prg_len d t
theorem stepB_tot (n d : Nat) (s : Ln) (t : List Ln) : tot (stepB (n + 1) d s t).2 < tot (s :: t) := by
  unfold stepB
  split
  · have := fnc_tot t; simp only [tot_cons]; omega
  · split
    · simp only [tot_cons]; omega
    · split
      · rename_i h4
        have h1 := qtd_tot (s :: t)
        have h2 : 1 ≤ (qtd (s :: t)).1.length := by simp [qtd, (sta_four h4).1]
        simp only
        omega
      · split
        · rename_i h5
          have hi := (sta_five h5).1
          have h1 := item_tot (t := t) hi
          have h2 := lst_sum n (itm t).2
          simp only
          rw [lst_item hi]
          simp only
          omega
        · have := prg_tot d t; simp only [tot_cons]; omega
set_option maxHeartbeats 16000000 in
set_option maxRecDepth 100000 in
theorem rBlocks_ok (n : Nat) : RBlkOK n := by
  induction n using Nat.strongRecOn with
  | ind n IH =>
  intro g v l d w h hn hL hd3
  obtain ⟨R, hR⟩ : ∃ R, EL (blkF n d l) = R := ⟨_, rfl⟩
  have hRl : R.length ≤ 4 * tot l := by rw [← hR]; simpa [EL] using blkF_len n d l
  rw [hR]
  have hgl : 0 < tot l → g < w.heap.size := fun h0 => by
    cases l with
    | nil => simp [tot] at h0
    | cons s t =>
      obtain ⟨_, off, _, _, _, hc⟩ := h.line (j := 0) (s := s) rfl
      exact World.block_lt_of_cell? w _ hc
  have HGL := Lib.hid hgl
  have HIH := Lib.hid IH
  have HI := Lib.hid Tryd.infoRE2
  have H := Lib.hid h
  have HR := Lib.hid hR
  clear IH h hR hgl
  go_enter Tryd.func17, Tryd.ntmps17
  go_wp2
  go_loopw [0, 5] (fun v o wr => ∃ (cur : List Ln) (f : Nat) (done : List Ev), LnAt wr g v cur ∧ f ≤ n ∧ tot cur < f ∧ tot cur ≤ tot l ∧ wr.ownsRow 0 61 4 o done.length (evCells done) ∧ done ++ EL (blkF f d cur) = R ∧ (∀ b, o.ownBlock = some b → w.heap.size ≤ b) ∧ Fresh w wr) (fun v _ _ => slen v)
  case atStart => exact ⟨l, n, [], H.out, Nat.le_refl _, hn, Nat.le_refl _, World.ownsRow_nil _ _ _ _, HR.out, (fun b h => by cases h), Keeps.refl _ _⟩
  case round =>
    obtain ⟨cur, f, done, hv, hfn, hft, hct, hu, hr, ho, hF⟩ := hrel
    obtain ⟨wo, rfl⟩ : ∃ wo : World, wo = wr := ⟨_, rfl⟩
    obtain ⟨q, c, rfl, hqc, hq, hg⟩ := own_form hu
    cases cur with
    | nil =>
      obtain ⟨a, cap, rfl⟩ := hv.form
      have he : blkF f d [] = [] := by cases f <;> rfl
      rw [he] at hr
      have hr' : done = R := by rw [← hr]; simp [EL]
      subst hr'
      have HU := Lib.hid hu
      have HF := Lib.hid hF
      have HO := Lib.hid ho
      clear hr he hu hF ho hv
      go_wp2
      go_ret
      exact ⟨_, rfl, HU.out, HO.out, HF.out⟩
    | cons s t =>
      obtain ⟨f, rfl⟩ : ∃ k, f = k + 1 := ⟨f - 1, by omega⟩
      rw [blkF_step] at hr
      have htc : tot (s :: t) = s.length + 1 + tot t := tot_cons s t
      obtain ⟨cap, off, rfl, h1, h2, hcell⟩ := hv.line (j := 0) (s := s) rfl
      rw [Nat.add_zero] at hcell
      obtain ⟨S, hS, hSl, hSs⟩ := mk_of s
      rw [hS] at hcell
      have hbl := fun W : World => rBlank_any S W (by omega)
      rw [hSl] at hbl
      have HV := Lib.hid hv
      have HU := Lib.hid hu
      have HF := Lib.hid hF
      have HO := Lib.hid ho
      have HSL := Lib.hid hSl
      have HS0 := Lib.hid hS
      have hll : (s :: t).length = t.length + 1 := rfl
      rw [hll] at h1 hv
      have hSm : S.size ≤ 16777216 := by omega
      cases hb : blank s with
      | true =>
        rw [hb] at hbl hr
        rw [if_pos rfl] at hr
        have hv2 := hv.cutv 1 (by simp) (m := t.length) (by omega)
        have HBL := Lib.hid hbl
        have HRR := Lib.hid hr
        have HV2 := Lib.hid hv2
        clear hbl hr hv hv2 hll hu hF ho hSl hS hb
        go_wp2_with fail
        refine (HBL.out _).mono ?_
        rintro e w2 ⟨rfl, hk2⟩
        have HK2 := Lib.hid hk2
        clear hk2
        go_wp2
        go_roundw
        case rel => exact ⟨t, f, done, HV2.out.fresh HK2.out, by omega, by omega, by omega, own_kept HU.out HK2.out (fun _ _ h => h), HRR.out, HO.out, HF.out.tr HK2.out⟩
        case measure => simp [slen]
      | false =>
        rw [hb] at hbl hr
        rw [if_neg (by decide)] at hr
        obtain ⟨M, hM⟩ : ∃ M, (stepB f d s t).1 = M := ⟨_, rfl⟩
        obtain ⟨Z, hZ⟩ : ∃ Z, (stepB f d s t).2 = Z := ⟨_, rfl⟩
        obtain ⟨f1, hf1⟩ : ∃ k, f = k + 1 := ⟨f - 1, by omega⟩
        have hZl : Z.length ≤ t.length := by rw [← hZ, hf1]; exact stepB_len f1 d s t
        have hZt : tot Z < tot (s :: t) := by rw [← hZ, hf1]; exact stepB_tot f1 d s t
        rw [hM, hZ, EL_append] at hr
        have HBL := Lib.hid hbl
        have HRR := Lib.hid hr
        have HM := Lib.hid hM
        have HZ := Lib.hid hZ
        clear hbl hr hv hu hF ho hSl hS hb hM hZ hf1
        go_wp2_with fail
        refine (HBL.out _).mono ?_
        rintro e w2 ⟨rfl, hk2⟩
        have HK2 := Lib.hid hk2
        clear hk2
        have hst := starts_any S d w2 (by omega) (by omega)
        rw [HSL.out] at hst
        have HSTA := Lib.hid hst
        clear hst hcell
        go_wp2_with fail
        refine HSTA.out.mono ?_
        rintro e w3 ⟨rfl, hk3⟩
        have HF3 := Lib.hid (HF.out.tr (HK2.out.tr hk3))
        have HV3 := Lib.hid (HV.out.fresh (HK2.out.tr hk3))
        have HU3 := Lib.hid (own_kept HU.out (HK2.out.tr hk3) (fun _ _ h => h))
        clear hk3
        have hst' := HM.out
        have hst'' := HZ.out
        unfold stepB at hst' hst''
        obtain ⟨kk, hkk⟩ : ∃ kk, sta s d = kk := ⟨_, rfl⟩
        have h3' := fun h : sta s d = 3 => sta_three h
        have h4' := fun h : sta s d = 4 => sta_four h
        have h5' := fun h : sta s d = 5 => sta_five h
        rw [hkk] at hst' hst'' h3' h4' h5'
        have HKK := Lib.hid hkk
        have HM2 := Lib.hid hst'
        have HZ2 := Lib.hid hst''
        have H3 := Lib.hid h3'
        have H4 := Lib.hid h4'
        have H5 := Lib.hid h5'
        have HSS := Lib.hid hSs
        have HTC := Lib.hid htc
        rw [hkk]
        clear hst' hst'' hkk h3' h4' h5' htc hll
        go_upto_block 2 with fail
        go_cut [8, 9] (fun a b wx => ∃ N : Nat, b = .int .i64 N ∧ N ≤ (s :: t).length ∧ (s :: t).drop N = Z ∧ Evs wx 61 a (EL M) ∧ (∀ b, a.ownBlock = some b → w.heap.size ≤ b) ∧ Fresh w3 wx)
        case first =>
          by_cases k2 : kk = 2
          · have hm : leafE 5 0 (fnc t).1 false = M := by have := HM2.out; rw [if_pos k2] at this; exact this
            have hz : (fnc t).2 = Z := by have := HZ2.out; rw [if_pos k2] at this; exact this
            subst k2
            have hfe := fenced_any g _ s t w3 HV3.out (by omega)
            rw [hm, hz] at hfe
            have HFE := Lib.hid hfe
            clear hm hz hfe hSs
            go_wp2_with fail
            refine HFE.out.mono ?_
            rintro e w4 ⟨u, N, rfl, hN, hNd, he, ho, hk4⟩
            have HO := Lib.hid ho
            have HE := Lib.hid he
            have HK4 := Lib.hid hk4
            have HND := Lib.hid hNd
            have s3 := HF3.out.size
            clear ho he hk4 hNd
            go_wp2
            go_meet
            exact ⟨N, rfl, hN, HND.out, HE.out, fun b hb => Nat.le_trans s3 (HO.out b hb), HK4.out⟩
          · by_cases k3 : kk = 3
            · have hm : leafE 1 (lvl s) (trm (s.drop (lvl s))) true = M := by have := HM2.out; rw [if_neg k2, if_pos k3] at this; exact this
              have hz : t = Z := by have := HZ2.out; rw [if_neg k2, if_pos k3] at this; exact this
              obtain ⟨hl1, hl2⟩ := H3.out k3
              subst k3
              have hls : lvl s ≤ s.length := by rw [(lvl_le s).2 (by omega)]; exact hsh_le s
              have hlv := fun W : World => level_any S W (by omega)
              rw [HSL.out] at hlv
              obtain ⟨T, hT⟩ : ∃ T, S.extract (lvl s) S.size = T := ⟨_, rfl⟩
              have hTl : T.data.toList = s.drop (lvl s) := by rw [← hT, rest_list, HSL.out]
              have hTs : T.size ≤ S.size := by rw [← hT, ByteArray.size_extract]; omega
              have htr := fun W : World => trim_any T W (by omega)
              rw [hTl] at htr
              have hlf := fun W : World => leaf_any 1 (lvl s) ⟨(trm (s.drop (lvl s))).toArray⟩ true W
              rw [show (⟨(trm (s.drop (lvl s))).toArray⟩ : ByteArray).data.toList = trm (s.drop (lvl s)) from rfl, hm] at hlf
              obtain ⟨L, hL⟩ : ∃ L, lvl s = L := ⟨_, rfl⟩
              rw [hL] at hlv hls hl1 hl2 hT htr hlf
              have hLS : (L : Int) ≤ (S.size : Int) := by omega
              have HLV := Lib.hid hlv
              have HTR := Lib.hid htr
              have HLF := Lib.hid hlf
              have HZZ := Lib.hid hz
              have HTT := Lib.hid hT
              clear hm hz hlv htr hlf hL hTl hTs hSs hT
              go_wp2_with fail
              refine (HLV.out _).mono ?_
              rintro e w4 ⟨rfl, hk4⟩
              have HK4 := Lib.hid hk4
              have hT := HTT.out
              clear hk4
              go_wp2_with fail
              refine (HTR.out _).mono ?_
              rintro e w5 ⟨rfl, hk5⟩
              have HK5 := Lib.hid (HK4.out.tr hk5)
              clear hk5 hT
              go_wp2_with fail
              refine (HLF.out _).mono ?_
              rintro e w6 ⟨u, rfl, he, ho, hk6⟩
              have HO := Lib.hid ho
              have HE := Lib.hid he
              have HK6 := Lib.hid (HK5.out.tr hk6)
              have s3 := HF3.out.size
              have s5 := HK5.out.size
              clear ho he hk6
              go_wp2
              go_meet
              exact ⟨1, rfl, by simp, HZZ.out, HE.out, fun b hb => by have := HO.out b hb; omega, HK6.out⟩
            · by_cases k4 : kk = 4
              · have hm : bgE 2 :: (blkF f (d + 1) (qtd (s :: t)).1 ++ [fnE 2]) = M := by have := HM2.out; rw [if_neg k2, if_neg k3, if_pos k4] at this; exact this
                have hz : (qtd (s :: t)).2 = Z := by have := HZ2.out; rw [if_neg k2, if_neg k3, if_pos k4] at this; exact this
                obtain ⟨hqs, hd⟩ := H4.out k4
                subst k4
                have hq1 := qtd_tot (s :: t)
                have hq2 : 1 ≤ (qtd (s :: t)).1.length := by simp [qtd, hqs]
                have hfe := quoted_any f (HIH.out f (by omega)) g _ (s :: t) d w3 HV3.out (by omega) hd (by omega)
                rw [hm, hz] at hfe
                have HFE := Lib.hid hfe
                clear hm hz hfe hSs hq1 hq2 hqs
                go_wp2_with fail
                refine HFE.out.mono ?_
                rintro e w4 ⟨u, N, rfl, hN, hNd, he, ho, hk4⟩
                have HO := Lib.hid ho
                have HE := Lib.hid he
                have HK4 := Lib.hid hk4
                have HND := Lib.hid hNd
                have s3 := HF3.out.size
                clear ho he hk4 hNd
                go_wp2
                go_meet
                exact ⟨N, rfl, hN, HND.out, HE.out, fun b hb => Nat.le_trans s3 (HO.out b hb), HK4.out⟩
              · by_cases k5 : kk = 5
                · have hm : bgE 3 :: ((lst f (s :: t)).1.flatMap (itE f d) ++ [fnE 3]) = M := by have := HM2.out; rw [if_neg k2, if_neg k3, if_neg k4, if_pos k5] at this; exact this
                  have hz : (lst f (s :: t)).2 = Z := by have := HZ2.out; rw [if_neg k2, if_neg k3, if_neg k4, if_pos k5] at this; exact this
                  obtain ⟨his, hd⟩ := H5.out k5
                  subst k5
                  have hfe := listed_any f f (HIH.out f (by omega)) g _ (s :: t) d w3 HV3.out (by omega) hd (by omega) (by have := tot_len (s :: t); omega) s t rfl his
                  rw [hm, hz] at hfe
                  have HFE := Lib.hid hfe
                  clear hm hz hfe hSs his
                  go_wp2_with fail
                  refine HFE.out.mono ?_
                  rintro e w4 ⟨u, N, rfl, hN, hNd, he, ho, hk4⟩
                  have HO := Lib.hid ho
                  have HE := Lib.hid he
                  have HK4 := Lib.hid hk4
                  have HND := Lib.hid hNd
                  have s3 := HF3.out.size
                  clear ho he hk4 hNd
                  go_wp2
                  go_meet
                  exact ⟨N, rfl, hN, HND.out, HE.out, fun b hb => Nat.le_trans s3 (HO.out b hb), HK4.out⟩
                · have hm : leafE 0 0 (joinN (trm s :: (prg d t).1)) true = M := by have := HM2.out; rw [if_neg k2, if_neg k3, if_neg k4, if_neg k5] at this; exact this
                  have hz : (prg d t).2 = Z := by have := HZ2.out; rw [if_neg k2, if_neg k3, if_neg k4, if_neg k5] at this; exact this
                  have hfe := rparagraph_any g _ s t d w3 HV3.out (by omega) (by omega)
                  rw [hm, hz] at hfe
                  have e2 : ((kk : Int) == 2) = false := by rw [beq_eq_false_iff_ne]; omega
                  have e3 : ((kk : Int) == 3) = false := by rw [beq_eq_false_iff_ne]; omega
                  have e4 : ((kk : Int) == 4) = false := by rw [beq_eq_false_iff_ne]; omega
                  have e5 : ((kk : Int) == 5) = false := by rw [beq_eq_false_iff_ne]; omega
                  have HFE := Lib.hid hfe
                  clear hm hz hfe hSs k2 k3 k4 k5
                  go_wp2_with fail
                  refine HFE.out.mono ?_
                  rintro e w4 ⟨u, N, rfl, hN, hNd, he, ho, hk4⟩
                  have HO := Lib.hid ho
                  have HE := Lib.hid he
                  have HK4 := Lib.hid hk4
                  have HND := Lib.hid hNd
                  have s3 := HF3.out.size
                  clear ho he hk4 hNd
                  go_wp2
                  go_meet
                  exact ⟨N, rfl, hN, HND.out, HE.out, fun b hb => Nat.le_trans s3 (HO.out b hb), HK4.out⟩
        case rest =>
          obtain ⟨N, rfl, hN, hNd, he, ho, hFc⟩ := hcut
          obtain ⟨q4, c4, rfl, -, hn4, -⟩ := own_form he
          obtain ⟨EM, hEM⟩ : ∃ EM, EL M = EM := ⟨_, rfl⟩
          have hrr := HRR.out
          rw [hEM] at he hn4 hrr
          have hln : done.length + EM.length ≤ R.length := by rw [← hrr]; simp; try omega
          have hNlt : 1 ≤ N := by
            rcases Nat.eq_zero_or_pos N with h0 | h0
            · have := congrArg List.length hNd
              rw [h0, List.drop_zero] at this
              simp at this
              omega
            · exact h0
          have hN2 : (N : Int) ≤ ((t.length : Int) + 1) := by simp at hN; omega
          rw [hEM]
          have hlen4 : (evCells EM).length = EM.length * 4 := evCells_length EM
          have hvc := (HV3.out.fresh hFc).cutv N hN (m := t.length + 1 - N) rfl
          rw [hNd] at hvc
          have hZl2 : Z.length = t.length + 1 - N := by rw [← hNd]; simp
          generalize hbn : EM.length = bn at *
          have HBN := Lib.hid hbn
          have HCL := Lib.hid (own_cells he rfl)
          have HL4 := Lib.hid hlen4
          have HN4 := Lib.hid hn4
          have HU4 := Lib.hid (own_kept HU3.out hFc (fun _ _ h => h))
          have HF4 := Lib.hid (HF3.out.tr hFc)
          have HVC := Lib.hid hvc
          have HRX := Lib.hid hrr
          have HNZ := Lib.hid hZl2
          clear he hlen4 hn4 hvc hFc hNd ho hrr hbn hEM hN hZl2
          go_wp2_with (at_builtin; refine wpList_append_mine _ rfl _ _ 37 rfl 61 _ 4 40 Tryd.underlying37 HI.out rfl (by decide) _ _ _ rfl HU4.out _ bn c4 (evCells EM) rfl HL4.out HN4.out HCL.out (evCells_one' _) (by unfold maxLen; omega) (by omega) ?_)
          intro p7 c7 w7 hr7 hg7 hk7
          obtain ⟨ho7, hF7⟩ := own_grow HF4.out HO.out hg7 hk7
          have hv7 := HVC.out.kept hk7 (fun h => by have := HO.out g h; have := HGL.out (by have := HTC.out; omega); omega)
          have hr8 : w7.ownsRow 0 61 4 (.slice p7 (done.length + bn) c7) (done ++ EM).length (evCells (done ++ EM)) := by
            rw [evCells_append, List.length_append, HBN.out]
            exact hr7
          have HV7 := Lib.hid hv7
          have HR8 := Lib.hid hr8
          have HO7 := Lib.hid ho7
          have HF7 := Lib.hid hF7
          clear hr7 hg7 hk7 ho7 hF7 hv7 hr8
          go_wp2
          go_roundw
          case rel => exact ⟨Z, f, done ++ EM, HV7.out, by omega, by omega, by omega, HR8.out, by rw [List.append_assoc]; exact HRX.out, HO7.out, HF7.out⟩
          case measure => simp [slen]; omega
end Go.Proofs.YtbioecifiogffaaDoor
