/- Texts of this proof, joined: BlkRef10, BlkW, RfEvs, RfHtm1, RfHtm2, RfHtm3, RfPage, Boxes. Conditions: as each theorem names them. -/
import Derived.Test.YtbioecifiogffaaGreatDoorR6
import Derived.Test.YtbioecifiogffaaGreatDoorR7
import Derived.Test.YtbioecifiogffaaGreatDoorR4
import Derived.Test.YtbioecifiogffaaGreatDoorR2
import Derived.Test.YtbioecifiogffaaGreatDoorR5
import Derived.Test.YtbioecifiogffaaGreatDoorR8
import Derived.Test.YtbioecifiogffaaGreatDoorR11
import Derived.BigQuiet
import Derived.Deep.QuietTactic
set_option linter.unusedVariables false
set_option linter.unusedSimpArgs false
set_option maxHeartbeats 8000000
set_option maxRecDepth 1000000
namespace Go.Proofs.YtbioecifiogffaaGreatDoor
open Go.RowKit
def stepB (n d : Nat) (s : Ln) (t : List Ln) : List EvL × List Ln :=
 if sta s d = 2 then (leafE 5 0 (fnc t).1 false, (fnc t).2)
 else if sta s d = 3 then (leafE 1 (lvl s) (trm (s.drop (lvl s))) true, t)
 else if sta s d = 4 then (bgE 2 :: (blkF n (d + 1) (qtd (s :: t)).1 ++ [fnE 2]), (qtd (s :: t)).2)
 else if sta s d = 5 then (bgE 3 :: ((lst n (s :: t)).1.flatMap (itE n d) ++ [fnE 3]), (lst n (s :: t)).2)
 else (leafE 0 0 (joinN (trm s :: (prg d t).1)) true, (prg d t).2)
theorem blkF_step (n d : Nat) (s : Ln) (t : List Ln) : blkF (n + 1) d (s :: t) = if blank s then blkF n d t else (stepB n d s t).1 ++ blkF n d (stepB n d s t).2 := by
 conv => lhs; unfold blkF
 unfold stepB
 split
 ·rfl
 ·split
  ·rfl
  ·split
   ·rfl
   ·split
    ·simp
    ·split
     ·simp only [List.cons_append, List.append_assoc, List.nil_append]; rfl
     ·rfl
theorem fnc_len (l : List Ln) : (fnc l).2.length ≤ l.length := by
 induction l with
 | nil => simp [fnc]
 | cons s t ih =>
  unfold fnc
  split
  ·simp
  ·simp only [List.length_cons]; omega
theorem qtd_len (l : List Ln) : (qtd l).2.length ≤ l.length := by
 induction l with
 | nil => simp [qtd]
 | cons s t ih =>
  unfold qtd
  split
  ·simp only [List.length_cons]; omega
  ·exact Nat.le_refl _
theorem prg_len (d : Nat) (l : List Ln) : (prg d l).2.length ≤ l.length := by
 induction l with
 | nil => simp [prg]
 | cons s t ih =>
  unfold prg
  split
  ·exact Nat.le_refl _
  ·simp only [List.length_cons]; omega
theorem skb_len (l : List Ln) : (skb l).length ≤ l.length := by
 induction l with
 | nil => simp [skb]
 | cons s t ih =>
  unfold skb
  split
  ·simp only [List.length_cons]; omega
  ·exact Nat.le_refl _
theorem lst_len (n : Nat) (l : List Ln) : (lst n l).2.length ≤ l.length := by
 induction n generalizing l with
 | zero => exact Nat.le_refl _
 | succ n ih =>
  unfold lst
  split
  ·exact Nat.le_refl _
  ·rename_i s t e
   have h1 := skb_len l
   rw [e] at h1
   split
   ·have h2 := ih (itm t).2
    have h3 := itm_len t
    simp only [List.length_cons] at h1
    simp only
    omega
   ·exact Nat.le_refl _
theorem stepB_len (n d : Nat) (s : Ln) (t : List Ln) : (stepB (n + 1) d s t).2.length ≤ t.length := by
 unfold stepB
 split
 ·exact fnc_len t
 ·split
  ·exact Nat.le_refl _
  ·split
   ·rename_i h4
    have hq := (sta_four h4).1
    have : (qtd (s :: t)).2 = (qtd t).2 := by simp [qtd, hq]
    simp only
    rw [this]
    exact qtd_len t
   ·split
    ·rename_i h5
     have hi := (sta_five h5).1
     simp only
     rw [lst_item hi]
     exact Nat.le_trans (lst_len n _) (itm_len t)
    ·exact prg_len d t
theorem stepB_tot (n d : Nat) (s : Ln) (t : List Ln) : tot (stepB (n + 1) d s t).2 < tot (s :: t) := by
 unfold stepB
 split
 ·have := fnc_tot t; simp only [tot_cons]; omega
 ·split
  ·simp only [tot_cons]; omega
  ·split
   ·rename_i h4
    have h1 := qtd_tot (s :: t)
    have h2 : 1 ≤ (qtd (s :: t)).1.length := by simp [qtd, (sta_four h4).1]
    simp only
    omega
   ·split
    ·rename_i h5
     have hi := (sta_five h5).1
     have h1 := item_tot (t := t) hi
     have h2 := lst_sum n (itm t).2
     simp only
     rw [lst_item hi]
     simp only
     omega
    ·have := prg_tot d t; simp only [tot_cons]; omega
theorem rBlocks_ok (n : Nat) : RBlkOK n := by
 induction n using Nat.strongRecOn with
 | ind n IH =>
 intro g v l d w h hn hL hd3
 obtain ⟨R, hR⟩ : ∃ R, EL (blkF n d l) = R := ⟨_, rfl⟩
 have hRl : R.length ≤ 4 * tot l := by rw [← hR]; simpa [EL] using blkF_len n d l
 rw [hR]
 have hgl : 0 < tot l → g < w.heap.size := fun h0 => by
  cases l with
  | nil => simp [tot] at h0
  | cons s t =>
   obtain ⟨_, off, _, _, _, hc⟩ := h.line (j := 0) (s := s) rfl
   exact World.block_lt_of_cell? w _ hc
 have HGL := Lib.hid hgl
 have HIH := Lib.hid IH
 have HI := Lib.hid Tryz.infoRE2
 have H := Lib.hid h
 have HR := Lib.hid hR
 clear IH h hR hgl
 go_enter Tryz.func36, Tryz.ntmps36
 go_wp2
 go_loopw [0, 5] (fun v o wr => ∃ (cur : List Ln) (f : Nat) (done : List Ev), LnAt wr g v cur ∧ f ≤ n ∧ tot cur < f ∧ tot cur ≤ tot l ∧ wr.ownsRow 0 104 4 o done.length (evCells done) ∧ done ++ EL (blkF f d cur) = R ∧ (∀ b, o.ownBlock = some b → w.heap.size ≤ b) ∧ Fresh w wr) (fun v _ _ => slen v)
 case atStart => exact ⟨l, n, [], H.out, Nat.le_refl _, hn, Nat.le_refl _, World.ownsRow_nil _ _ _ _, HR.out, (fun b h => by cases h), Keeps.refl _ _⟩
 case round =>
  obtain ⟨cur, f, done, hv, hfn, hft, hct, hu, hr, ho, hF⟩ := hrel
  obtain ⟨wo, rfl⟩ : ∃ wo : World, wo = wr := ⟨_, rfl⟩
  obtain ⟨q, c, rfl, hqc, hq, hg⟩ := own_form hu
  cases cur with
  | nil =>
   obtain ⟨a, cap, rfl⟩ := hv.form
   have he : blkF f d [] = [] := by cases f <;> rfl
   rw [he] at hr
   have hr' : done = R := by rw [← hr]; simp [EL]
   subst hr'
   have HU := Lib.hid hu
   have HF := Lib.hid hF
   have HO := Lib.hid ho
   clear hr he hu hF ho hv
   go_wp2
   go_ret
   exact ⟨_, rfl, HU.out, HO.out, HF.out⟩
  | cons s t =>
   obtain ⟨f, rfl⟩ : ∃ k, f = k + 1 := ⟨f - 1, by omega⟩
   rw [blkF_step] at hr
   have htc : tot (s :: t) = s.length + 1 + tot t := tot_cons s t
   obtain ⟨cap, off, rfl, h1, h2, hcell⟩ := hv.line (j := 0) (s := s) rfl
   rw [Nat.add_zero] at hcell
   obtain ⟨S, hS, hSl, hSs⟩ := mk_of s
   rw [hS] at hcell
   have hbl := fun W : World => rBlank_any S W (by omega)
   rw [hSl] at hbl
   have HV := Lib.hid hv
   have HU := Lib.hid hu
   have HF := Lib.hid hF
   have HO := Lib.hid ho
   have HSL := Lib.hid hSl
   have HS0 := Lib.hid hS
   have hll : (s :: t).length = t.length + 1 := rfl
   rw [hll] at h1 hv
   have hSm : S.size ≤ 16777216 := by omega
   cases hb : blank s with
   | true =>
    rw [hb] at hbl hr
    rw [if_pos rfl] at hr
    have hv2 := hv.cutv 1 (by simp) (m := t.length) (by omega)
    have HBL := Lib.hid hbl
    have HRR := Lib.hid hr
    have HV2 := Lib.hid hv2
    clear hbl hr hv hv2 hll hu hF ho hSl hS hb
    go_wp2_with fail
    refine (HBL.out _).mono ?_
    rintro e w2 ⟨rfl, hk2⟩
    have HK2 := Lib.hid hk2
    clear hk2
    go_wp2
    go_roundw
    case rel => exact ⟨t, f, done, HV2.out.fresh HK2.out, by omega, by omega, by omega, own_kept HU.out HK2.out (fun _ _ h => h), HRR.out, HO.out, HF.out.tr HK2.out⟩
    case measure => simp [slen]
   | false =>
    rw [hb] at hbl hr
    rw [if_neg (by decide)] at hr
    obtain ⟨M, hM⟩ : ∃ M, (stepB f d s t).1 = M := ⟨_, rfl⟩
    obtain ⟨Z, hZ⟩ : ∃ Z, (stepB f d s t).2 = Z := ⟨_, rfl⟩
    obtain ⟨f1, hf1⟩ : ∃ k, f = k + 1 := ⟨f - 1, by omega⟩
    have hZl : Z.length ≤ t.length := by rw [← hZ, hf1]; exact stepB_len f1 d s t
    have hZt : tot Z < tot (s :: t) := by rw [← hZ, hf1]; exact stepB_tot f1 d s t
    rw [hM, hZ, EL_append] at hr
    have HBL := Lib.hid hbl
    have HRR := Lib.hid hr
    have HM := Lib.hid hM
    have HZ := Lib.hid hZ
    clear hbl hr hv hu hF ho hSl hS hb hM hZ hf1
    go_wp2_with fail
    refine (HBL.out _).mono ?_
    rintro e w2 ⟨rfl, hk2⟩
    have HK2 := Lib.hid hk2
    clear hk2
    have hst := starts_any S d w2 (by omega) (by omega)
    rw [HSL.out] at hst
    have HSTA := Lib.hid hst
    clear hst hcell
    go_wp2_with fail
    refine HSTA.out.mono ?_
    rintro e w3 ⟨rfl, hk3⟩
    have HF3 := Lib.hid (HF.out.tr (HK2.out.tr hk3))
    have HV3 := Lib.hid (HV.out.fresh (HK2.out.tr hk3))
    have HU3 := Lib.hid (own_kept HU.out (HK2.out.tr hk3) (fun _ _ h => h))
    clear hk3
    have hst' := HM.out
    have hst'' := HZ.out
    unfold stepB at hst' hst''
    obtain ⟨kk, hkk⟩ : ∃ kk, sta s d = kk := ⟨_, rfl⟩
    have h3' := fun h : sta s d = 3 => sta_three h
    have h4' := fun h : sta s d = 4 => sta_four h
    have h5' := fun h : sta s d = 5 => sta_five h
    rw [hkk] at hst' hst'' h3' h4' h5'
    have HKK := Lib.hid hkk
    have HM2 := Lib.hid hst'
    have HZ2 := Lib.hid hst''
    have H3 := Lib.hid h3'
    have H4 := Lib.hid h4'
    have H5 := Lib.hid h5'
    have HSS := Lib.hid hSs
    have HTC := Lib.hid htc
    rw [hkk]
    clear hst' hst'' hkk h3' h4' h5' htc hll
    go_upto_block 2 with fail
    go_cut [8, 9] (fun a b wx => ∃ N : Nat, b = .int .i64 N ∧ N ≤ (s :: t).length ∧ (s :: t).drop N = Z ∧ Evs wx 104 a (EL M) ∧ (∀ b, a.ownBlock = some b → w.heap.size ≤ b) ∧ Fresh w3 wx)
    case first =>
     by_cases k2 : kk = 2
     ·have hm : leafE 5 0 (fnc t).1 false = M := by have := HM2.out; rw [if_pos k2] at this; exact this
      have hz : (fnc t).2 = Z := by have := HZ2.out; rw [if_pos k2] at this; exact this
      subst k2
      have hfe := fenced_any g _ s t w3 HV3.out (by omega)
      rw [hm, hz] at hfe
      have HFE := Lib.hid hfe
      clear hm hz hfe hSs
      go_wp2_with fail
      refine HFE.out.mono ?_
      rintro e w4 ⟨u, N, rfl, hN, hNd, he, ho, hk4⟩
      have HO := Lib.hid ho
      have HE := Lib.hid he
      have HK4 := Lib.hid hk4
      have HND := Lib.hid hNd
      have s3 := HF3.out.size
      clear ho he hk4 hNd
      go_wp2
      go_meet
      exact ⟨N, rfl, hN, HND.out, HE.out, fun b hb => Nat.le_trans s3 (HO.out b hb), HK4.out⟩
     ·by_cases k3 : kk = 3
      ·have hm : leafE 1 (lvl s) (trm (s.drop (lvl s))) true = M := by have := HM2.out; rw [if_neg k2, if_pos k3] at this; exact this
       have hz : t = Z := by have := HZ2.out; rw [if_neg k2, if_pos k3] at this; exact this
       obtain ⟨hl1, hl2⟩ := H3.out k3
       subst k3
       have hls : lvl s ≤ s.length := by rw [(lvl_le s).2 (by omega)]; exact hsh_le s
       have hlv := fun W : World => level_any S W (by omega)
       rw [HSL.out] at hlv
       obtain ⟨T, hT⟩ : ∃ T, S.extract (lvl s) S.size = T := ⟨_, rfl⟩
       have hTl : T.data.toList = s.drop (lvl s) := by rw [← hT, rest_list, HSL.out]
       have hTs : T.size ≤ S.size := by rw [← hT, ByteArray.size_extract]; omega
       have htr := fun W : World => trim_any T W (by omega)
       rw [hTl] at htr
       have hlf := fun W : World => leaf_any 1 (lvl s) ⟨(trm (s.drop (lvl s))).toArray⟩ true W
       rw [show (⟨(trm (s.drop (lvl s))).toArray⟩ : ByteArray).data.toList = trm (s.drop (lvl s)) from rfl, hm] at hlf
       obtain ⟨L, hL⟩ : ∃ L, lvl s = L := ⟨_, rfl⟩
       rw [hL] at hlv hls hl1 hl2 hT htr hlf
       have hLS : (L : Int) ≤ (S.size : Int) := by omega
       have HLV := Lib.hid hlv
       have HTR := Lib.hid htr
       have HLF := Lib.hid hlf
       have HZZ := Lib.hid hz
       have HTT := Lib.hid hT
       clear hm hz hlv htr hlf hL hTl hTs hSs hT
       go_wp2_with fail
       refine (HLV.out _).mono ?_
       rintro e w4 ⟨rfl, hk4⟩
       have HK4 := Lib.hid hk4
       have hT := HTT.out
       clear hk4
       go_wp2_with fail
       refine (HTR.out _).mono ?_
       rintro e w5 ⟨rfl, hk5⟩
       have HK5 := Lib.hid (HK4.out.tr hk5)
       clear hk5 hT
       go_wp2_with fail
       refine (HLF.out _).mono ?_
       rintro e w6 ⟨u, rfl, he, ho, hk6⟩
       have HO := Lib.hid ho
       have HE := Lib.hid he
       have HK6 := Lib.hid (HK5.out.tr hk6)
       have s3 := HF3.out.size
       have s5 := HK5.out.size
       clear ho he hk6
       go_wp2
       go_meet
       exact ⟨1, rfl, by simp, HZZ.out, HE.out, fun b hb => by have := HO.out b hb; omega, HK6.out⟩
      ·by_cases k4 : kk = 4
       ·have hm : bgE 2 :: (blkF f (d + 1) (qtd (s :: t)).1 ++ [fnE 2]) = M := by have := HM2.out; rw [if_neg k2, if_neg k3, if_pos k4] at this; exact this
        have hz : (qtd (s :: t)).2 = Z := by have := HZ2.out; rw [if_neg k2, if_neg k3, if_pos k4] at this; exact this
        obtain ⟨hqs, hd⟩ := H4.out k4
        subst k4
        have hq1 := qtd_tot (s :: t)
        have hq2 : 1 ≤ (qtd (s :: t)).1.length := by simp [qtd, hqs]
        have hfe := quoted_any f (HIH.out f (by omega)) g _ (s :: t) d w3 HV3.out (by omega) hd (by omega)
        rw [hm, hz] at hfe
        have HFE := Lib.hid hfe
        clear hm hz hfe hSs hq1 hq2 hqs
        go_wp2_with fail
        refine HFE.out.mono ?_
        rintro e w4 ⟨u, N, rfl, hN, hNd, he, ho, hk4⟩
        have HO := Lib.hid ho
        have HE := Lib.hid he
        have HK4 := Lib.hid hk4
        have HND := Lib.hid hNd
        have s3 := HF3.out.size
        clear ho he hk4 hNd
        go_wp2
        go_meet
        exact ⟨N, rfl, hN, HND.out, HE.out, fun b hb => Nat.le_trans s3 (HO.out b hb), HK4.out⟩
       ·by_cases k5 : kk = 5
        ·have hm : bgE 3 :: ((lst f (s :: t)).1.flatMap (itE f d) ++ [fnE 3]) = M := by have := HM2.out; rw [if_neg k2, if_neg k3, if_neg k4, if_pos k5] at this; exact this
         have hz : (lst f (s :: t)).2 = Z := by have := HZ2.out; rw [if_neg k2, if_neg k3, if_neg k4, if_pos k5] at this; exact this
         obtain ⟨his, hd⟩ := H5.out k5
         subst k5
         have hfe := listed_any f f (HIH.out f (by omega)) g _ (s :: t) d w3 HV3.out (by omega) hd (by omega) (by have := tot_len (s :: t); omega) s t rfl his
         rw [hm, hz] at hfe
         have HFE := Lib.hid hfe
         clear hm hz hfe hSs his
         go_wp2_with fail
         refine HFE.out.mono ?_
         rintro e w4 ⟨u, N, rfl, hN, hNd, he, ho, hk4⟩
         have HO := Lib.hid ho
         have HE := Lib.hid he
         have HK4 := Lib.hid hk4
         have HND := Lib.hid hNd
         have s3 := HF3.out.size
         clear ho he hk4 hNd
         go_wp2
         go_meet
         exact ⟨N, rfl, hN, HND.out, HE.out, fun b hb => Nat.le_trans s3 (HO.out b hb), HK4.out⟩
        ·have hm : leafE 0 0 (joinN (trm s :: (prg d t).1)) true = M := by have := HM2.out; rw [if_neg k2, if_neg k3, if_neg k4, if_neg k5] at this; exact this
         have hz : (prg d t).2 = Z := by have := HZ2.out; rw [if_neg k2, if_neg k3, if_neg k4, if_neg k5] at this; exact this
         have hfe := rparagraph_any g _ s t d w3 HV3.out (by omega) (by omega)
         rw [hm, hz] at hfe
         have e2 : ((kk : Int) == 2) = false := by rw [beq_eq_false_iff_ne]; omega
         have e3 : ((kk : Int) == 3) = false := by rw [beq_eq_false_iff_ne]; omega
         have e4 : ((kk : Int) == 4) = false := by rw [beq_eq_false_iff_ne]; omega
         have e5 : ((kk : Int) == 5) = false := by rw [beq_eq_false_iff_ne]; omega
         have HFE := Lib.hid hfe
         clear hm hz hfe hSs k2 k3 k4 k5
         go_wp2_with fail
         refine HFE.out.mono ?_
         rintro e w4 ⟨u, N, rfl, hN, hNd, he, ho, hk4⟩
         have HO := Lib.hid ho
         have HE := Lib.hid he
         have HK4 := Lib.hid hk4
         have HND := Lib.hid hNd
         have s3 := HF3.out.size
         clear ho he hk4 hNd
         go_wp2
         go_meet
         exact ⟨N, rfl, hN, HND.out, HE.out, fun b hb => Nat.le_trans s3 (HO.out b hb), HK4.out⟩
    case rest =>
     obtain ⟨N, rfl, hN, hNd, he, ho, hFc⟩ := hcut
     obtain ⟨q4, c4, rfl, -, hn4, -⟩ := own_form he
     obtain ⟨EM, hEM⟩ : ∃ EM, EL M = EM := ⟨_, rfl⟩
     have hrr := HRR.out
     rw [hEM] at he hn4 hrr
     have hln : done.length + EM.length ≤ R.length := by rw [← hrr]; simp; try omega
     have hNlt : 1 ≤ N := by
      rcases Nat.eq_zero_or_pos N with h0 | h0
      ·have := congrArg List.length hNd
       rw [h0, List.drop_zero] at this
       simp at this
       omega
      ·exact h0
     have hN2 : (N : Int) ≤ ((t.length : Int) + 1) := by simp at hN; omega
     rw [hEM]
     have hlen4 : (evCells EM).length = EM.length * 4 := evCells_length EM
     have hvc := (HV3.out.fresh hFc).cutv N hN (m := t.length + 1 - N) rfl
     rw [hNd] at hvc
     have hZl2 : Z.length = t.length + 1 - N := by rw [← hNd]; simp
     generalize hbn : EM.length = bn at *
     have HBN := Lib.hid hbn
     have HCL := Lib.hid (own_cells he rfl)
     have HL4 := Lib.hid hlen4
     have HN4 := Lib.hid hn4
     have HU4 := Lib.hid (own_kept HU3.out hFc (fun _ _ h => h))
     have HF4 := Lib.hid (HF3.out.tr hFc)
     have HVC := Lib.hid hvc
     have HRX := Lib.hid hrr
     have HNZ := Lib.hid hZl2
     clear he hlen4 hn4 hvc hFc hNd ho hrr hbn hEM hN hZl2
     go_wp2_with (at_builtin; refine wpList_append_mine _ rfl _ _ 57 rfl 104 _ 4 40 Tryz.underlying57 HI.out rfl (by decide) _ _ _ rfl HU4.out _ bn c4 (evCells EM) rfl HL4.out HN4.out HCL.out (evCells_one' _) (by unfold maxLen; omega) (by omega) ?_)
     intro p7 c7 w7 hr7 hg7 hk7
     obtain ⟨ho7, hF7⟩ := own_grow HF4.out HO.out hg7 hk7
     have hv7 := HVC.out.kept hk7 (fun h => by have := HO.out g h; have := HGL.out (by have := HTC.out; omega); omega)
     have hr8 : w7.ownsRow 0 104 4 (.slice p7 (done.length + bn) c7) (done ++ EM).length (evCells (done ++ EM)) := by
      rw [evCells_append, List.length_append, HBN.out]
      exact hr7
     have HV7 := Lib.hid hv7
     have HR8 := Lib.hid hr8
     have HO7 := Lib.hid ho7
     have HF7 := Lib.hid hF7
     clear hr7 hg7 hk7 ho7 hF7 hv7 hr8
     go_wp2
     go_roundw
     case rel => exact ⟨Z, f, done ++ EM, HV7.out, by omega, by omega, by omega, HR8.out, by rw [List.append_assoc]; exact HRX.out, HO7.out, HF7.out⟩
     case measure => simp [slen]; omega
end Go.Proofs.YtbioecifiogffaaGreatDoor
namespace Go.Proofs.YtbioecifiogffaaGreatDoor
open Go.RowKit
theorem plBlocks_any (s : ByteArray) (w : World) (hs : s.size ≤ 1048576) (hG : Gl w) :
 Calls Tryz.prog 33 #[.string s] w fun e w' => ∃ v, e = .returned v ∧ Evs w' 38 v (EL (blkT (regular s))) ∧ Fresh w w' := by
 have hrl := regular_length s
 have hbl := blkT_len (regular s)
 have hel : (EL (blkT (regular s))).length ≤ 1000000000 := by simp [EL]; omega
 have hfd := pBlocks_any s w hs hG
 generalize EL (blkT (regular s)) = I at *
 have hev := fun v W h => events_any v I W h hel
 have HFD := Lib.hid hfd
 have HEV := Lib.hid hev
 clear hfd hev hG
 go_enter Tryz.func33, Tryz.ntmps33
 go_wp2_with fail
 refine HFD.out.mono ?_
 rintro r w2 ⟨v2, rfl, he2, ho2, hk2⟩
 have hee := HEV.out v2 w2 he2
 have HEE := Lib.hid hee
 have HO := Lib.hid ho2
 have HK2 := Lib.hid hk2
 clear hee he2 ho2 hk2
 go_wp2_with fail
 refine HEE.out.mono ?_
 rintro r w3 ⟨v3, rfl, he3, ho3, hk3⟩
 have HE := Lib.hid he3
 have HK := Lib.hid (HK2.out.trans hk3 (fun j h1 h2 => by have := HO.out j h2; omega) : Fresh w w3)
 clear he3 ho3 hk3
 go_wp2
 go_ret
 exact ⟨_, rfl, HE.out, HK.out⟩
theorem Blocked_any (s : ByteArray) (w : World) (hG : Gl w) (hm : s.size ≤ maxLen) :
 Calls Tryz.prog 16 #[.string s] w fun e w' => e = .returned (.bool true) ∧ Fresh w w' := by
 unfold maxLen at hm
 by_cases hs : s.size ≤ 1048576
 ·have hrl := regular_length s
  have hbl := blkT_len (regular s)
  have htl := lns_tot' (regular s)
  have hel : (EL (blkT (regular s))).length ≤ 1000000000 := by simp [EL]; omega
  have hpl := plBlocks_any s w hs hG
  have hre := fun W : World => refRegular_any s W (by omega)
  have hrli := fun W : World => rLines_any ⟨(regular s).toArray⟩ W (by simp [ByteArray.size]; omega)
  have hrb := fun (W : World) (g : Nat) (v : Value) (hv : LnAt W g v (lns (regular s))) => rBlocks_ok (tot (lns (regular s)) + 1) g v (lns (regular s)) 0 W hv (by omega) (by omega) (by omega)
  simp only [show (⟨(regular s).toArray⟩ : ByteArray).data.toList = regular s from rfl] at hrli
  rw [show ((0 : Nat) : Int) = 0 from rfl] at hrb
  have hrb2 : ∀ (W : World) (g : Nat) (v : Value), LnAt W g v (lns (regular s)) → Calls Tryz.prog 36 #[v, .int .i64 0] W fun e w' => ∃ u, e = .returned u ∧ Evs w' 104 u (EL (blkT (regular s))) ∧ (∀ b, u.ownBlock = some b → W.heap.size ≤ b) ∧ Fresh W w' := hrb
  generalize EL (blkT (regular s)) = I at *
  have hsa := fun v u W h h2 => same_any v u I W h h2 hel
  have HPL := Lib.hid hpl
  have HRE := Lib.hid hre
  have HRL := Lib.hid hrli
  have HRB := Lib.hid hrb2
  have HSA := Lib.hid hsa
  clear hpl hre hrli hrb hrb2 hsa hG
  go_enter Tryz.func16, Tryz.ntmps16
  go_wp2_with fail
  refine HPL.out.mono ?_
  rintro r w2 ⟨v2, rfl, he2, hk2⟩
  have HE2 := Lib.hid he2
  have HK2 := Lib.hid hk2
  clear he2 hk2
  go_wp2_with fail
  refine (HRE.out _).mono ?_
  rintro r w3 ⟨rfl, hk3⟩
  have HK3 := Lib.hid hk3
  clear hk3
  go_wp2_with fail
  refine (HRL.out _).mono ?_
  rintro r w4 ⟨v4, rfl, hv4, -, hk4⟩
  have hrb4 := HRB.out w4 _ v4 hv4.at
  have HRB4 := Lib.hid hrb4
  have HK4 := Lib.hid hk4
  clear hv4 hk4 hrb4
  go_wp2_with fail
  refine HRB4.out.mono ?_
  rintro r w5 ⟨v5, rfl, he5, -, hk5⟩
  have hss := HSA.out v2 v5 w5 (((HE2.out.fresh HK3.out).fresh HK4.out).fresh hk5) he5
  have HSS := Lib.hid hss
  have HK5 := Lib.hid hk5
  clear hss he5 hk5
  go_wp2_with fail
  refine HSS.out.mono ?_
  rintro r w6 ⟨rfl, hk6⟩
  have HK := Lib.hid ((((HK2.out.tr HK3.out).tr HK4.out).tr HK5.out).tr hk6)
  clear hk6
  go_wp2
  go_ret
  exact ⟨rfl, HK.out⟩
 ·have hlt : (1048576 : Int) < (s.size : Int) := by omega
  clear hG hs
  go_enter Tryz.func16, Tryz.ntmps16
  go_wp2
  go_ret
  exact ⟨rfl, Keeps.refl _ _⟩
end Go.Proofs.YtbioecifiogffaaGreatDoor
namespace Go.Proofs.YtbioecifiogffaaGreatDoor
open Go.RowKit
def prevK (p : Int) (L : List EvL) : Nat → Int
 | 0 => p
 | i + 1 => match L[i]? with | none => p | some y => y.1.kind
theorem lfOK_at {L : List EvL} : ∀ {p : Int} {j : Nat} {x : EvL}, lfOK p L → L[j]? = some x → x.2 = (decide (x.1.kind = 8) && decide (prevK p L j ≠ 5)) := by
 induction L with
 | nil => intro p j x _ h; simp at h
 | cons y r ih =>
  intro p j x h hx
  cases j with
  | zero =>
   simp at hx
   subst hx
   exact h.1
  | succ j =>
   have hx' : r[j]? = some x := by simpa using hx
   have h1 := ih (p := y.1.kind) (j := j) (x := x) h.2.2 hx'
   have e : prevK y.1.kind r j = prevK p (y :: r) (j + 1) := by
    cases j with
    | zero => rfl
    | succ i =>
     have hi : i < r.length := by have := (List.getElem?_eq_some_iff.1 hx').1; omega
     simp only [prevK, List.getElem?_cons_succ, List.getElem?_eq_getElem hi]
   rw [h1, e]
theorem blkT_at {s : List UInt8} {j : Nat} {x : EvL} (h : (blkT s)[j]? = some x) : (x.1.kind ≠ 8 → x.2 = false) ∧ (x.1.kind = 8 → ∃ i y, j = i + 1 ∧ (blkT s)[i]? = some y ∧ x.2 = decide (y.1.kind ≠ 5)) := by
 have h0 := lfOK_at (lfOK_blk (tot (lns s) + 1) 0 (lns s) 0) (x := x) (j := j) h
 have h5 := lfOK_at (lfOK_blk (tot (lns s) + 1) 0 (lns s) 5) (x := x) (j := j) h
 refine ⟨fun hk => by rw [h0]; simp [hk], fun hk => ?_⟩
 cases j with
 | zero => rw [hk] at h0 h5; rw [h0] at h5; simp [prevK] at h5
 | succ i =>
  have hi : i < (blkT s).length := by have := (List.getElem?_eq_some_iff.1 h).1; omega
  refine ⟨i, (blkT s)[i], rfl, List.getElem?_eq_getElem hi, ?_⟩
  have e : prevK 0 (blkF (tot (lns s) + 1) 0 (lns s)) (i + 1) = ((blkT s)[i]).1.kind := by
   have h9 : (blkF (tot (lns s) + 1) 0 (lns s))[i]? = some (blkT s)[i] := List.getElem?_eq_getElem hi
   simp only [prevK, h9]
  rw [h0, hk, e]
  simp
theorem EL_at {L : List EvL} {j : Nat} {x : EvL} (h : L[j]? = some x) : (EL L)[j]? = some x.1 := by simp [EL, h]
theorem rEvents_any (s : ByteArray) (w : World) (hs : s.size ≤ 1048576) :
 Calls Tryz.prog 44 #[.string s] w fun e w' => ∃ u, e = .returned u ∧ Evs w' 104 u (evsF s.data.toList) ∧ (∀ k, u.ownBlock = some k → w.heap.size ≤ k) ∧ Fresh w w' := by
 have htl := lns_tot' s.data.toList
 have hbl := blkT_len s.data.toList
 have hel := evsF_len s.data.toList
 have hgd := blkF_good (tot (lns s.data.toList) + 1) 0 (lns s.data.toList) _ (lns_tot s.data.toList)
 rw [show s.data.toList.length = s.size by simp] at htl hbl hel hgd
 have hgd2 : ∀ x ∈ blkT s.data.toList, x.1.text.length ≤ s.size + 1 := fun x hx => (hgd x hx).2.2.2
 have hrli := rLines_any s w (by omega)
 have hrb : ∀ (W : World) (g : Nat) (v : Value), LnAt W g v (lns s.data.toList) → Calls Tryz.prog 36 #[v, .int .i64 0] W fun e w' => ∃ u, e = .returned u ∧ Evs w' 104 u (EL (blkT s.data.toList)) ∧ (∀ b, u.ownBlock = some b → W.heap.size ≤ b) ∧ Fresh W w' := fun W g v hv => rBlocks_ok (tot (lns s.data.toList) + 1) g v (lns s.data.toList) 0 W hv (by omega) (by omega) (by omega)
 have hat := fun j x => @blkT_at s.data.toList j x
 have hfl : (blkT s.data.toList).flatMap expand = evsF s.data.toList := rfl
 generalize blkT s.data.toList = L at *
 generalize evsF s.data.toList = T at *
 have HRL := Lib.hid hrli
 have HRB := Lib.hid hrb
 have HAT := Lib.hid hat
 have HGD := Lib.hid hgd2
 have HFL := Lib.hid hfl
 have HEL := Lib.hid hel
 have HI := Lib.hid Tryz.infoRE2
 clear hrli hrb hat hgd hgd2 hfl hel htl
 go_enter Tryz.func44, Tryz.ntmps44
 go_wp2_with fail
 refine HRL.out.mono ?_
 rintro r w4 ⟨v4, rfl, hv4, -, hk4⟩
 have hrb4 := HRB.out w4 _ v4 hv4.at
 have HRB4 := Lib.hid hrb4
 have HK4 := Lib.hid hk4
 clear hv4 hk4 hrb4
 go_wp2_with fail
 refine HRB4.out.mono ?_
 rintro r w5 ⟨u5, rfl, he5, ho5, hk5⟩
 obtain ⟨q, c, rfl, -, hqn, hqg⟩ := own_form he5
 have HE5 := Lib.hid he5
 have HO5 := Lib.hid ho5
 have HK5 := Lib.hid (HK4.out.tr hk5)
 have hll : (EL L).length = L.length := by simp [EL]
 rw [hll] at *
 clear he5 ho5 hk5 hqn hqg
 go_wp2_with fail
 go_loopw [5, 6] (fun o i wr => ∃ j : Nat, j ≤ L.length ∧ i = .int .i64 j ∧ Evs wr 104 o ((L.take j).flatMap expand) ∧ (∀ k, o.ownBlock = some k → w5.heap.size ≤ k) ∧ Fresh w5 wr) (fun _ i _ => L.length - (intOf i).toNat)
 case atStart => exact ⟨0, Nat.zero_le _, rfl, Evs.nil _ _, (fun k hk => by cases hk), Keeps.refl _ _⟩
 case round =>
  obtain ⟨j, hj, rfl, hev, hown, hF⟩ := hrel
  obtain ⟨wo, rfl⟩ : ∃ wo : World, wo = wr := ⟨_, rfl⟩
  by_cases hlt : j < L.length
  ·obtain ⟨x, hx⟩ : ∃ x, L[j]? = some x := ⟨L[j], List.getElem?_eq_getElem hlt⟩
   have hxe := EL_at hx
   obtain ⟨g, hqe, -, hgl, x0, x1, x2, x3⟩ := Evs.at (HE5.out.fresh hF) hxe
   subst hqe
   obtain ⟨⟨kd, fn, lv, tx⟩, lf⟩ := x
   obtain ⟨hno, hyes⟩ := HAT.out j _ hx
   have htl := HGD.out _ (List.mem_of_getElem? hx)
   simp only at x0 x1 x2 x3 hno hyes htl
   have htk : (L.take (j + 1)).flatMap expand = (L.take j).flatMap expand ++ expand (⟨kd, fn, lv, tx⟩, lf) := by
    rw [List.take_add_one, hx]
    simp
   obtain ⟨op, oc, rfl, -, -, -⟩ := own_form hev
   have hjl : (j : Int) < (L.length : Int) := by omega
   have hj0 : (0 : Int) ≤ (j : Int) := by omega
   have htot : ((L.take (j + 1)).flatMap expand).length ≤ 4 * (s.size + 1) := by
    have e1 : L.flatMap expand = (L.take (j + 1)).flatMap expand ++ (L.drop (j + 1)).flatMap expand := by rw [← List.flatMap_append, List.take_append_drop]
    have e2 := congrArg List.length e1
    rw [show L.flatMap expand = T from HFL.out, List.length_append] at e2
    have := HEL.out
    omega
   rw [htk, List.length_append] at htot
   obtain ⟨D, hD⟩ : ∃ D, (L.take j).flatMap expand = D := ⟨_, rfl⟩
   rw [hD] at hev htk htot hown ⊢
   have HEV := Lib.hid hev
   have HOWN := Lib.hid hown
   have HF := Lib.hid hF
   have HTK := Lib.hid htk
   clear hev hown hF htk hx hxe hD
   by_cases hk8 : kd = 8
   ·obtain ⟨i, ⟨⟨k2, f2, l2, t2⟩, lf2⟩, rfl, hi, hlf⟩ := hyes hk8
    obtain ⟨g', hqe', -, -, z0, -⟩ := Evs.at (HE5.out.fresh HF.out) (EL_at hi)
    cases hqe'
    simp only at z0 hlf
    subst hk8
    have i0 : (0 : Int) ≤ (i : Int) := by omega
    have i1 : (i : Int) < (L.length : Int) := by omega
    by_cases hk5 : k2 = 5
    ·have b5 : (k2 != 5) = false := by simp [hk5]
     have b5' : (k2 == 5) = true := by simp [hk5]
     have : lf = false := by rw [hlf]; simp [hk5]
     subst this
     clear hlf hno hyes hk5
     have hex : expand ((⟨8, fn, lv, tx⟩, false) : EvL) = [⟨8, fn, lv, tx⟩] := rfl
     rw [hex] at htot
     have hl1 : ([⟨8, fn, lv, tx⟩] : List Ev).length = 1 := rfl
     rw [hl1] at htot
     have hfr : Fresh wo (wo.alloc (.cells #[.int .i64 8, .bool fn, .int .i64 lv, .string ⟨tx.toArray⟩] 104)) := (Keeps.refl _ wo).alloc _
     have hrow := HEV.out.fresh hfr
     unfold Evs at hrow
     have HROW := Lib.hid hrow
     clear hrow hex hl1 hfr
     go_wp2_with (at_builtin; refine wpList_append_mine _ rfl _ _ 57 rfl 104 _ 4 40 Tryz.underlying57 HI.out rfl (by decide) _ _ _ rfl HROW.out (some ⟨wo.heap.size, 0, none⟩) 1 1 (⟨8, fn, lv, tx⟩ : Ev).cells rfl rfl (fun h => (by cases h)) (ev_new wo ⟨8, fn, lv, tx⟩ 104) (ev_one _) (by unfold maxLen; omega) (by omega) ?_)
     intro p7 c7 w7 hr7 hg7 hk7
     have he7 := Evs.snoc hr7
     have hF7 : Fresh w5 w7 := (HF.out.alloc (.cells #[.int .i64 8, .bool fn, .int .i64 lv, .string ⟨tx.toArray⟩] 104)).trans hk7 (fun k h1 h2 => by have := HOWN.out k h2; omega)
     have ho7 : ∀ k, (Value.slice p7 (D.length + 1) c7).ownBlock = some k → w5.heap.size ≤ k := fun k hk => by
      rcases hg7 k hk with h | h
      ·exact HOWN.out k h
      ·have := HF.out.size; simp at h; omega
     have HE7 := Lib.hid he7
     have HF7 := Lib.hid hF7
     have HO7 := Lib.hid ho7
     clear he7 hF7 ho7 hr7 hg7 hk7
     go_wp2
     go_roundw
     case rel => exact ⟨i + 1 + 1, by omega, by go_num, by rw [show (L.take (i + 1 + 1)).flatMap expand = _ from HTK.out]; exact HE7.out, HO7.out, HF7.out⟩
     case measure => simp [intOf]; omega
    ·have b5 : (k2 != 5) = true := by simp [hk5]
     have b5' : (k2 == 5) = false := by simp [hk5]
     have : lf = true := by rw [hlf]; simp [hk5]
     subst this
     clear hlf hno hyes hk5
     have hex : expand ((⟨8, fn, lv, tx⟩, true) : EvL) = inlF (tx.length + 1) false tx [] := rfl
     rw [hex] at htot
     have hin := Inline_ok (tx.length + 1) ⟨tx.toArray⟩ false wo (by simp [ByteArray.size]; omega) (by simp [ByteArray.size])
     rw [show (⟨tx.toArray⟩ : ByteArray).data.toList = tx from rfl] at hin
     have HTK2 : Hid ((L.take (i + 1 + 1)).flatMap expand = D ++ inlF (tx.length + 1) false tx []) := HTK
     generalize inlF (tx.length + 1) false tx [] = M at *
     have HIN := Lib.hid hin
     clear hin hex HTK
     go_wp2_with fail
     refine HIN.out.mono ?_
     rintro e w6 ⟨vm, rfl, hem, -, hk6⟩
     obtain ⟨mp, mc, rfl, -, hmn, -⟩ := own_form hem
     have hrow := HEV.out.fresh hk6
     unfold Evs at hrow
     have hce := own_cells (v := .slice mp M.length mc) hem rfl
     have HROW := Lib.hid hrow
     have HCE := Lib.hid hce
     have HMN := Lib.hid (fun h => (hmn h) : mp = none → M.length = 0 ∧ mc = 0)
     have HK6 := Lib.hid hk6
     have HM1 := Lib.hid (evCells_one' M)
     clear hrow hce hmn hem hk6
     go_wp2_with (at_builtin; refine wpList_append_mine _ rfl _ _ 57 rfl 104 _ 4 40 Tryz.underlying57 HI.out rfl (by decide) _ _ _ rfl HROW.out mp M.length mc (evCells M) rfl (evCells_length M) HMN.out HCE.out HM1.out (by unfold maxLen; omega) (by omega) ?_)
     intro p7 c7 w7 hr7 hg7 hk7
     have he7 := Evs.app hr7
     have hF7 : Fresh w5 w7 := (HF.out.tr HK6.out).trans hk7 (fun k h1 h2 => by have := HOWN.out k h2; omega)
     have ho7 : ∀ k, (Value.slice p7 (D.length + M.length) c7).ownBlock = some k → w5.heap.size ≤ k := fun k hk => by
      rcases hg7 k hk with h | h
      ·exact HOWN.out k h
      ·have := HF.out.size; have := HK6.out.size; omega
     have HE7 := Lib.hid he7
     have HF7 := Lib.hid hF7
     have HO7 := Lib.hid ho7
     clear he7 hF7 ho7 hr7 hg7 hk7
     go_wp2
     go_roundw
     case rel => exact ⟨i + 1 + 1, by omega, by go_num, by rw [show (L.take (i + 1 + 1)).flatMap expand = _ from HTK2.out]; exact HE7.out, HO7.out, HF7.out⟩
     case measure => simp [intOf]; omega
   ·have hlf := hno hk8
    have b8 : (kd == 8) = false := by simpa using hk8
    subst hlf
    clear hno hyes
    have hex : expand ((⟨kd, fn, lv, tx⟩, false) : EvL) = [⟨kd, fn, lv, tx⟩] := rfl
    rw [hex] at htot
    have hl1 : ([⟨kd, fn, lv, tx⟩] : List Ev).length = 1 := rfl
    rw [hl1] at htot
    have hfr : Fresh wo (wo.alloc (.cells #[.int .i64 kd, .bool fn, .int .i64 lv, .string ⟨tx.toArray⟩] 104)) := (Keeps.refl _ wo).alloc _
    have hrow := HEV.out.fresh hfr
    unfold Evs at hrow
    have HROW := Lib.hid hrow
    clear hrow hex hl1 hfr
    go_wp2_with (at_builtin; refine wpList_append_mine _ rfl _ _ 57 rfl 104 _ 4 40 Tryz.underlying57 HI.out rfl (by decide) _ _ _ rfl HROW.out (some ⟨wo.heap.size, 0, none⟩) 1 1 (⟨kd, fn, lv, tx⟩ : Ev).cells rfl rfl (fun h => (by cases h)) (ev_new wo ⟨kd, fn, lv, tx⟩ 104) (ev_one _) (by unfold maxLen; omega) (by omega) ?_)
    intro p7 c7 w7 hr7 hg7 hk7
    have he7 := Evs.snoc hr7
    have hF7 : Fresh w5 w7 := (HF.out.alloc (.cells #[.int .i64 kd, .bool fn, .int .i64 lv, .string ⟨tx.toArray⟩] 104)).trans hk7 (fun k h1 h2 => by have := HOWN.out k h2; omega)
    have ho7 : ∀ k, (Value.slice p7 (D.length + 1) c7).ownBlock = some k → w5.heap.size ≤ k := fun k hk => by
     rcases hg7 k hk with h | h
     ·exact HOWN.out k h
     ·have := HF.out.size; simp at h; omega
    have HE7 := Lib.hid he7
    have HF7 := Lib.hid hF7
    have HO7 := Lib.hid ho7
    clear he7 hF7 ho7 hr7 hg7 hk7
    go_wp2
    go_roundw
    case rel => exact ⟨j + 1, by omega, by go_num, by rw [show (L.take (j + 1)).flatMap expand = _ from HTK.out]; exact HE7.out, HO7.out, HF7.out⟩
    case measure => simp [intOf]; omega
  ·obtain rfl : j = L.length := by omega
   rw [List.take_length, show L.flatMap expand = T from HFL.out] at hev
   have HFIN := Lib.hid hev
   have HOWN := Lib.hid hown
   have HF := Lib.hid hF
   clear hlt hj hev hown hF
   go_wp2
   go_ret
   exact ⟨_, rfl, HFIN.out, fun k hk => Nat.le_trans HK5.out.size (HOWN.out k hk), HK5.out.tr HF.out⟩
end Go.Proofs.YtbioecifiogffaaGreatDoor
namespace Go.Proofs.YtbioecifiogffaaGreatDoor
open Go.RowKit
theorem fnd_no {c : UInt8} {l : List UInt8} (h : fnd c l = none) : ¬ c ∈ l := by
 induction l with
 | nil => simp
 | cons b t ih =>
  simp only [fnd] at h
  split at h
  ·cases h
  ·rename_i hb
   simp only [Option.map_eq_none_iff] at h
   simp only [List.mem_cons, not_or]
   exact ⟨fun e => hb (by simp [e]), ih h⟩
theorem fnd_mem {c : UInt8} {l : List UInt8} {k : Nat} (h : fnd c l = some k) : c ∈ l := by
 induction l generalizing k with
 | nil => simp [fnd] at h
 | cons b t ih =>
  simp only [fnd] at h
  split at h
  ·rename_i hb
   simp only [List.mem_cons]
   exact .inl (by simpa using hb.symm)
  ·obtain ⟨k', h1, -⟩ := Option.map_eq_some_iff.1 h
   exact List.mem_cons_of_mem _ (ih h1)
theorem escT_snoc (s : ByteArray) (j : Nat) (h : j < s.size) : escT (s.data.toList.take (j + 1)) = escT (s.data.toList.take j) ++ escB (s[j]'h) := by
 have e : s.data.toList.take (j + 1) = s.data.toList.take j ++ [s[j]'h] := by
  rw [List.take_succ_eq_append_getElem (by simpa using h)]; rfl
 unfold escT
 rw [e, List.flatMap_append]
 simp
theorem ext_one (s : ByteArray) (j : Nat) (h : j < s.size) : s.extract j (j + 1) = ⟨#[s[j]'h]⟩ := by
 apply ByteArray.ext
 apply Array.ext'
 rw [ByteArray.data_extract, Array.toList_extract, List.extract_eq_take_drop, drop_lt h]
 simp
theorem rPlain_any (s : ByteArray) (w : World) (hs : s.size ≤ 2097152) :
 Calls Tryz.prog 73 #[.string s] w fun e w' => e = .returned (.string ⟨(escT s.data.toList).toArray⟩) ∧ w' = w := by
 go_enter Tryz.func73, Tryz.ntmps73
 go_wp2
 go_loopw [3, 4] (fun o p wr => ∃ (j : Nat), o = .string ⟨(escT (s.data.toList.take j)).toArray⟩ ∧ p = .int .i64 j ∧ j ≤ s.size ∧ wr = w) (fun _ p _ => s.size - (intOf p).toNat)
 case atStart => exact ⟨0, by simp [escT], rfl, by omega, rfl⟩
 case round =>
  obtain ⟨j, rfl, rfl, hj, rfl⟩ := hrel
  by_cases hlt : j < s.size
  ·have hsn := escT_snoc s j hlt
   have hsub := ext_one s j hlt
   obtain ⟨T, hT⟩ : ∃ T, escT (s.data.toList.take j) = T := ⟨_, rfl⟩
   have hTl : T.length ≤ 12582912 := by
    have h1 := esc_len (s.data.toList.take j)
    have h2 := List.length_take_le j s.data.toList
    rw [hT] at h1
    omega
   have q := fun x : UInt8 => u8_beq (s[j]'hlt) x
   have q38 : (((s[j]'hlt).toNat : Int) == 38) = decide (s[j]'hlt = 38) := q 38
   have q60 : (((s[j]'hlt).toNat : Int) == 60) = decide (s[j]'hlt = 60) := q 60
   have q62 : (((s[j]'hlt).toNat : Int) == 62) = decide (s[j]'hlt = 62) := q 62
   have q34 : (((s[j]'hlt).toNat : Int) == 34) = decide (s[j]'hlt = 34) := q 34
   rw [hT] at hsn ⊢
   clear q hT
   by_cases h38 : s[j]'hlt = 38
   ·have e : escB (s[j]'hlt) = [38, 97, 109, 112, 59] := by rw [h38]; rfl
    rw [decide_eq_true h38] at q38
    rw [e] at hsn
    have HSN := Lib.hid hsn
    clear hsn e h38 q60 q62 q34
    go_wp2
    go_roundw
    case rel => exact ⟨j + 1, by rw [show escT _ = _ from HSN.out, ← ba_append], rfl, by omega, trivial⟩
    case measure => simp [intOf]; omega
   ·rw [decide_eq_false h38] at q38
    by_cases h60 : s[j]'hlt = 60
    ·have e : escB (s[j]'hlt) = [38, 108, 116, 59] := by rw [h60]; rfl
     rw [decide_eq_true h60] at q60
     rw [e] at hsn
     have HSN := Lib.hid hsn
     clear hsn e h38 h60 q62 q34
     go_wp2
     go_roundw
     case rel => exact ⟨j + 1, by rw [show escT _ = _ from HSN.out, ← ba_append], rfl, by omega, trivial⟩
     case measure => simp [intOf]; omega
    ·rw [decide_eq_false h60] at q60
     by_cases h62 : s[j]'hlt = 62
     ·have e : escB (s[j]'hlt) = [38, 103, 116, 59] := by rw [h62]; rfl
      rw [decide_eq_true h62] at q62
      rw [e] at hsn
      have HSN := Lib.hid hsn
      clear hsn e h38 h60 h62 q34
      go_wp2
      go_roundw
      case rel => exact ⟨j + 1, by rw [show escT _ = _ from HSN.out, ← ba_append], rfl, by omega, trivial⟩
      case measure => simp [intOf]; omega
     ·rw [decide_eq_false h62] at q62
      by_cases h34 : s[j]'hlt = 34
      ·have e : escB (s[j]'hlt) = [38, 113, 117, 111, 116, 59] := by rw [h34]; rfl
       rw [decide_eq_true h34] at q34
       rw [e] at hsn
       have HSN := Lib.hid hsn
       clear hsn e h38 h60 h62 h34
       go_wp2
       go_roundw
       case rel => exact ⟨j + 1, by rw [show escT _ = _ from HSN.out, ← ba_append], rfl, by omega, trivial⟩
       case measure => simp [intOf]; omega
      ·rw [decide_eq_false h34] at q34
       have e : escB (s[j]'hlt) = [s[j]'hlt] := by unfold escB; rw [if_neg h38, if_neg h60, if_neg h62, if_neg h34]
       rw [e] at hsn
       have HSN := Lib.hid hsn
       clear hsn e h38 h60 h62 h34
       go_wp2
       go_roundw
       case rel => exact ⟨j + 1, by rw [show escT _ = _ from HSN.out, ← ba_append], rfl, by omega, trivial⟩
       case measure => simp [intOf]; omega
  ·obtain rfl : j = s.size := by omega
   have hd : s.data.toList.take s.size = s.data.toList := by rw [List.take_of_length_le (by simp)]
   rw [hd]
   clear hd hlt hj
   go_wp2
   go_ret
   exact ⟨rfl, rfl⟩
end Go.Proofs.YtbioecifiogffaaGreatDoor
namespace Go.Proofs.YtbioecifiogffaaGreatDoor
open Go.RowKit
theorem hex_ext (n : Nat) (h : n < 16) : (⟨#[48, 49, 50, 51, 52, 53, 54, 55, 56, 57, 65, 66, 67, 68, 69, 70]⟩ : ByteArray).extract n (n + 1) = ⟨#[hexB n]⟩ := by
 have h2 := hex_at n h
 have h1 := ext_one ⟨#[48, 49, 50, 51, 52, 53, 54, 55, 56, 57, 65, 66, 67, 68, 69, 70]⟩ n (by show n < 16; exact h)
 rw [h1]
 congr 2
 exact congrArg (fun x => [x]) h2
theorem kp_plc (c : UInt8) : kpL.contains c = decide (0 ≤ plc 0 (fnd c kpL)) := by
 cases h : fnd c kpL with
 | none =>
  have := fnd_no h
  simp [plc, this]
 | some k =>
  have h1 := fnd_mem h
  simp [plc, h1]
theorem rWhere_any (s : ByteArray) (w : World) (hs : s.size ≤ 2097152) :
 Calls Tryz.prog 72 #[.string s] w fun e w' => e = .returned (.string ⟨(whrT s.data.toList).toArray⟩) ∧ Fresh w w' := by
 go_enter Tryz.func72, Tryz.ntmps72
 go_wp2
 go_loopw [5, 6] (fun o p wr => ∃ (j : Nat), o = .string ⟨(whrT (s.data.toList.take j)).toArray⟩ ∧ p = .int .i64 j ∧ j ≤ s.size ∧ Fresh w wr) (fun _ p _ => s.size - (intOf p).toNat)
 case atStart => exact ⟨0, by simp [whrT], rfl, by omega, Keeps.refl _ _⟩
 case round =>
  obtain ⟨j, rfl, rfl, hj, hF⟩ := hrel
  by_cases hlt : j < s.size
  ·have hsn := whrT_snoc s j hlt
   have hsub := ext_one s j hlt
   obtain ⟨c, hc⟩ : ∃ c, s[j]'hlt = c := ⟨_, rfl⟩
   rw [hc] at hsn hsub
   obtain ⟨T, hT⟩ : ∃ T, whrT (s.data.toList.take j) = T := ⟨_, rfl⟩
   have hTl : T.length ≤ 12582912 := by
    have h1 := whr_len (s.data.toList.take j)
    have h2 := List.length_take_le j s.data.toList
    rw [hT] at h1
    omega
   have hfi := fun W : World => find_any ⟨#[45, 46, 95, 126, 47, 63, 35, 61, 58, 43, 44, 59, 64, 33, 36, 39, 40, 41, 42, 37]⟩ c 0 W (Nat.zero_le _) (by decide)
   rw [show (⟨#[45, 46, 95, 126, 47, 63, 35, 61, 58, 43, 44, 59, 64, 33, 36, 39, 40, 41, 42, 37]⟩ : ByteArray).data.toList.drop 0 = kpL from rfl] at hfi
   have hkp := kp_plc c
   obtain ⟨k, hk⟩ : ∃ k, plc 0 (fnd c kpL) = k := ⟨_, rfl⟩
   rw [hk] at hfi hkp
   rw [hT] at hsn ⊢
   have hc0 := c.toNat_lt
   have q38 : ((c.toNat : Int) == 38) = decide (c = 38) := u8_beq c 38
   have HFI := Lib.hid hfi
   have HF := Lib.hid hF
   clear hfi hF hk hT
   by_cases h38 : c = 38
   ·rw [decide_eq_true h38] at q38
    have hw : whrB c = [38, 97, 109, 112, 59] := by rw [h38]; rfl
    rw [hw] at hsn
    have HSN := Lib.hid hsn
    clear hsn hw hkp hsub h38
    go_wp2_with (go_at_call 95; refine (HFI.out _).mono ?_; rintro e w2 ⟨rfl, hk2⟩)
    have HK2 := Lib.hid hk2
    clear hk2
    go_wp2
    go_roundw
    case rel => exact ⟨j + 1, by rw [show whrT _ = _ from HSN.out, ← ba_append], rfl, by omega, HF.out.tr HK2.out⟩
    case measure => simp [intOf]; omega
   ·rw [decide_eq_false h38] at q38
    by_cases hkk : kps c = true
    ·have hw : whrB c = [c] := by unfold whrB; rw [if_neg h38, if_pos hkk]
     rw [hw] at hsn
     have hcase : 0 ≤ k ∨ (¬ 0 ≤ k ∧ 48 ≤ (c.toNat : Int) ∧ (c.toNat : Int) ≤ 57) ∨ (¬ 0 ≤ k ∧ 48 ≤ (c.toNat : Int) ∧ 57 < (c.toNat : Int) ∧ 97 ≤ (c.toNat : Int) ∧ (c.toNat : Int) ≤ 122) ∨ (¬ 0 ≤ k ∧ 48 ≤ (c.toNat : Int) ∧ 57 < (c.toNat : Int) ∧ (c.toNat : Int) < 97 ∧ 65 ≤ (c.toNat : Int) ∧ (c.toNat : Int) ≤ 90) := by
      unfold kps at hkk
      rw [hkp] at hkk
      simp only [Bool.or_eq_true, Bool.and_eq_true, decide_eq_true_eq] at hkk
      omega
     have HSN := Lib.hid hsn
     clear hsn hw hkk hkp h38
     rcases hcase with a1 | ⟨a1, a2, a3⟩ | ⟨a1, a2, a3, a4, a5⟩ | ⟨a1, a2, a3, a4, a5, a6⟩
     all_goals
      go_wp2_with (go_at_call 95; refine (HFI.out _).mono ?_; rintro e w2 ⟨rfl, hk2⟩)
      have HK2 := Lib.hid hk2
      clear hk2
      go_wp2
      go_roundw
      case rel => exact ⟨j + 1, by rw [show whrT _ = _ from HSN.out, ← ba_append], rfl, by omega, HF.out.tr HK2.out⟩
      case measure => simp [intOf]; omega
    ·have hkf : kps c = false := by simpa using hkk
     have hw : whrB c = [37, hexB (c.toNat / 16), hexB (c.toNat % 16)] := by unfold whrB; rw [if_neg h38, if_neg hkk]
     rw [hw] at hsn
     have hcase : (¬ 0 ≤ k ∧ (c.toNat : Int) < 48 ∧ (c.toNat : Int) < 97 ∧ (c.toNat : Int) < 65) ∨ (¬ 0 ≤ k ∧ 48 ≤ (c.toNat : Int) ∧ 57 < (c.toNat : Int) ∧ (c.toNat : Int) < 97 ∧ (c.toNat : Int) < 65) ∨ (¬ 0 ≤ k ∧ 48 ≤ (c.toNat : Int) ∧ 57 < (c.toNat : Int) ∧ (c.toNat : Int) < 97 ∧ 65 ≤ (c.toNat : Int) ∧ 90 < (c.toNat : Int)) ∨ (¬ 0 ≤ k ∧ 48 ≤ (c.toNat : Int) ∧ 57 < (c.toNat : Int) ∧ 97 ≤ (c.toNat : Int) ∧ 122 < (c.toNat : Int) ∧ 65 ≤ (c.toNat : Int) ∧ 90 < (c.toNat : Int)) := by
      unfold kps at hkf
      rw [hkp] at hkf
      simp only [Bool.or_eq_false_iff, Bool.and_eq_false_iff, decide_eq_false_iff_not] at hkf
      omega
     have HSN := Lib.hid hsn
     clear hsn hw hkk hkp h38 hkf
     have HN16 := Lib.hid (⟨by omega, by omega⟩ : c.toNat / 16 < 16 ∧ c.toNat % 16 < 16)
     rcases hcase with ⟨a1, a2, a3, a4⟩ | ⟨a1, a2, a3, a4, a5⟩ | ⟨a1, a2, a3, a4, a5, a6⟩ | ⟨a1, a2, a3, a4, a5, a6, a7⟩
     all_goals
      go_wp2_with (go_at_call 95; refine (HFI.out _).mono ?_; rintro e w2 ⟨rfl, hk2⟩)
      have HK2 := Lib.hid hk2
      clear hk2
      go_quiet (fail)
      go_wp2
      go_roundw
      case rel => exact ⟨j + 1, by rw [show whrT _ = _ from HSN.out, hex_ext _ HN16.out.1, hex_ext _ HN16.out.2, ← ba_append]; rw [ByteArray.append_assoc, ByteArray.append_assoc]; rfl, rfl, by omega, (HF.out.tr HK2.out).drewN _⟩
      case measure => simp [intOf]; omega
  ·obtain rfl : j = s.size := by omega
   have hd : s.data.toList.take s.size = s.data.toList := by rw [List.take_of_length_le (by simp)]
   rw [hd]
   clear hd hlt hj
   go_wp2
   go_ret
   exact ⟨rfl, hF⟩
end Go.Proofs.YtbioecifiogffaaGreatDoor
namespace Go.Proofs.YtbioecifiogffaaGreatDoor
open Go.RowKit
theorem ba_of2 {A : ByteArray} {l : List UInt8} (h : A.data.toList = l) : A = ⟨l.toArray⟩ := by subst h; rfl
theorem conv_one (X : World) (b : Nat) (hb : X.heap.size = b) (n : UInt8) (z : Int) (hz : z = (n.toNat : Int)) :
 (convert 71 9 (.slice (some ⟨b, 0, none⟩) 1 1)).run Tryz.prog (X.alloc (.cells #[.int .u8 z] 5)) = .ok (.string ⟨#[n]⟩) (X.alloc (.cells #[.int .u8 z] 5)) := by
 subst hb hz
 refine run_convert_bytes_back _ 71 9 5 ⟨X.heap.size, 0, none⟩ 1 [n] Tryz.underlying71 Tryz.underlying5 Tryz.underlying9 (fun j hj => ?_)
 have : j = 0 := by simp at hj; omega
 subst this
 rw [Addr.add_lit, Nat.zero_add, Lib.cell_of_heap (heap_alloc_new X _)]
 rfl
theorem Ev.cases12 {m : Nat} {e : Ev} (h : EvGood m e) : e.kind = 0 ∨ e.kind = 1 ∨ e.kind = 2 ∨ e.kind = 3 ∨ e.kind = 4 ∨ e.kind = 5 ∨ e.kind = 6 ∨ e.kind = 7 ∨ e.kind = 8 ∨ e.kind = 9 ∨ e.kind = 10 ∨ e.kind = 11 := by
 have := h.1
 have := h.2.1
 omega
theorem rHtml_any (e : Ev) (m : Nat) (w : World) (hg : EvGood m e) (hm : m ≤ 1048576) :
 Calls Tryz.prog 45 #[evV e] w fun r w' => r = .returned (.string ⟨(htm e).toArray⟩) ∧ Fresh w w' := by
 have hc := Ev.cases12 hg
 obtain ⟨-, -, hl, htl⟩ := hg
 obtain ⟨kd, fn, lv, tx⟩ := e
 unfold evV
 simp only at hc hl htl ⊢
 have hpl := fun W : World => rPlain_any ⟨tx.toArray⟩ W (by simp [ByteArray.size]; omega)
 have hwh := fun W : World => rWhere_any ⟨tx.toArray⟩ W (by simp [ByteArray.size]; omega)
 rw [show (⟨tx.toArray⟩ : ByteArray).data.toList = tx from rfl] at hpl hwh
 have he1 := esc_len tx
 have hw1 := whr_len tx
 obtain ⟨ET, hET⟩ : ∃ ET, escT tx = ET := ⟨_, rfl⟩
 obtain ⟨WT, hWT⟩ : ∃ WT, whrT tx = WT := ⟨_, rfl⟩
 rw [hET] at hpl he1
 rw [hWT] at hwh hw1
 have hel : ET.length ≤ 6291456 := by omega
 have hwl : WT.length ≤ 6291456 := by omega
 have HPL := Lib.hid hpl
 have HWH := Lib.hid hwh
 have HET := Lib.hid hET
 have HWT := Lib.hid hWT
 have HL := Lib.hid hl
 clear hpl hwh hET hWT he1 hw1 hl
 have fr : Fresh w (w.alloc (.cells #[.int .i64 kd, .bool fn, .int .i64 lv, .string ⟨tx.toArray⟩] 104)) := (Keeps.refl _ w).alloc _
 have HFR := Lib.hid fr
 clear fr
 rcases hc with rfl | rfl | rfl | rfl | rfl | rfl | rfl | rfl | rfl | rfl | rfl | rfl
 ·cases fn
  all_goals
   go_enter Tryz.func45, Tryz.ntmps45
   go_wp2
   go_ret
   exact ⟨rfl, HFR.out⟩
 ·rcases (by have := HL.out rfl; omega : lv = 1 ∨ lv = 2 ∨ lv = 3) with rfl | rfl | rfl
  ·have hcv := conv_one (w.alloc (.cells #[.int .i64 1, .bool fn, .int .i64 1, .string ⟨tx.toArray⟩] 104)) (w.heap.size + 1) (by simp) 49 49 rfl
   cases fn
   all_goals
    go_enter Tryz.func45, Tryz.ntmps45
    go_wp2
    go_ret
    exact ⟨rfl, HFR.out.alloc _⟩
  ·have hcv := conv_one (w.alloc (.cells #[.int .i64 1, .bool fn, .int .i64 2, .string ⟨tx.toArray⟩] 104)) (w.heap.size + 1) (by simp) 50 50 rfl
   cases fn
   all_goals
    go_enter Tryz.func45, Tryz.ntmps45
    go_wp2
    go_ret
    exact ⟨rfl, HFR.out.alloc _⟩
  ·have hcv := conv_one (w.alloc (.cells #[.int .i64 1, .bool fn, .int .i64 3, .string ⟨tx.toArray⟩] 104)) (w.heap.size + 1) (by simp) 51 51 rfl
   cases fn
   all_goals
    go_enter Tryz.func45, Tryz.ntmps45
    go_wp2
    go_ret
    exact ⟨rfl, HFR.out.alloc _⟩
 ·cases fn
  all_goals
   go_enter Tryz.func45, Tryz.ntmps45
   go_wp2
   go_ret
   exact ⟨rfl, HFR.out⟩
 ·cases fn
  all_goals
   go_enter Tryz.func45, Tryz.ntmps45
   go_wp2
   go_ret
   exact ⟨rfl, HFR.out⟩
 ·cases fn
  all_goals
   go_enter Tryz.func45, Tryz.ntmps45
   go_wp2
   go_ret
   exact ⟨rfl, HFR.out⟩
 ·cases fn
  all_goals
   go_enter Tryz.func45, Tryz.ntmps45
   go_wp2
   go_ret
   exact ⟨rfl, HFR.out⟩
 ·cases fn
  all_goals
   go_enter Tryz.func45, Tryz.ntmps45
   go_wp2
   go_ret
   exact ⟨rfl, HFR.out⟩
 ·cases fn with
  | true =>
   go_enter Tryz.func45, Tryz.ntmps45
   go_wp2
   go_ret
   exact ⟨rfl, HFR.out⟩
  | false =>
   have hh : htm ⟨7, false, lv, tx⟩ = [60, 97, 32, 104, 114, 101, 102, 61, 34] ++ WT ++ [34, 62] := by rw [← HWT.out]; rfl
   rw [hh]
   clear hh
   go_enter Tryz.func45, Tryz.ntmps45
   go_wp2_with fail
   refine (HWH.out _).mono ?_
   rintro r w2 ⟨rfl, hk2⟩
   have HK2 := Lib.hid hk2
   clear hk2
   go_wp2
   go_ret
   exact ⟨congrArg (fun b => Ending.returned (Value.string b)) (ba_of2 (by simp)), HFR.out.tr HK2.out⟩
 ·have hh : htm ⟨8, fn, lv, tx⟩ = ET := by rw [← HET.out]; rfl
  rw [hh]
  clear hh
  cases fn
  all_goals
   go_enter Tryz.func45, Tryz.ntmps45
   go_wp2_with fail
   refine (HPL.out _).mono ?_
   rintro r w2 ⟨rfl, rfl⟩
   go_wp2
   go_ret
   exact ⟨rfl, HFR.out⟩
 ·have hh : htm ⟨9, fn, lv, tx⟩ = [60, 99, 111, 100, 101, 62] ++ ET ++ [60, 47, 99, 111, 100, 101, 62] := by rw [← HET.out]; rfl
  rw [hh]
  clear hh
  cases fn
  all_goals
   go_enter Tryz.func45, Tryz.ntmps45
   go_wp2_with fail
   refine (HPL.out _).mono ?_
   rintro r w2 ⟨rfl, rfl⟩
   go_wp2
   go_ret
   exact ⟨congrArg (fun b => Ending.returned (Value.string b)) (ba_of2 (by simp)), HFR.out⟩
 ·cases fn
  all_goals
   go_enter Tryz.func45, Tryz.ntmps45
   go_wp2
   go_ret
   exact ⟨rfl, HFR.out⟩
 ·cases fn
  all_goals
   go_enter Tryz.func45, Tryz.ntmps45
   go_wp2
   go_ret
   exact ⟨rfl, HFR.out⟩
end Go.Proofs.YtbioecifiogffaaGreatDoor
namespace Go.Proofs.YtbioecifiogffaaGreatDoor
open Go.RowKit
theorem rPage_any (s : ByteArray) (w : World) (hs : s.size ≤ 1200) :
 Calls Tryz.prog 26 #[.string s] w fun e w' => e = .returned (.string ⟨(pageF s.data.toList).toArray⟩) ∧ Fresh w w' := by
 have hev := rEvents_any s w (by omega)
 have hgd := evsF_good s.data.toList
 have hpl := pageF_len s.data.toList (by simpa using hs)
 have hel := evsF_len s.data.toList
 unfold pageF at hpl ⊢
 rw [show s.data.toList.length = s.size by simp] at hgd hel
 generalize evsF s.data.toList = T at *
 have hht := fun (j : Nat) (x : Ev) (hx : T[j]? = some x) (W : World) => rHtml_any x (s.size + 1) W (hgd x (List.mem_of_getElem? hx)) (by omega)
 have hlen : ∀ j : Nat, (htms (T.take j)).length ≤ 40000000 := fun j => by
  have e : htms T = htms (T.take j) ++ htms (T.drop j) := by
   unfold htms
   rw [← List.flatMap_append, List.take_append_drop]
  rw [e, List.length_append] at hpl
  omega
 have HEV := Lib.hid hev
 have HHT := Lib.hid hht
 have HLEN := Lib.hid hlen
 clear hev hht hlen hgd hpl
 go_enter Tryz.func26, Tryz.ntmps26
 go_wp2_with fail
 refine HEV.out.mono ?_
 rintro r w4 ⟨u, rfl, he, -, hk4⟩
 obtain ⟨q, c, rfl, -, -, -⟩ := own_form he
 have HE := Lib.hid he
 have HK4 := Lib.hid hk4
 clear he hk4
 go_wp2_with fail
 go_loopw [4, 5] (fun o i wr => ∃ j : Nat, j ≤ T.length ∧ i = .int .i64 j ∧ o = .string ⟨(htms (T.take j)).toArray⟩ ∧ Fresh w4 wr) (fun _ i _ => T.length - (intOf i).toNat)
 case atStart => exact ⟨0, Nat.zero_le _, rfl, by simp [htms], Keeps.refl _ _⟩
 case round =>
  obtain ⟨j, hj, rfl, rfl, hF⟩ := hrel
  obtain ⟨wo, rfl⟩ : ∃ wo : World, wo = wr := ⟨_, rfl⟩
  by_cases hlt : j < T.length
  ·obtain ⟨x, hx⟩ : ∃ x, T[j]? = some x := ⟨T[j], List.getElem?_eq_getElem hlt⟩
   obtain ⟨g, hqe, -, hgl, x0, x1, x2, x3⟩ := Evs.at (HE.out.fresh hF) hx
   subst hqe
   have htk : htms (T.take (j + 1)) = htms (T.take j) ++ htm x := by
    unfold htms
    rw [List.take_add_one, hx]
    simp
   have hl1 := HLEN.out (j + 1)
   rw [htk, List.length_append] at hl1
   obtain ⟨D, hD⟩ : ∃ D, htms (T.take j) = D := ⟨_, rfl⟩
   have hcall := HHT.out j x hx
   unfold evV at hcall
   obtain ⟨M, hM⟩ : ∃ M, htm x = M := ⟨_, rfl⟩
   rw [hD, hM] at htk
   rw [hD, hM] at hl1
   rw [hM] at hcall
   rw [hD]
   have hjl : (j : Int) < (T.length : Int) := by omega
   have hj0 : (0 : Int) ≤ (j : Int) := by omega
   have HCA := Lib.hid hcall
   have HTK := Lib.hid htk
   have HF := Lib.hid hF
   clear hcall htk hF hD hM hx
   go_wp2_with fail
   refine (HCA.out _).mono ?_
   rintro e w5 ⟨rfl, hk5⟩
   have HK5 := Lib.hid hk5
   clear hk5
   go_wp2
   go_roundw
   case rel => exact ⟨j + 1, by omega, by go_num, by rw [show htms _ = _ from HTK.out, ← ba_append], HF.out.tr HK5.out⟩
   case measure => simp [intOf]; omega
  ·obtain rfl : j = T.length := by omega
   rw [List.take_length]
   have HF := Lib.hid hF
   clear hlt hj hF
   go_wp2
   go_ret
   exact ⟨rfl, HK4.out.tr HF.out⟩
end Go.Proofs.YtbioecifiogffaaGreatDoor
namespace Go.Proofs.YtbioecifiogffaaGreatDoor
open Go.RowKit
theorem wr_cells {X : World} {B : Nat} {e n c o m rd : Nat} {g : ByteArray} {nn : Bool} (h : X.heap[B]? = some (.cells #[.int .i64 e, .int .i64 n, .int .i64 c, .string g, .int .i64 o, .int .i64 m, .bool nn, .int .i64 rd] 27 (0, 0))) :
 X.cell? ⟨B, 0, none⟩ = some (.int .i64 e) ∧ X.cell? ⟨B, 1, none⟩ = some (.int .i64 n) ∧ X.cell? ⟨B, 2, none⟩ = some (.int .i64 c) ∧ X.cell? ⟨B, 3, none⟩ = some (.string g) ∧ X.cell? ⟨B, 4, none⟩ = some (.int .i64 o) ∧ X.cell? ⟨B, 5, none⟩ = some (.int .i64 m) ∧ X.cell? ⟨B, 6, none⟩ = some (.bool nn) ∧ X.cell? ⟨B, 7, none⟩ = some (.int .i64 rd) := by
 refine ⟨?_, ?_, ?_, ?_, ?_, ?_, ?_, ?_⟩ <;> (rw [Lib.cell_of_heap h]; rfl)
theorem box_cells {X : World} {B t : Nat} {a b c d : Value} (h : X.heap[B]? = some (.cells #[a, b, c, d] t (0, 0))) : X.cell? ⟨B, 0, none⟩ = some a ∧ X.cell? ⟨B, 1, none⟩ = some b ∧ X.cell? ⟨B, 2, none⟩ = some c ∧ X.cell? ⟨B, 3, none⟩ = some d := by
 refine ⟨?_, ?_, ?_, ?_⟩ <;> (rw [Lib.cell_of_heap h]; rfl)
theorem ext_pre {P G : ByteArray} (h : P.data.toList.take G.size = G.data.toList) : P.extract 0 G.size = G := by
 apply ByteArray.ext
 apply Array.toList_inj.1
 rw [← h]
 simp
end Go.Proofs.YtbioecifiogffaaGreatDoor
