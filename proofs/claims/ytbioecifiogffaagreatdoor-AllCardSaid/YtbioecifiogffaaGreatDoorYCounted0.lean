/- proselaw.Counted: the walk. Conditions: the listed variables read as the text lays them. -/
import Derived.Test.YtbioecifiogffaaGreatDoorR12
set_option linter.unusedVariables false
set_option linter.unusedSimpArgs false
set_option maxHeartbeats 8000000
set_option maxRecDepth 1000000
namespace Go.Proofs.YtbioecifiogffaaGreatDoor
open Go.RowKit
theorem Counted_any (aL aI aS : Addr) (w : World) (hV : LaidVars aL aI aS w) (hG : Gl w) (s : ByteArray) (v : Value) (cs : List Int) (fa : Int) (wt : Bool) (k : Int) (hv : IntsAt w v cs) (hm : s.size ≤ maxLen) (hlm : cs.length ≤ maxLen) (hw : ∀ x ∈ cs,-9223372036854775808 ≤ x ∧ x ≤ 9223372036854775807) (hk1 : -9223372036854775808 ≤ k) (hk2 : k ≤ 9223372036854775807) :
 Calls Tryz.prog 7 #[.agg #[.string s,v,.int .i64 fa,.bool wt],.int .i64 k] w fun e w' => e = .returned (.bool true) ∧ Fresh w w':=by
 have hfit:=fun (W : World) (hF : Fresh w W) => fit_any s v cs fa wt W (hv.kept hF (fun _ _ h => h)) hm hlm
 obtain ⟨ao,cap,rfl⟩:=hv.form
 unfold maxLen at hm hlm
 obtain ⟨W,hW⟩ : ∃ W,w.alloc (.cells #[.string s,.slice ao cs.length cap,.int .i64 fa,.bool wt] 30) = W:=⟨_,rfl⟩
 have hFW : Fresh w W:=by rw [← hW];exact (Keeps.refl _ w).alloc _
 have hin : W.heap[w.heap.size]? = some (.cells #[.string s,.slice ao cs.length cap,.int .i64 fa,.bool wt] 30 (0,0)):=by rw [← hW];exact heap_alloc_new w _
 obtain ⟨c0,c1,c2,c3⟩:=box_cells hin
 by_cases hfits : s.size ≤ 1048576 ∧ cs.length ≤ 1048576
 ·rw [decide_eq_true hfits] at hfit
  obtain ⟨hs,hl⟩:=hfits
  have hf1:=hfit W hFW
  obtain ⟨c,hc⟩ : ∃ c,comeL s.data.toList cs fa wt = c:=⟨_,rfl⟩
  have hct : c.text.length ≤ 1200:=by rw [← hc];exact comeL_text _ _ _ _
  have hn0 : c.err = 0 → c.n = 0:=by rw [← hc];exact comeL_n0 _ _ _ _
  have hco:=fun (W : World) (hF : Fresh w W) => come_any s (.slice ao cs.length cap) cs fa wt W (hv.kept hF (fun _ _ h => h)) hs hl hw
  rw [hc] at hco
  have hht:=fun (W : World) (hF : Fresh w W) => Html_any aL aI aS W (hV.fresh hF) (hG.fresh hF) s (.slice ao cs.length cap) cs fa wt (hv.kept hF (fun _ _ h => h)) hs hl hw (.slice none 0 0) [] (ints_nil W) (by simp) 0 0 0 0 0 (.inl ⟨rfl,rfl⟩)
  have hone:=fun (fl la lie : Int) (W : World) (hF : Fresh w W) => Html_any aL aI aS (W.alloc (.cells #[.int .i64 1] 3)) (hV.fresh (hF.alloc _)) (hG.fresh (hF.alloc _)) s (.slice ao cs.length cap) cs fa wt (hv.kept (hF.alloc _) (fun _ _ h => h)) hs hl hw (.slice (some ⟨W.heap.size,0,none⟩) 1 1) [1] (one_row W) (by simp) fl la lie 0 0 (.inl ⟨rfl,rfl⟩)
  rw [hc] at hht hone
  obtain ⟨PG,hPG⟩ : ∃ P,(⟨(pgL c).toArray⟩ : ByteArray) = P:=⟨_,rfl⟩
  have hpsz : PG.size = (pgL c).length:=by rw [← hPG];simp [ByteArray.size]
  have hpl : (pgL c).length ≤ 40000000:=by
   unfold pgL
   split
   ·exact pageF_len _ hct
   ·simp
  have HT:=Lib.hid hht
  have HO:=Lib.hid hone
  have HC:=Lib.hid hco
  have HIN:=Lib.hid hin
  have HFW:=Lib.hid hFW
  have HFIT:=Lib.hid hf1
  have HPSZ:=Lib.hid hpsz
  have hpl2 : PG.size ≤ 40000000:=by omega
  clear hht hone hco hfit hf1 hV hG hv hw hc hin hFW hpsz hpl
  obtain ⟨K,hK⟩ : ∃ K : Int,(if k < 0 then -(k + 1) else k) = K:=⟨_,rfl⟩
  have hK0 : 0 ≤ K:=by rw [← hK];split <;> omega
  have hK9 : K ≤ 9223372036854775807:=by rw [← hK];split <;> omega
  by_cases he : c.err = 0
  ·skip
   have Rc0:=HIN
   have HF0:=HFW
   have hpe : pgL c = pageF c.text:=by unfold pgL;rw [if_pos he]
   have hpgc:=fun (W : World) => rPage_any ⟨c.text.toArray⟩ W (by simpa [ByteArray.size] using hct)
   rw [show (⟨c.text.toArray⟩ : ByteArray).data.toList = c.text from rfl,← hpe,hPG] at hpgc
   have HPGC:=Lib.hid hpgc
   rw [he,hn0 he] at HC
   clear hpe hpgc
   have HPG:=Lib.hid hPG
   clear HIN HFW hPG hn0
   go_enter Tryz.func7,Tryz.ntmps7
   go_upto_region 1 with fail
   clear hW
   go_upto_region 2 with (go_at_call 18;refine HFIT.out.mono ?_;rintro e w1 ⟨rfl,hkk⟩)
   have hk_1:=hkk
   have Rc1:=Lib.hid (hk_1.heap_some Rc0.out (fun h => h))
   have HF1:=Lib.hid (HF0.out.tr hk_1)
   clear hk_1 Rc0 c0 c1 c2 c3 hkk HFIT HF0
   obtain ⟨c0,c1,c2,c3⟩:=box_cells Rc1.out
   go_upto_region 4 with fail
   go_upto_region 5 with (go_at_call 25;refine (HC.out _ HF1.out).mono ?_;rintro e w2 ⟨rfl,hkk⟩)
   refine name_world fun X2 hX2 => ?_
   have hkX : Fresh w1 X2:=by rw [hX2];exact hkk.alloc _
   have hk_2:=hkX
   have Rc2:=Lib.hid (hk_2.heap_some Rc1.out (fun h => h))
   have HF2:=Lib.hid (HF1.out.tr hk_2)
   have Rk2:=Lib.hid (show X2.heap[w2.heap.size]? = some (.cells #[.string ⟨c.text.toArray⟩,.int .i64 (0 : Nat),.int .i64 (0 : Nat),.int .i64 c.reads] 56 (0,0)) from by rw [hX2];exact heap_alloc_new w2 _)
   clear hk_2 Rc1 c0 c1 c2 c3 hkX hkk hX2 HC HF1
   obtain ⟨c0,c1,c2,c3⟩:=box_cells Rc2.out
   obtain ⟨k0,k1,k2,k3⟩:=box_cells Rk2.out
   go_upto_region 8 with (go_at_call 26;refine (HPGC.out _).mono ?_;rintro e w3 ⟨rfl,hkk⟩)
   have hk_3:=hkk
   have Rc3:=Lib.hid (hk_3.heap_some Rc2.out (fun h => h))
   have Rk3:=Lib.hid (hk_3.heap_some Rk2.out (fun h => h))
   have HF3:=Lib.hid (HF2.out.tr hk_3)
   clear hk_3 Rc2 Rk2 c0 c1 c2 c3 k0 k1 k2 k3 hkk HPGC HF2
   obtain ⟨c0,c1,c2,c3⟩:=box_cells Rc3.out
   obtain ⟨k0,k1,k2,k3⟩:=box_cells Rk3.out
   by_cases hp : pgL c = []
   ·skip
    have he0 : PG.size = 0:=by rw [HPSZ.out,hp];rfl
    obtain ⟨f1,f2,f3,f4,f5⟩:=htmlL_fine he [] 0
    have f6:=f5.2 hp
    obtain ⟨F,hF2⟩ : ∃ F,htmlL 0 c (snk0 [] 0 0 0) = F:=⟨_,rfl⟩
    have ht:=HT.out
    rw [hF2] at ht f1 f6
    obtain ⟨te,tn,tc,tg,tof,tm,tnn,tr⟩:=F
    dsimp only at f1 f6
    subst f1 f6
    unfold wrV at ht
    dsimp only at ht
    have HTE:=Lib.hid ht
    clear ht hF2 f2 f3 f4 f5 hp
    by_cases hkn : k < 0
    ·skip
     go_upto_region 12 with (go_at_call 12;refine (HTE.out _ HF3.out).mono ?_;rintro e w4 ⟨rfl,hkk⟩)
     refine name_world fun X4 hX4 => ?_
     have hkX : Fresh w3 X4:=by rw [hX4];exact hkk.alloc _
     have hk_4:=hkX
     have Rc4:=Lib.hid (hk_4.heap_some Rc3.out (fun h => h))
     have Rk4:=Lib.hid (hk_4.heap_some Rk3.out (fun h => h))
     have HF4:=Lib.hid (HF3.out.tr hk_4)
     have Rt4:=Lib.hid (show X4.heap[w4.heap.size]? = some (.cells #[.int .i64 (0 : Nat),.int .i64 tn,.int .i64 tc,.string ⟨tg.toArray⟩,.int .i64 (0 : Nat),.int .i64 tm,.bool tnn,.int .i64 tr] 27 (0,0)) from by rw [hX4];exact heap_alloc_new w4 _)
     clear hk_4 Rc3 Rk3 c0 c1 c2 c3 k0 k1 k2 k3 hkX hkk hX4 HTE HF3
     obtain ⟨c0,c1,c2,c3⟩:=box_cells Rc4.out
     obtain ⟨k0,k1,k2,k3⟩:=box_cells Rk4.out
     obtain ⟨t0,t1,t2,t3,t4,t5,t6,t7⟩:=wr_cells Rt4.out
     go_wp2
     go_ret
     exact ⟨rfl,HF4.out⟩
    ·skip
     go_upto_region 12 with (go_at_call 12;refine (HTE.out _ HF3.out).mono ?_;rintro e w4 ⟨rfl,hkk⟩)
     refine name_world fun X4 hX4 => ?_
     have hkX : Fresh w3 X4:=by rw [hX4];exact hkk.alloc _
     have hk_4:=hkX
     have Rc4:=Lib.hid (hk_4.heap_some Rc3.out (fun h => h))
     have Rk4:=Lib.hid (hk_4.heap_some Rk3.out (fun h => h))
     have HF4:=Lib.hid (HF3.out.tr hk_4)
     have Rt4:=Lib.hid (show X4.heap[w4.heap.size]? = some (.cells #[.int .i64 (0 : Nat),.int .i64 tn,.int .i64 tc,.string ⟨tg.toArray⟩,.int .i64 (0 : Nat),.int .i64 tm,.bool tnn,.int .i64 tr] 27 (0,0)) from by rw [hX4];exact heap_alloc_new w4 _)
     clear hk_4 Rc3 Rk3 c0 c1 c2 c3 k0 k1 k2 k3 hkX hkk hX4 HTE HF3
     obtain ⟨c0,c1,c2,c3⟩:=box_cells Rc4.out
     obtain ⟨k0,k1,k2,k3⟩:=box_cells Rk4.out
     obtain ⟨t0,t1,t2,t3,t4,t5,t6,t7⟩:=wr_cells Rt4.out
     go_wp2
     go_ret
     exact ⟨rfl,HF4.out⟩
   ·skip
    have hpp : 0 < PG.size:=by
     rw [HPSZ.out]
     rcases Nat.eq_zero_or_pos (pgL c).length with h | h
     ·exact absurd (List.length_eq_zero_iff.1 h) hp
     ·exact h
    have hpi : ¬ (PG.size : Int) = 0:=by omega
    have m0:=Int.emod_nonneg K hpi
    have m1:=Int.emod_lt_of_pos K (show (0 : Int) < (PG.size : Int) by omega)
    have hmod : Int.tmod K (PG.size : Int) = K % (PG.size : Int):=Int.tmod_eq_emod_of_nonneg hK0
    obtain ⟨B,hB⟩ : ∃ B : Nat,K % (PG.size : Int) = (B : Int):=⟨_,(Int.toNat_of_nonneg m0).symm⟩
    rw [hB] at hmod m1
    have hBl : B + 1 ≤ (pgL c).length:=by rw [← HPSZ.out];omega
    obtain ⟨A,hA⟩ : ∃ A : Nat,A = B + 1:=⟨_,rfl⟩
    have hA1 : 1 + (B : Int) = (A : Int):=by omega
    have hA2 : (A : Int) - 1 = (B : Int):=by omega
    rw [← hA] at hBl
    have hAB : A - 1 = B:=by omega
    have htp:=HO.out A 0 0
    obtain ⟨qp0,qp1,qp2,qp3⟩:=htmlL_fails he A (by omega) hBl
    obtain ⟨Fp,hFp⟩ : ∃ F,htmlL 0 c (snk0 [1] A 0 0) = F:=⟨_,rfl⟩
    rw [hFp] at htp qp0 qp1 qp2 qp3
    obtain ⟨pe,pn,pc,pg,po,pm,pnn,pr⟩:=Fp
    dsimp only at qp0 qp1 qp2 qp3
    rw [hAB] at qp1 qp2
    subst qp0
    obtain rfl : B = pn:=qp1.symm
    obtain rfl : B = pc:=qp2.symm
    obtain rfl : A = po:=qp3.symm
    unfold wrV at htp
    dsimp only at htp
    have HTp:=Lib.hid htp
    clear htp hFp
    have htq:=HO.out 0 A 17
    obtain ⟨qq0,qq1,qq2⟩:=htmlL_lies he A 17 (by omega) hBl (.inr (.inl (by decide)))
    obtain ⟨Fq,hFq⟩ : ∃ F,htmlL 0 c (snk0 [1] 0 A 17) = F:=⟨_,rfl⟩
    rw [hFq] at htq qq0 qq1 qq2
    obtain ⟨qe,qn,qc,qg,qo,qm,qnn,qr⟩:=Fq
    dsimp only at qq0 qq1 qq2
    rw [hAB] at qq1 qq2
    subst qq0
    obtain rfl : B = qn:=qq1.symm
    obtain rfl : B = qc:=qq2.symm
    unfold wrV at htq
    dsimp only at htq
    have HTq:=Lib.hid htq
    clear htq hFq
    have htr:=HO.out 0 A (-K)
    obtain ⟨qr0,qr1,qr2⟩:=htmlL_lies he A (-K) (by omega) hBl (.inl (by omega))
    obtain ⟨Fr,hFr⟩ : ∃ F,htmlL 0 c (snk0 [1] 0 A (-K)) = F:=⟨_,rfl⟩
    rw [hFr] at htr qr0 qr1 qr2
    obtain ⟨re,rn,rc,rg,ro,rm,rnn,rr⟩:=Fr
    dsimp only at qr0 qr1 qr2
    rw [hAB] at qr1 qr2
    subst qr0
    obtain rfl : B = rn:=qr1.symm
    obtain rfl : B = rc:=qr2.symm
    unfold wrV at htr
    dsimp only at htr
    have HTr:=Lib.hid htr
    clear htr hFr
    have hxx:=htmlL_lies he A ((PG.size : Int) - (A : Int) + 1 + 1) (by omega) hBl (.inr (.inr (by rw [HPSZ.out];omega)))
    obtain ⟨q1,q2,q3⟩:=hxx
    have htx:=HO.out 0 A ((PG.size : Int) - (A : Int) + 1 + 1)
    obtain ⟨FX,hFX⟩ : ∃ F,htmlL 0 c (snk0 [1] 0 A ((PG.size : Int) - (A : Int) + 1 + 1)) = F:=⟨_,rfl⟩
    rw [hFX] at htx q1 q2 q3
    obtain ⟨xe,xn,xc,xg,xo,xm,xnn,xr⟩:=FX
    dsimp only at q1 q2 q3
    rw [hAB] at q2 q3
    subst q1
    obtain rfl : B = xn:=q2.symm
    obtain rfl : B = xc:=q3.symm
    unfold wrV at htx
    dsimp only at htx
    have HTx:=Lib.hid htx
    have hAl : (A : Int) ≤ (PG.size : Int):=by rw [HPSZ.out];omega
    clear htx hFX hBl hp HO HT hB m0 HPSZ HPG hA hAB
    by_cases hkn : k < 0
    ·skip
     have hKe : -(k + 1) = K:=by rw [← hK,if_pos hkn]
     clear hK
     go_upto_region 15 with (go_at_call 12;refine (HTp.out _ HF3.out).mono ?_;rintro e wp ⟨rfl,hkk⟩)
     refine name_world fun Xp hX => ?_
     have hkX : Fresh w3 Xp:=by rw [hX];exact (((Keeps.refl _ _).alloc _).tr hkk).alloc _
     have hk_4:=hkX
     have Rc4:=Lib.hid (hk_4.heap_some Rc3.out (fun h => h))
     have Rk4:=Lib.hid (hk_4.heap_some Rk3.out (fun h => h))
     have HF4:=Lib.hid (HF3.out.tr hk_4)
     have Rp4:=Lib.hid (show Xp.heap[wp.heap.size]? = some (.cells #[.int .i64 (5 : Nat),.int .i64 B,.int .i64 B,.string ⟨pg.toArray⟩,.int .i64 A,.int .i64 pm,.bool pnn,.int .i64 pr] 27 (0,0)) from by rw [hX];exact heap_alloc_new wp _)
     clear hk_4 Rc3 Rk3 c0 c1 c2 c3 k0 k1 k2 k3 hkX hkk hX HTp HF3
     obtain ⟨c0,c1,c2,c3⟩:=box_cells Rc4.out
     obtain ⟨k0,k1,k2,k3⟩:=box_cells Rk4.out
     obtain ⟨p0,p1,p2,p3,p4,p5,p6,p7⟩:=wr_cells Rp4.out
     go_upto_region 16 with (go_at_call 12;refine (HTq.out _ HF4.out).mono ?_;rintro e wq ⟨rfl,hkk⟩)
     refine name_world fun Xq hX => ?_
     have hkX : Fresh Xp Xq:=by rw [hX];exact (((Keeps.refl _ _).alloc _).tr hkk).alloc _
     have hk_5:=hkX
     have Rc5:=Lib.hid (hk_5.heap_some Rc4.out (fun h => h))
     have Rk5:=Lib.hid (hk_5.heap_some Rk4.out (fun h => h))
     have Rp5:=Lib.hid (hk_5.heap_some Rp4.out (fun h => h))
     have HF5:=Lib.hid (HF4.out.tr hk_5)
     have Rq5:=Lib.hid (show Xq.heap[wq.heap.size]? = some (.cells #[.int .i64 (3 : Nat),.int .i64 B,.int .i64 B,.string ⟨qg.toArray⟩,.int .i64 qo,.int .i64 qm,.bool qnn,.int .i64 qr] 27 (0,0)) from by rw [hX];exact heap_alloc_new wq _)
     clear hk_5 Rc4 Rk4 Rp4 c0 c1 c2 c3 k0 k1 k2 k3 p0 p1 p2 p3 p4 p5 p6 p7 hkX hkk hX HTq HF4
     obtain ⟨c0,c1,c2,c3⟩:=box_cells Rc5.out
     obtain ⟨k0,k1,k2,k3⟩:=box_cells Rk5.out
     obtain ⟨p0,p1,p2,p3,p4,p5,p6,p7⟩:=wr_cells Rp5.out
     obtain ⟨q0,q1,q2,q3,q4,q5,q6,q7⟩:=wr_cells Rq5.out
     go_upto_region 17 with (go_at_call 12;refine (HTr.out _ HF5.out).mono ?_;rintro e wr ⟨rfl,hkk⟩)
     refine name_world fun Xr hX => ?_
     have hkX : Fresh Xq Xr:=by rw [hX];exact (((Keeps.refl _ _).alloc _).tr hkk).alloc _
     have hk_6:=hkX
     have Rc6:=Lib.hid (hk_6.heap_some Rc5.out (fun h => h))
     have Rk6:=Lib.hid (hk_6.heap_some Rk5.out (fun h => h))
     have Rp6:=Lib.hid (hk_6.heap_some Rp5.out (fun h => h))
     have Rq6:=Lib.hid (hk_6.heap_some Rq5.out (fun h => h))
     have HF6:=Lib.hid (HF5.out.tr hk_6)
     have Rr6:=Lib.hid (show Xr.heap[wr.heap.size]? = some (.cells #[.int .i64 (3 : Nat),.int .i64 B,.int .i64 B,.string ⟨rg.toArray⟩,.int .i64 ro,.int .i64 rm,.bool rnn,.int .i64 rr] 27 (0,0)) from by rw [hX];exact heap_alloc_new wr _)
     clear hk_6 Rc5 Rk5 Rp5 Rq5 c0 c1 c2 c3 k0 k1 k2 k3 p0 p1 p2 p3 p4 p5 p6 p7 q0 q1 q2 q3 q4 q5 q6 q7 hkX hkk hX HTr HF5
     obtain ⟨c0,c1,c2,c3⟩:=box_cells Rc6.out
     obtain ⟨k0,k1,k2,k3⟩:=box_cells Rk6.out
     obtain ⟨p0,p1,p2,p3,p4,p5,p6,p7⟩:=wr_cells Rp6.out
     obtain ⟨q0,q1,q2,q3,q4,q5,q6,q7⟩:=wr_cells Rq6.out
     obtain ⟨r0,r1,r2,r3,r4,r5,r6,r7⟩:=wr_cells Rr6.out
     by_cases h16 : (PG.size : Int) - (A : Int) + 1 < 16
     ·skip
      go_upto_region 20 with (go_at_call 12;refine (HTx.out _ HF6.out).mono ?_;rintro e wx ⟨rfl,hkk⟩)
      refine name_world fun Xx hX => ?_
      have hkX : Fresh Xr Xx:=by rw [hX];exact (((Keeps.refl _ _).alloc _).tr hkk).alloc _
      have hk_7:=hkX
      have Rc7:=Lib.hid (hk_7.heap_some Rc6.out (fun h => h))
      have Rk7:=Lib.hid (hk_7.heap_some Rk6.out (fun h => h))
      have Rp7:=Lib.hid (hk_7.heap_some Rp6.out (fun h => h))
      have Rq7:=Lib.hid (hk_7.heap_some Rq6.out (fun h => h))
      have Rr7:=Lib.hid (hk_7.heap_some Rr6.out (fun h => h))
      have HF7:=Lib.hid (HF6.out.tr hk_7)
      have Rx7:=Lib.hid (show Xx.heap[wx.heap.size]? = some (.cells #[.int .i64 (3 : Nat),.int .i64 B,.int .i64 B,.string ⟨xg.toArray⟩,.int .i64 xo,.int .i64 xm,.bool xnn,.int .i64 xr] 27 (0,0)) from by rw [hX];exact heap_alloc_new wx _)
      clear hk_7 Rc6 Rk6 Rp6 Rq6 Rr6 c0 c1 c2 c3 k0 k1 k2 k3 p0 p1 p2 p3 p4 p5 p6 p7 q0 q1 q2 q3 q4 q5 q6 q7 r0 r1 r2 r3 r4 r5 r6 r7 hkX hkk hX HTx HF6
      obtain ⟨c0,c1,c2,c3⟩:=box_cells Rc7.out
      obtain ⟨k0,k1,k2,k3⟩:=box_cells Rk7.out
      obtain ⟨p0,p1,p2,p3,p4,p5,p6,p7⟩:=wr_cells Rp7.out
      obtain ⟨q0,q1,q2,q3,q4,q5,q6,q7⟩:=wr_cells Rq7.out
      obtain ⟨r0,r1,r2,r3,r4,r5,r6,r7⟩:=wr_cells Rr7.out
      obtain ⟨x0,x1,x2,x3,x4,x5,x6,x7⟩:=wr_cells Rx7.out
      go_wp2
      go_ret
      exact ⟨rfl,HF7.out⟩
     ·skip
      go_wp2
      go_ret
      exact ⟨rfl,HF6.out⟩
    ·skip
     have hKe : k = K:=by rw [← hK,if_neg hkn]
     subst hKe
     clear hK
     go_upto_region 15 with (go_at_call 12;refine (HTp.out _ HF3.out).mono ?_;rintro e wp ⟨rfl,hkk⟩)
     refine name_world fun Xp hX => ?_
     have hkX : Fresh w3 Xp:=by rw [hX];exact (((Keeps.refl _ _).alloc _).tr hkk).alloc _
     have hk_4:=hkX
     have Rc4:=Lib.hid (hk_4.heap_some Rc3.out (fun h => h))
     have Rk4:=Lib.hid (hk_4.heap_some Rk3.out (fun h => h))
     have HF4:=Lib.hid (HF3.out.tr hk_4)
     have Rp4:=Lib.hid (show Xp.heap[wp.heap.size]? = some (.cells #[.int .i64 (5 : Nat),.int .i64 B,.int .i64 B,.string ⟨pg.toArray⟩,.int .i64 A,.int .i64 pm,.bool pnn,.int .i64 pr] 27 (0,0)) from by rw [hX];exact heap_alloc_new wp _)
     clear hk_4 Rc3 Rk3 c0 c1 c2 c3 k0 k1 k2 k3 hkX hkk hX HTp HF3
     obtain ⟨c0,c1,c2,c3⟩:=box_cells Rc4.out
     obtain ⟨k0,k1,k2,k3⟩:=box_cells Rk4.out
     obtain ⟨p0,p1,p2,p3,p4,p5,p6,p7⟩:=wr_cells Rp4.out
     go_upto_region 16 with (go_at_call 12;refine (HTq.out _ HF4.out).mono ?_;rintro e wq ⟨rfl,hkk⟩)
     refine name_world fun Xq hX => ?_
     have hkX : Fresh Xp Xq:=by rw [hX];exact (((Keeps.refl _ _).alloc _).tr hkk).alloc _
     have hk_5:=hkX
     have Rc5:=Lib.hid (hk_5.heap_some Rc4.out (fun h => h))
     have Rk5:=Lib.hid (hk_5.heap_some Rk4.out (fun h => h))
     have Rp5:=Lib.hid (hk_5.heap_some Rp4.out (fun h => h))
     have HF5:=Lib.hid (HF4.out.tr hk_5)
     have Rq5:=Lib.hid (show Xq.heap[wq.heap.size]? = some (.cells #[.int .i64 (3 : Nat),.int .i64 B,.int .i64 B,.string ⟨qg.toArray⟩,.int .i64 qo,.int .i64 qm,.bool qnn,.int .i64 qr] 27 (0,0)) from by rw [hX];exact heap_alloc_new wq _)
     clear hk_5 Rc4 Rk4 Rp4 c0 c1 c2 c3 k0 k1 k2 k3 p0 p1 p2 p3 p4 p5 p6 p7 hkX hkk hX HTq HF4
     obtain ⟨c0,c1,c2,c3⟩:=box_cells Rc5.out
     obtain ⟨k0,k1,k2,k3⟩:=box_cells Rk5.out
     obtain ⟨p0,p1,p2,p3,p4,p5,p6,p7⟩:=wr_cells Rp5.out
     obtain ⟨q0,q1,q2,q3,q4,q5,q6,q7⟩:=wr_cells Rq5.out
     go_upto_region 17 with (go_at_call 12;refine (HTr.out _ HF5.out).mono ?_;rintro e wr ⟨rfl,hkk⟩)
     refine name_world fun Xr hX => ?_
     have hkX : Fresh Xq Xr:=by rw [hX];exact (((Keeps.refl _ _).alloc _).tr hkk).alloc _
     have hk_6:=hkX
     have Rc6:=Lib.hid (hk_6.heap_some Rc5.out (fun h => h))
     have Rk6:=Lib.hid (hk_6.heap_some Rk5.out (fun h => h))
     have Rp6:=Lib.hid (hk_6.heap_some Rp5.out (fun h => h))
     have Rq6:=Lib.hid (hk_6.heap_some Rq5.out (fun h => h))
     have HF6:=Lib.hid (HF5.out.tr hk_6)
     have Rr6:=Lib.hid (show Xr.heap[wr.heap.size]? = some (.cells #[.int .i64 (3 : Nat),.int .i64 B,.int .i64 B,.string ⟨rg.toArray⟩,.int .i64 ro,.int .i64 rm,.bool rnn,.int .i64 rr] 27 (0,0)) from by rw [hX];exact heap_alloc_new wr _)
     clear hk_6 Rc5 Rk5 Rp5 Rq5 c0 c1 c2 c3 k0 k1 k2 k3 p0 p1 p2 p3 p4 p5 p6 p7 q0 q1 q2 q3 q4 q5 q6 q7 hkX hkk hX HTr HF5
     obtain ⟨c0,c1,c2,c3⟩:=box_cells Rc6.out
     obtain ⟨k0,k1,k2,k3⟩:=box_cells Rk6.out
     obtain ⟨p0,p1,p2,p3,p4,p5,p6,p7⟩:=wr_cells Rp6.out
     obtain ⟨q0,q1,q2,q3,q4,q5,q6,q7⟩:=wr_cells Rq6.out
     obtain ⟨r0,r1,r2,r3,r4,r5,r6,r7⟩:=wr_cells Rr6.out
     by_cases h16 : (PG.size : Int) - (A : Int) + 1 < 16
     ·skip
      go_upto_region 20 with (go_at_call 12;refine (HTx.out _ HF6.out).mono ?_;rintro e wx ⟨rfl,hkk⟩)
      refine name_world fun Xx hX => ?_
      have hkX : Fresh Xr Xx:=by rw [hX];exact (((Keeps.refl _ _).alloc _).tr hkk).alloc _
      have hk_7:=hkX
      have Rc7:=Lib.hid (hk_7.heap_some Rc6.out (fun h => h))
      have Rk7:=Lib.hid (hk_7.heap_some Rk6.out (fun h => h))
      have Rp7:=Lib.hid (hk_7.heap_some Rp6.out (fun h => h))
      have Rq7:=Lib.hid (hk_7.heap_some Rq6.out (fun h => h))
      have Rr7:=Lib.hid (hk_7.heap_some Rr6.out (fun h => h))
      have HF7:=Lib.hid (HF6.out.tr hk_7)
      have Rx7:=Lib.hid (show Xx.heap[wx.heap.size]? = some (.cells #[.int .i64 (3 : Nat),.int .i64 B,.int .i64 B,.string ⟨xg.toArray⟩,.int .i64 xo,.int .i64 xm,.bool xnn,.int .i64 xr] 27 (0,0)) from by rw [hX];exact heap_alloc_new wx _)
      clear hk_7 Rc6 Rk6 Rp6 Rq6 Rr6 c0 c1 c2 c3 k0 k1 k2 k3 p0 p1 p2 p3 p4 p5 p6 p7 q0 q1 q2 q3 q4 q5 q6 q7 r0 r1 r2 r3 r4 r5 r6 r7 hkX hkk hX HTx HF6
      obtain ⟨c0,c1,c2,c3⟩:=box_cells Rc7.out
      obtain ⟨k0,k1,k2,k3⟩:=box_cells Rk7.out
      obtain ⟨p0,p1,p2,p3,p4,p5,p6,p7⟩:=wr_cells Rp7.out
      obtain ⟨q0,q1,q2,q3,q4,q5,q6,q7⟩:=wr_cells Rq7.out
      obtain ⟨r0,r1,r2,r3,r4,r5,r6,r7⟩:=wr_cells Rr7.out
      obtain ⟨x0,x1,x2,x3,x4,x5,x6,x7⟩:=wr_cells Rx7.out
      go_wp2
      go_ret
      exact ⟨rfl,HF7.out⟩
     ·skip
      go_wp2
      go_ret
      exact ⟨rfl,HF6.out⟩
  ·skip
   have Rc0:=HIN
   have HF0:=HFW
   have hp0 : pgL c = []:=by unfold pgL;rw [if_neg he]
   have hP0 : PG = ⟨#[]⟩:=by rw [← hPG,hp0]
   have hce : ¬ (c.err : Int) = 0:=by omega
   have ht:=HT.out
   rw [htmlL_err he] at ht
   unfold wrV at ht
   dsimp only at ht
   have HTE:=Lib.hid ht
   clear hp0 hP0 ht
   have HPG:=Lib.hid hPG
   clear HIN HFW hPG hn0
   go_enter Tryz.func7,Tryz.ntmps7
   go_upto_region 1 with fail
   clear hW
   go_upto_region 2 with (go_at_call 18;refine HFIT.out.mono ?_;rintro e w1 ⟨rfl,hkk⟩)
   have hk_1:=hkk
   have Rc1:=Lib.hid (hk_1.heap_some Rc0.out (fun h => h))
   have HF1:=Lib.hid (HF0.out.tr hk_1)
   clear hk_1 Rc0 c0 c1 c2 c3 hkk HFIT HF0
   obtain ⟨c0,c1,c2,c3⟩:=box_cells Rc1.out
   go_upto_region 4 with fail
   go_upto_region 5 with (go_at_call 25;refine (HC.out _ HF1.out).mono ?_;rintro e w2 ⟨rfl,hkk⟩)
   refine name_world fun X2 hX2 => ?_
   have hkX : Fresh w1 X2:=by rw [hX2];exact hkk.alloc _
   have hk_2:=hkX
   have Rc2:=Lib.hid (hk_2.heap_some Rc1.out (fun h => h))
   have HF2:=Lib.hid (HF1.out.tr hk_2)
   have Rk2:=Lib.hid (show X2.heap[w2.heap.size]? = some (.cells #[.string ⟨c.text.toArray⟩,.int .i64 (c.err : Nat),.int .i64 (c.n : Nat),.int .i64 c.reads] 56 (0,0)) from by rw [hX2];exact heap_alloc_new w2 _)
   clear hk_2 Rc1 c0 c1 c2 c3 hkX hkk hX2 HC HF1
   obtain ⟨c0,c1,c2,c3⟩:=box_cells Rc2.out
   obtain ⟨k0,k1,k2,k3⟩:=box_cells Rk2.out
   go_upto_region 8 with fail
   by_cases hkn : k < 0
   ·skip
    go_upto_region 12 with (go_at_call 12;refine (HTE.out _ HF2.out).mono ?_;rintro e w4 ⟨rfl,hkk⟩)
    refine name_world fun X4 hX4 => ?_
    have hkX : Fresh X2 X4:=by rw [hX4];exact hkk.alloc _
    have hk_3:=hkX
    have Rc3:=Lib.hid (hk_3.heap_some Rc2.out (fun h => h))
    have Rk3:=Lib.hid (hk_3.heap_some Rk2.out (fun h => h))
    have HF3:=Lib.hid (HF2.out.tr hk_3)
    have Rt3:=Lib.hid (show X4.heap[w4.heap.size]? = some (.cells #[.int .i64 c.err,.int .i64 c.n,.int .i64 (0 : Nat),.string ⟨([] : List UInt8).toArray⟩,.int .i64 (0 : Nat),.int .i64 (0 : Nat),.bool false,.int .i64 c.reads] 27 (0,0)) from by rw [hX4];exact heap_alloc_new w4 _)
    clear hk_3 Rc2 Rk2 c0 c1 c2 c3 k0 k1 k2 k3 hkX hkk hX4 HTE HF2
    obtain ⟨c0,c1,c2,c3⟩:=box_cells Rc3.out
    obtain ⟨k0,k1,k2,k3⟩:=box_cells Rk3.out
    obtain ⟨t0,t1,t2,t3,t4,t5,t6,t7⟩:=wr_cells Rt3.out
    go_wp2
    go_ret
    exact ⟨rfl,HF3.out⟩
   ·skip
    go_upto_region 12 with (go_at_call 12;refine (HTE.out _ HF2.out).mono ?_;rintro e w4 ⟨rfl,hkk⟩)
    refine name_world fun X4 hX4 => ?_
    have hkX : Fresh X2 X4:=by rw [hX4];exact hkk.alloc _
    have hk_3:=hkX
    have Rc3:=Lib.hid (hk_3.heap_some Rc2.out (fun h => h))
    have Rk3:=Lib.hid (hk_3.heap_some Rk2.out (fun h => h))
    have HF3:=Lib.hid (HF2.out.tr hk_3)
    have Rt3:=Lib.hid (show X4.heap[w4.heap.size]? = some (.cells #[.int .i64 c.err,.int .i64 c.n,.int .i64 (0 : Nat),.string ⟨([] : List UInt8).toArray⟩,.int .i64 (0 : Nat),.int .i64 (0 : Nat),.bool false,.int .i64 c.reads] 27 (0,0)) from by rw [hX4];exact heap_alloc_new w4 _)
    clear hk_3 Rc2 Rk2 c0 c1 c2 c3 k0 k1 k2 k3 hkX hkk hX4 HTE HF2
    obtain ⟨c0,c1,c2,c3⟩:=box_cells Rc3.out
    obtain ⟨k0,k1,k2,k3⟩:=box_cells Rk3.out
    obtain ⟨t0,t1,t2,t3,t4,t5,t6,t7⟩:=wr_cells Rt3.out
    go_wp2
    go_ret
    exact ⟨rfl,HF3.out⟩
 ·rw [decide_eq_false hfits] at hfit
  have hf1:=hfit W hFW
  have HF:=Lib.hid hFW
  have H:=Lib.hid hf1
  clear hfit hf1 hV hG hv hin hFW hfits
  go_enter Tryz.func7,Tryz.ntmps7
  go_upto_region 1 with fail
  clear hW
  go_upto_region 2 with (go_at_call 18;refine H.out.mono ?_;rintro e w1 ⟨rfl,hkk1⟩)
  have HK:=Lib.hid (HF.out.tr hkk1)
  clear hkk1 c0 c1 c2 c3
  go_wp2
  go_ret
  exact ⟨rfl,HK.out⟩
end Go.Proofs.YtbioecifiogffaaGreatDoor
