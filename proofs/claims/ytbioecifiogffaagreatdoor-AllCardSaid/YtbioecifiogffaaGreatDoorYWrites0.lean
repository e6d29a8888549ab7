/- proselaw.Writes: the walk. Conditions: the listed variables read as the text lays them. -/
import Derived.Test.YtbioecifiogffaaGreatDoorR12
set_option linter.unusedVariables false
set_option linter.unusedSimpArgs false
set_option maxHeartbeats 8000000
set_option maxRecDepth 1000000
namespace Go.Proofs.YtbioecifiogffaaGreatDoor
open Go.RowKit
theorem Writes_any (aL aI aS : Addr) (w : World) (hV : LaidVars aL aI aS w) (hG : Gl w) (s : ByteArray) (v : Value) (cs : List Int) (fa : Int) (wt : Bool) (hv : IntsAt w v cs) (hm : s.size ≤ maxLen) (hlm : cs.length ≤ maxLen) (hw : ∀ x ∈ cs,-9223372036854775808 ≤ x ∧ x ≤ 9223372036854775807)
 (tv : Value) (ts : List Int) (fl la lie : Int) (ht : IntsAt w tv ts) (htm : ts.length ≤ maxLen) :
 Calls Tryz.prog 6 #[.agg #[.string s,v,.int .i64 fa,.bool wt],.agg #[tv,.int .i64 fl,.int .i64 la,.int .i64 lie]] w fun e w' => e = .returned (.bool true) ∧ Fresh w w':=by
 have hfit:=fun (W : World) (hF : Fresh w W) => fit_any s v cs fa wt W (hv.kept hF (fun _ _ h => h)) hm hlm
 obtain ⟨ao,cap,rfl⟩:=hv.form
 obtain ⟨ato,tcap,rfl⟩:=ht.form
 unfold maxLen at hm hlm htm
 obtain ⟨W,hW⟩ : ∃ W,(w.alloc (.cells #[.string s,.slice ao cs.length cap,.int .i64 fa,.bool wt] 30)).alloc (.cells #[.slice ato ts.length tcap,.int .i64 fl,.int .i64 la,.int .i64 lie] 33) = W:=⟨_,rfl⟩
 have hFW : Fresh w W:=by rw [← hW];exact ((Keeps.refl _ w).alloc _).alloc _
 have hin : W.heap[w.heap.size]? = some (.cells #[.string s,.slice ao cs.length cap,.int .i64 fa,.bool wt] 30 (0,0)):=by rw [← hW];exact (Lib.alloc_old _ _ _ (by simp)).trans (heap_alloc_new w _)
 have hou : W.heap[w.heap.size + 1]? = some (.cells #[.slice ato ts.length tcap,.int .i64 fl,.int .i64 la,.int .i64 lie] 33 (0,0)):=by rw [← hW,← show (w.alloc (.cells #[.string s,.slice ao cs.length cap,.int .i64 fa,.bool wt] 30)).heap.size = w.heap.size + 1 from by simp];exact heap_alloc_new _ _
 obtain ⟨c0,c1,c2,c3⟩:=box_cells hin
 obtain ⟨o0,o1,o2,o3⟩:=box_cells hou
 by_cases hfits : s.size ≤ 1048576 ∧ cs.length ≤ 1048576
 ·rw [decide_eq_true hfits] at hfit
  obtain ⟨hs,hl⟩:=hfits
  have hf1:=hfit W hFW
  by_cases htl : ts.length ≤ 1048576
  ·have hti : (ts.length : Int) ≤ 1048576:=by omega
   obtain ⟨c,hc⟩ : ∃ c,comeL s.data.toList cs fa wt = c:=⟨_,rfl⟩
   have hct : c.text.length ≤ 1200:=by rw [← hc];exact comeL_text _ _ _ _
   have hn0 : c.err = 0 → c.n = 0:=by rw [← hc];exact comeL_n0 _ _ _ _
   have hco:=fun (W : World) (hF : Fresh w W) => come_any s (.slice ao cs.length cap) cs fa wt W (hv.kept hF (fun _ _ h => h)) hs hl hw
   rw [hc] at hco
   have hht:=fun (m : Nat) (z : Int) (hz : (m = 0 ∧ z = 0) ∨ (m = 1 ∧ z = 1) ∨ (m = 2 ∧ z = 2)) (W : World) (hF : Fresh w W) => Html_any aL aI aS W (hV.fresh hF) (hG.fresh hF) s (.slice ao cs.length cap) cs fa wt (hv.kept hF (fun _ _ h => h)) hs hl hw (.slice ato ts.length tcap) ts (ht.kept hF (fun _ _ h => h)) htl fl la lie m z hz
   rw [hc] at hht
   have hht1:=hht 1 1 (.inr (.inl ⟨rfl,rfl⟩))
   have hht2:=hht 2 2 (.inr (.inr ⟨rfl,rfl⟩))
   have hht0:=hht 0 0 (.inl ⟨rfl,rfl⟩)
   rw [htmlL_none] at hht1
   obtain ⟨f1,f2,f3⟩:=htmlL_free c (snk0 ts fl la lie) hn0
   obtain ⟨F,hF2⟩ : ∃ F,htmlL 2 c (snk0 ts fl la lie) = F:=⟨_,rfl⟩
   rw [hF2] at hht2 f1 f2 f3
   obtain ⟨fe,fn,fc,fg,fo,fm,fnn,fr⟩:=F
   dsimp only at f1 f2 f3
   subst f1 f2 f3
   obtain ⟨PG,hPG⟩ : ∃ P,(⟨(pgL c).toArray⟩ : ByteArray) = P:=⟨_,rfl⟩
   have hpsz : PG.size = (pgL c).length:=by rw [← hPG];simp [ByteArray.size]
   rw [← hpsz] at hht2
   unfold wrV at hht1 hht2 hht0
   dsimp only at hht1 hht2
   have H1:=Lib.hid hht1
   have H2:=Lib.hid hht2
   have H0:=Lib.hid hht0
   have HC:=Lib.hid hco
   have HIN:=Lib.hid hin
   have HOU:=Lib.hid hou
   have HFW:=Lib.hid hFW
   have HFIT:=Lib.hid hf1
   clear hht hht1 hht2 hht0 hco hfit hf1 hV hG hv ht hw hc hF2 hin hou hFW
   by_cases he : c.err = 0
   ·skip
    have Rc0:=HIN
    have Ro0:=HOU
    have HF0:=HFW
    have hpe : pgL c = pageF c.text:=by unfold pgL;rw [if_pos he]
    have hpgc:=fun (W : World) => rPage_any ⟨c.text.toArray⟩ W (by simpa [ByteArray.size] using hct)
    rw [show (⟨c.text.toArray⟩ : ByteArray).data.toList = c.text from rfl,← hpe,hPG] at hpgc
    have HPGC:=Lib.hid hpgc
    have hce : (c.err : Int) = 0:=by omega
    rw [he,hn0 he] at HC H2
    clear hpe hpgc
    have HPSZ:=Lib.hid hpsz
    have HPG:=Lib.hid hPG
    clear HIN HOU HFW hPG hpsz hn0
    go_enter Tryz.func6,Tryz.ntmps6
    go_upto_region 1 with fail
    clear hW
    go_upto_region 2 with (go_at_call 18;refine HFIT.out.mono ?_;rintro e w1 ⟨rfl,hk1⟩)
    have hk_1:=hk1
    have Rc1:=Lib.hid (hk_1.heap_some Rc0.out (fun h => h))
    have Ro1:=Lib.hid (hk_1.heap_some Ro0.out (fun h => h))
    have HF1:=Lib.hid (HF0.out.tr hk_1)
    clear hk_1 Rc0 Ro0 c0 c1 c2 c3 o0 o1 o2 o3 hk1 HFIT HF0
    obtain ⟨c0,c1,c2,c3⟩:=box_cells Rc1.out
    obtain ⟨o0,o1,o2,o3⟩:=box_cells Ro1.out
    go_upto_region 4 with fail
    go_upto_region 5 with (go_at_call 25;refine (HC.out _ HF1.out).mono ?_;rintro e w2 ⟨rfl,hk2⟩)
    refine name_world fun X2 hX2 => ?_
    have hkX : Fresh w1 X2:=by rw [hX2];exact hk2.alloc _
    have hk_2:=hkX
    have Rc2:=Lib.hid (hk_2.heap_some Rc1.out (fun h => h))
    have Ro2:=Lib.hid (hk_2.heap_some Ro1.out (fun h => h))
    have HF2:=Lib.hid (HF1.out.tr hk_2)
    have Rk2:=Lib.hid (show X2.heap[w2.heap.size]? = some (.cells #[.string ⟨c.text.toArray⟩,.int .i64 (0 : Nat),.int .i64 (0 : Nat),.int .i64 c.reads] 56 (0,0)) from by rw [hX2];exact heap_alloc_new w2 _)
    clear hk_2 Rc1 Ro1 c0 c1 c2 c3 o0 o1 o2 o3 hkX hk2 hX2 HC HF1
    obtain ⟨c0,c1,c2,c3⟩:=box_cells Rc2.out
    obtain ⟨o0,o1,o2,o3⟩:=box_cells Ro2.out
    obtain ⟨k0,k1,k2,k3⟩:=box_cells Rk2.out
    go_upto_region 8 with (go_at_call 26;refine (HPGC.out _).mono ?_;rintro e w3 ⟨rfl,hk3⟩)
    have hk_3:=hk3
    have Rc3:=Lib.hid (hk_3.heap_some Rc2.out (fun h => h))
    have Ro3:=Lib.hid (hk_3.heap_some Ro2.out (fun h => h))
    have Rk3:=Lib.hid (hk_3.heap_some Rk2.out (fun h => h))
    have HF3:=Lib.hid (HF2.out.tr hk_3)
    clear hk_3 Rc2 Ro2 Rk2 c0 c1 c2 c3 o0 o1 o2 o3 k0 k1 k2 k3 hk3 HPGC HF2
    obtain ⟨c0,c1,c2,c3⟩:=box_cells Rc3.out
    obtain ⟨o0,o1,o2,o3⟩:=box_cells Ro3.out
    obtain ⟨k0,k1,k2,k3⟩:=box_cells Rk3.out
    go_upto_region 9 with (go_at_call 12;refine (H1.out _ HF3.out).mono ?_;rintro e w4 ⟨rfl,hk4⟩)
    refine name_world fun X4 hX4 => ?_
    have hkX : Fresh w3 X4:=by rw [hX4];exact hk4.alloc _
    have hk_4:=hkX
    have Rc4:=Lib.hid (hk_4.heap_some Rc3.out (fun h => h))
    have Ro4:=Lib.hid (hk_4.heap_some Ro3.out (fun h => h))
    have Rk4:=Lib.hid (hk_4.heap_some Rk3.out (fun h => h))
    have HF4:=Lib.hid (HF3.out.tr hk_4)
    have Rn4:=Lib.hid (show X4.heap[w4.heap.size]? = some (.cells #[.int .i64 (0 : Nat),.int .i64 (0 : Nat),.int .i64 (0 : Nat),.string ⟨([] : List UInt8).toArray⟩,.int .i64 (0 : Nat),.int .i64 (0 : Nat),.bool false,.int .i64 (0 : Nat)] 27 (0,0)) from by rw [hX4];exact heap_alloc_new w4 _)
    clear hk_4 Rc3 Ro3 Rk3 c0 c1 c2 c3 o0 o1 o2 o3 k0 k1 k2 k3 hkX hk4 hX4 H1 HF3
    obtain ⟨c0,c1,c2,c3⟩:=box_cells Rc4.out
    obtain ⟨o0,o1,o2,o3⟩:=box_cells Ro4.out
    obtain ⟨k0,k1,k2,k3⟩:=box_cells Rk4.out
    obtain ⟨n0,n1,n2,n3,n4,n5,n6,n7⟩:=wr_cells Rn4.out
    go_upto_region 10 with (go_at_call 12;refine (H2.out _ HF4.out).mono ?_;rintro e w5 ⟨rfl,hk5⟩)
    refine name_world fun X5 hX5 => ?_
    have hkX : Fresh X4 X5:=by rw [hX5];exact hk5.alloc _
    have hk_5:=hkX
    have Rc5:=Lib.hid (hk_5.heap_some Rc4.out (fun h => h))
    have Ro5:=Lib.hid (hk_5.heap_some Ro4.out (fun h => h))
    have Rk5:=Lib.hid (hk_5.heap_some Rk4.out (fun h => h))
    have Rn5:=Lib.hid (hk_5.heap_some Rn4.out (fun h => h))
    have HF5:=Lib.hid (HF4.out.tr hk_5)
    have Rf5:=Lib.hid (show X5.heap[w5.heap.size]? = some (.cells #[.int .i64 (0 : Nat),.int .i64 (0 : Nat),.int .i64 PG.size,.string ⟨fg.toArray⟩,.int .i64 fo,.int .i64 fm,.bool fnn,.int .i64 fr] 27 (0,0)) from by rw [hX5];exact heap_alloc_new w5 _)
    clear hk_5 Rc4 Ro4 Rk4 Rn4 c0 c1 c2 c3 o0 o1 o2 o3 k0 k1 k2 k3 n0 n1 n2 n3 n4 n5 n6 n7 hkX hk5 hX5 H2 HF4
    obtain ⟨c0,c1,c2,c3⟩:=box_cells Rc5.out
    obtain ⟨o0,o1,o2,o3⟩:=box_cells Ro5.out
    obtain ⟨k0,k1,k2,k3⟩:=box_cells Rk5.out
    obtain ⟨n0,n1,n2,n3,n4,n5,n6,n7⟩:=wr_cells Rn5.out
    obtain ⟨f0,f1,f2,f3,f4,f5,f6,f7⟩:=wr_cells Rf5.out
    go_upto_region 12 with fail
    obtain ⟨⟨g1,g2,g3,g4,g5⟩,g6,g7,g8⟩:=htmlL_writes he ts fl la lie
    obtain ⟨F,hF2⟩ : ∃ F,htmlL 0 c (snk0 ts fl la lie) = F:=⟨_,rfl⟩
    rw [hF2] at H0 g1 g2 g3 g4 g5 g6 g7 g8
    obtain ⟨te,tn,tc,tg,tof,tm,tnn,tr⟩:=F
    dsimp only at g1 g2 g3 g4 g5 g6 g7 g8 H0
    subst g6 g7
    obtain ⟨GG,hGG⟩ : ∃ P,(⟨tg.toArray⟩ : ByteArray) = P:=⟨_,rfl⟩
    rw [hGG] at H0
    go_upto_region 13 with (go_at_call 12;refine (H0.out _ HF5.out).mono ?_;rintro e w6 ⟨rfl,hk6⟩)
    refine name_world fun X6 hX6 => ?_
    have hkX : Fresh X5 X6:=by rw [hX6];exact hk6.alloc _
    have hk_6:=hkX
    have Rc6:=Lib.hid (hk_6.heap_some Rc5.out (fun h => h))
    have Ro6:=Lib.hid (hk_6.heap_some Ro5.out (fun h => h))
    have Rk6:=Lib.hid (hk_6.heap_some Rk5.out (fun h => h))
    have Rn6:=Lib.hid (hk_6.heap_some Rn5.out (fun h => h))
    have Rf6:=Lib.hid (hk_6.heap_some Rf5.out (fun h => h))
    have HF6:=Lib.hid (HF5.out.tr hk_6)
    have Rt6:=Lib.hid (show X6.heap[w6.heap.size]? = some (.cells #[.int .i64 te,.int .i64 tn,.int .i64 tc,.string GG,.int .i64 tof,.int .i64 tm,.bool false,.int .i64 c.reads] 27 (0,0)) from by rw [hX6];exact heap_alloc_new w6 _)
    clear hk_6 Rc5 Ro5 Rk5 Rn5 Rf5 c0 c1 c2 c3 o0 o1 o2 o3 k0 k1 k2 k3 n0 n1 n2 n3 n4 n5 n6 n7 f0 f1 f2 f3 f4 f5 f6 f7 hkX hk6 hX6 H0 HF5
    obtain ⟨c0,c1,c2,c3⟩:=box_cells Rc6.out
    obtain ⟨o0,o1,o2,o3⟩:=box_cells Ro6.out
    obtain ⟨k0,k1,k2,k3⟩:=box_cells Rk6.out
    obtain ⟨n0,n1,n2,n3,n4,n5,n6,n7⟩:=wr_cells Rn6.out
    obtain ⟨f0,f1,f2,f3,f4,f5,f6,f7⟩:=wr_cells Rf6.out
    obtain ⟨t0,t1,t2,t3,t4,t5,t6,t7⟩:=wr_cells Rt6.out
    have tm16 : ¬ (16 : Int) < (tm : Int):=by omega
    have HFX:=HF6
    have hps:=HPSZ.out
    have hpg:=HPG.out
    have hgs : GG.size = tg.length:=by rw [← hGG];simp [ByteArray.size]
    have hpd : PG.data.toList = pgL c:=by rw [← hpg]
    have hgd : GG.data.toList = tg:=by rw [← hGG]
    have hpre : tg.length ≤ (pgL c).length ∧ (pgL c).take tg.length = tg → GG.size ≤ PG.size ∧ PG.extract 0 GG.size = GG:=fun h => ⟨by omega,ext_pre (by rw [hpd,hgs,hgd];exact h.2)⟩
    by_cases hla : 0 < la ∧ la ≤ (tof : Int)
    ·by_cases hli : lie < 1 ∨ 16 < lie
     ·obtain ⟨h1,h2,h3,h4,h5⟩:=g2 hla hli
      obtain ⟨e1,e2⟩:=hpre h1
      have e3 : tn ≤ GG.size:=by omega
      obtain ⟨i1,i2⟩:=hla
      subst h2 h4
      have i3 : ¬ (PG.size : Int) < (GG.size : Int):=by omega
      have i4 : (GG.size : Int) ≤ (PG.size : Int):=by omega
      have i5 : (tc : Int) ≤ (GG.size : Int):=by omega
      clear g1 g2 g3 g4 g5 hF2 hGG hps hpg hgs hpd hgd hpre h1 h5 HPSZ HPG e1 e3
      rcases hli with h6 | h6
      ·subst h3
       go_upto_region 21 with fail
       go_quiet (fail)
       go_wp2
       go_ret
       first | exact ⟨rfl,HFX.out⟩ | exact ⟨rfl,HFX.out.drewN _⟩ | exact ⟨rfl,HFX.out.drew⟩
      ·have h7 : ¬ lie < 1:=by omega
       subst h3
       go_upto_region 21 with fail
       go_quiet (fail)
       go_wp2
       go_ret
       first | exact ⟨rfl,HFX.out⟩ | exact ⟨rfl,HFX.out.drewN _⟩ | exact ⟨rfl,HFX.out.drew⟩
     ·have h6 : ¬ lie < 1:=fun h => hli (.inl h)
      have h7 : ¬ 16 < lie:=fun h => hli (.inr h)
      have h8:=g1 hla hli
      rw [← hps] at h8
      have i3 : (tc : Int) ≤ (PG.size : Int) + 16:=by omega
      obtain ⟨i1,i2⟩:=hla
      have i4 : (PG.size : Int) ≤ 9223372036854775000:=by (have:=pageF_len c.text hct;rw [hps];unfold pgL;rw [if_pos he];omega)
      clear g1 g2 g3 g4 g5 hF2 hGG hps hpg hgs hpd hgd hpre HPSZ HPG hli h8
      go_wp2
      go_ret
      exact ⟨rfl,HFX.out⟩
    ·obtain ⟨e1,e2⟩:=hpre (g3 hla)
     have i3 : ¬ (PG.size : Int) < (GG.size : Int):=by omega
     have i4 : (GG.size : Int) ≤ (PG.size : Int):=by omega
     by_cases hfl : 0 < fl ∧ fl ≤ (tof : Int)
     ·obtain ⟨h2,h3,h4,h5⟩:=g4 hla hfl
      obtain ⟨i5,i6⟩:=hfl
      have i7 : (tn : Int) ≤ (GG.size : Int):=by omega
      subst h2 h4
      clear g1 g2 g3 g4 g5 hF2 hGG hps hpg hgs hpd hgd hpre HPSZ HPG h5 e1
      subst h3
      by_cases h6 : lie < 1
      ·by_cases h8 : 0 < la
       ·have h9 : ¬ la ≤ (tof : Int):=fun h => hla ⟨h8,h⟩
        clear hla
        go_upto_region 21 with fail
        go_quiet (fail)
        go_wp2
        go_ret
        first | exact ⟨rfl,HFX.out⟩ | exact ⟨rfl,HFX.out.drewN _⟩ | exact ⟨rfl,HFX.out.drew⟩
       ·clear hla
        go_upto_region 21 with fail
        go_quiet (fail)
        go_wp2
        go_ret
        first | exact ⟨rfl,HFX.out⟩ | exact ⟨rfl,HFX.out.drewN _⟩ | exact ⟨rfl,HFX.out.drew⟩
      ·by_cases h8 : 0 < la
       ·have h9 : ¬ la ≤ (tof : Int):=fun h => hla ⟨h8,h⟩
        clear hla
        go_upto_region 21 with fail
        go_quiet (fail)
        go_wp2
        go_ret
        first | exact ⟨rfl,HFX.out⟩ | exact ⟨rfl,HFX.out.drewN _⟩ | exact ⟨rfl,HFX.out.drew⟩
       ·clear hla
        go_upto_region 21 with fail
        go_quiet (fail)
        go_wp2
        go_ret
        first | exact ⟨rfl,HFX.out⟩ | exact ⟨rfl,HFX.out.drewN _⟩ | exact ⟨rfl,HFX.out.drew⟩
     ·obtain ⟨h2,h3,h4,h5,h7⟩:=g5 hla hfl
      obtain rfl : GG = PG:=by rw [← hGG,← hpg,h5]
      have h4' : tc = GG.size:=by omega
      subst h2 h3 h4'
      have hem : GG.toList.isEmpty = ((tof : Int) == 0):=by
       rw [str_empty,hgd,h5,Bool.eq_iff_iff,decide_eq_true_iff,beq_iff_eq]
       exact ⟨fun h => by have:=h7.2 h;omega,fun h => h7.1 (by omega)⟩
      clear g1 g2 g3 g4 g5 hF2 hGG hps hpg hgs hpd hgd hpre HPSZ HPG h4 h5 h7 e1
      have hfl2 : ¬ 0 < fl ∨ (0 < fl ∧ ¬ fl ≤ (tof : Int)):=by omega
      have hla2 : ¬ 0 < la ∨ (0 < la ∧ ¬ la ≤ (tof : Int)):=by omega
      clear hfl hla
      rcases hfl2 with q1 | ⟨q1,q2⟩ <;> rcases hla2 with p1 | ⟨p1,p2⟩ <;> by_cases h6 : lie < 1
      all_goals (
        go_upto_region 21 with fail
        go_quiet (fail)
        go_wp2
        go_ret
        first | exact ⟨rfl,HFX.out⟩ | exact ⟨rfl,HFX.out.drewN _⟩ | exact ⟨rfl,HFX.out.drew⟩)
   ·skip
    have Rc0:=HIN
    have Ro0:=HOU
    have HF0:=HFW
    have hp0 : pgL c = []:=by unfold pgL;rw [if_neg he]
    have hP0 : PG = ⟨#[]⟩:=by rw [← hPG,hp0]
    subst hP0
    have hce : ¬ (c.err : Int) = 0:=by omega
    clear hp0
    have HPSZ:=Lib.hid hpsz
    clear HIN HOU HFW hPG hpsz hn0
    go_enter Tryz.func6,Tryz.ntmps6
    go_upto_region 1 with fail
    clear hW
    go_upto_region 2 with (go_at_call 18;refine HFIT.out.mono ?_;rintro e w1 ⟨rfl,hk1⟩)
    have hk_1:=hk1
    have Rc1:=Lib.hid (hk_1.heap_some Rc0.out (fun h => h))
    have Ro1:=Lib.hid (hk_1.heap_some Ro0.out (fun h => h))
    have HF1:=Lib.hid (HF0.out.tr hk_1)
    clear hk_1 Rc0 Ro0 c0 c1 c2 c3 o0 o1 o2 o3 hk1 HFIT HF0
    obtain ⟨c0,c1,c2,c3⟩:=box_cells Rc1.out
    obtain ⟨o0,o1,o2,o3⟩:=box_cells Ro1.out
    go_upto_region 4 with fail
    go_upto_region 5 with (go_at_call 25;refine (HC.out _ HF1.out).mono ?_;rintro e w2 ⟨rfl,hk2⟩)
    refine name_world fun X2 hX2 => ?_
    have hkX : Fresh w1 X2:=by rw [hX2];exact hk2.alloc _
    have hk_2:=hkX
    have Rc2:=Lib.hid (hk_2.heap_some Rc1.out (fun h => h))
    have Ro2:=Lib.hid (hk_2.heap_some Ro1.out (fun h => h))
    have HF2:=Lib.hid (HF1.out.tr hk_2)
    have Rk2:=Lib.hid (show X2.heap[w2.heap.size]? = some (.cells #[.string ⟨c.text.toArray⟩,.int .i64 (c.err : Nat),.int .i64 (c.n : Nat),.int .i64 c.reads] 56 (0,0)) from by rw [hX2];exact heap_alloc_new w2 _)
    clear hk_2 Rc1 Ro1 c0 c1 c2 c3 o0 o1 o2 o3 hkX hk2 hX2 HC HF1
    obtain ⟨c0,c1,c2,c3⟩:=box_cells Rc2.out
    obtain ⟨o0,o1,o2,o3⟩:=box_cells Ro2.out
    obtain ⟨k0,k1,k2,k3⟩:=box_cells Rk2.out
    go_upto_region 8 with fail
    go_upto_region 9 with (go_at_call 12;refine (H1.out _ HF2.out).mono ?_;rintro e w4 ⟨rfl,hk4⟩)
    refine name_world fun X4 hX4 => ?_
    have hkX : Fresh X2 X4:=by rw [hX4];exact hk4.alloc _
    have hk_3:=hkX
    have Rc3:=Lib.hid (hk_3.heap_some Rc2.out (fun h => h))
    have Ro3:=Lib.hid (hk_3.heap_some Ro2.out (fun h => h))
    have Rk3:=Lib.hid (hk_3.heap_some Rk2.out (fun h => h))
    have HF3:=Lib.hid (HF2.out.tr hk_3)
    have Rn3:=Lib.hid (show X4.heap[w4.heap.size]? = some (.cells #[.int .i64 (0 : Nat),.int .i64 (0 : Nat),.int .i64 (0 : Nat),.string ⟨([] : List UInt8).toArray⟩,.int .i64 (0 : Nat),.int .i64 (0 : Nat),.bool false,.int .i64 (0 : Nat)] 27 (0,0)) from by rw [hX4];exact heap_alloc_new w4 _)
    clear hk_3 Rc2 Ro2 Rk2 c0 c1 c2 c3 o0 o1 o2 o3 k0 k1 k2 k3 hkX hk4 hX4 H1 HF2
    obtain ⟨c0,c1,c2,c3⟩:=box_cells Rc3.out
    obtain ⟨o0,o1,o2,o3⟩:=box_cells Ro3.out
    obtain ⟨k0,k1,k2,k3⟩:=box_cells Rk3.out
    obtain ⟨n0,n1,n2,n3,n4,n5,n6,n7⟩:=wr_cells Rn3.out
    go_upto_region 10 with (go_at_call 12;refine (H2.out _ HF3.out).mono ?_;rintro e w5 ⟨rfl,hk5⟩)
    refine name_world fun X5 hX5 => ?_
    have hkX : Fresh X4 X5:=by rw [hX5];exact hk5.alloc _
    have hk_4:=hkX
    have Rc4:=Lib.hid (hk_4.heap_some Rc3.out (fun h => h))
    have Ro4:=Lib.hid (hk_4.heap_some Ro3.out (fun h => h))
    have Rk4:=Lib.hid (hk_4.heap_some Rk3.out (fun h => h))
    have Rn4:=Lib.hid (hk_4.heap_some Rn3.out (fun h => h))
    have HF4:=Lib.hid (HF3.out.tr hk_4)
    have Rf4:=Lib.hid (show X5.heap[w5.heap.size]? = some (.cells #[.int .i64 (c.err : Nat),.int .i64 (c.n : Nat),.int .i64 (⟨#[]⟩ : ByteArray).size,.string ⟨fg.toArray⟩,.int .i64 fo,.int .i64 fm,.bool fnn,.int .i64 fr] 27 (0,0)) from by rw [hX5];exact heap_alloc_new w5 _)
    clear hk_4 Rc3 Ro3 Rk3 Rn3 c0 c1 c2 c3 o0 o1 o2 o3 k0 k1 k2 k3 n0 n1 n2 n3 n4 n5 n6 n7 hkX hk5 hX5 H2 HF3
    obtain ⟨c0,c1,c2,c3⟩:=box_cells Rc4.out
    obtain ⟨o0,o1,o2,o3⟩:=box_cells Ro4.out
    obtain ⟨k0,k1,k2,k3⟩:=box_cells Rk4.out
    obtain ⟨n0,n1,n2,n3,n4,n5,n6,n7⟩:=wr_cells Rn4.out
    obtain ⟨f0,f1,f2,f3,f4,f5,f6,f7⟩:=wr_cells Rf4.out
    go_upto_region 12 with fail
    rw [htmlL_err he] at H0
    dsimp only at H0
    go_upto_region 13 with (go_at_call 12;refine (H0.out _ HF4.out).mono ?_;rintro e w6 ⟨rfl,hk6⟩)
    refine name_world fun X6 hX6 => ?_
    have hkX : Fresh X5 X6:=by rw [hX6];exact hk6.alloc _
    have hk_5:=hkX
    have Rc5:=Lib.hid (hk_5.heap_some Rc4.out (fun h => h))
    have Ro5:=Lib.hid (hk_5.heap_some Ro4.out (fun h => h))
    have Rk5:=Lib.hid (hk_5.heap_some Rk4.out (fun h => h))
    have Rn5:=Lib.hid (hk_5.heap_some Rn4.out (fun h => h))
    have Rf5:=Lib.hid (hk_5.heap_some Rf4.out (fun h => h))
    have HF5:=Lib.hid (HF4.out.tr hk_5)
    have Rt5:=Lib.hid (show X6.heap[w6.heap.size]? = some (.cells #[.int .i64 c.err,.int .i64 c.n,.int .i64 (0 : Nat),.string ⟨([] : List UInt8).toArray⟩,.int .i64 (0 : Nat),.int .i64 (0 : Nat),.bool false,.int .i64 c.reads] 27 (0,0)) from by rw [hX6];exact heap_alloc_new w6 _)
    clear hk_5 Rc4 Ro4 Rk4 Rn4 Rf4 c0 c1 c2 c3 o0 o1 o2 o3 k0 k1 k2 k3 n0 n1 n2 n3 n4 n5 n6 n7 f0 f1 f2 f3 f4 f5 f6 f7 hkX hk6 hX6 H0 HF4
    obtain ⟨c0,c1,c2,c3⟩:=box_cells Rc5.out
    obtain ⟨o0,o1,o2,o3⟩:=box_cells Ro5.out
    obtain ⟨k0,k1,k2,k3⟩:=box_cells Rk5.out
    obtain ⟨n0,n1,n2,n3,n4,n5,n6,n7⟩:=wr_cells Rn5.out
    obtain ⟨f0,f1,f2,f3,f4,f5,f6,f7⟩:=wr_cells Rf5.out
    obtain ⟨t0,t1,t2,t3,t4,t5,t6,t7⟩:=wr_cells Rt5.out
    go_wp2
    go_ret
    exact ⟨rfl,HF5.out⟩
  ·have hti : ¬ (ts.length : Int) ≤ 1048576:=by omega
   have hti2 : (1048576 : Int) < (ts.length : Int):=by omega
   have HF:=Lib.hid hFW
   have o0' : ∀ w1,Fresh W w1 → w1.cell? ⟨w.heap.size + 1,0,none⟩ = some (.slice ato ts.length tcap):=fun w1 hk => hk.cell_some o0 (fun h => h)
   have H:=Lib.hid hf1
   have HO:=Lib.hid o0'
   clear hfit hf1 hV hG hv ht hin hou hFW o0'
   go_enter Tryz.func6,Tryz.ntmps6
   go_upto_region 1 with fail
   clear hW
   go_upto_region 2 with (refine H.out.mono ?_;rintro e w1 ⟨rfl,hk1⟩)
   have o0:=HO.out _ hk1
   have HK:=Lib.hid (HF.out.tr hk1)
   clear hk1 c0 c1 c2 c3 o1 o2 o3
   go_wp2
   go_ret
   exact ⟨rfl,HK.out⟩
 ·rw [decide_eq_false hfits] at hfit
  have hf1:=hfit W hFW
  have HF:=Lib.hid hFW
  have H:=Lib.hid hf1
  clear hfit hf1 hV hG hv ht hin hou hFW hfits
  go_enter Tryz.func6,Tryz.ntmps6
  go_upto_region 1 with fail
  clear hW
  go_upto_region 2 with (refine H.out.mono ?_;rintro e w1 ⟨rfl,hk1⟩)
  have HK:=Lib.hid (HF.out.tr hk1)
  clear hk1 c0 c1 c2 c3 o0 o1 o2 o3
  go_wp2
  go_ret
  exact ⟨rfl,HK.out⟩
end Go.Proofs.YtbioecifiogffaaGreatDoor
