/- proselaw.Pulls: the walk. Conditions: the listed variables read as the text lays them. -/
import Derived.Test.YtbioecifiogffaaGreatDoorYStep2
import Derived.Deep.CutBlock
import Derived.Deep.DeepCutAuto
set_option linter.unusedVariables false
set_option linter.unusedSimpArgs false
set_option maxHeartbeats 8000000
set_option maxRecDepth 1000000
namespace Go.Proofs.YtbioecifiogffaaGreatDoor
open Go.RowKit
def OpsAt (w : World) (v : Value) (l : List (Int × Int × Bool)) : Prop :=
 ∃ ao cap,v = .slice ao l.length cap ∧ l.length ≤ cap ∧ (l ≠ [] → ∃ b off,ao = some ⟨b,off,none⟩ ∧ b < w.heap.size ∧ ∀ j x,l[j]? = some x → w.cell? ⟨b,off + j * 3,none⟩ = some (.int .i64 x.1) ∧ w.cell? ⟨b,off + j * 3 + 1,none⟩ = some (.int .i64 x.2.1) ∧ w.cell? ⟨b,off + j * 3 + 2,none⟩ = some (.bool x.2.2))
theorem OpsAt.kept {D : Nat → Prop} {w w' : World} {v : Value} {l : List (Int × Int × Bool)} (h : OpsAt w v l) (hk : Keeps D w w') (hD : ∀ j,D j → w.heap.size ≤ j) : OpsAt w' v l:=by
 obtain ⟨ao,cap,h1,h2,h3⟩:=h
 refine ⟨ao,cap,h1,h2,fun hne => ?_⟩
 obtain ⟨b,off,h4,h5,h6⟩:=h3 hne
 have hb : ¬ D b:=fun h => by have:=hD b h;omega
 refine ⟨b,off,h4,Nat.lt_of_lt_of_le h5 hk.size,fun j x hj => ?_⟩
 obtain ⟨h7,h8,h9⟩:=h6 j x hj
 exact ⟨hk.cell_some h7 hb,hk.cell_some h8 hb,hk.cell_some h9 hb⟩
theorem sideStep_any (aL aI aS : Addr) (w0 w : World) (hV : LaidVars aL aI aS w0) (hG : Gl w0) (B g : Nat) (c : ComeL) (R : List Ev) (o : Nat → Prop) (h : Side aL aI aS w0 w B g c R o) (k n : Int) (two : Bool) :
 Calls Tryz.prog 24 #[.pointer (some ⟨B,0,none⟩),.agg #[.int .i64 k,.int .i64 n,.bool two]] w fun e w' => e = .returned (.bool true) ∧ StepS aL aI aS w0 w w' B g c o:=by
 by_cases k1 : k = 1
 ·subst k1;exact step_next aL aI aS w0 w hV hG B g c R o h n two
 by_cases k2 : k = 2
 ·subst k2;exact step_all aL aI aS w0 w hV hG B g c R o h n two
 by_cases k3 : k = 3
 ·subst k3;exact step_err aL aI aS w0 w hV hG B g c R o h n two
 exact step_rest aL aI aS w0 w hV hG B g c R o h k n k1 k2 k3 two
structure TwoS (aL aI aS : Addr) (w0 w : World) (A a : Nat) (c : ComeL) (B b : Nat) (d : ComeL) : Prop where
 is : ∃ R o S q,Side aL aI aS w0 w A a c R o ∧ Side aL aI aS w0 w B b d S q ∧ (∀ j,o j → ¬ q j) ∧ ¬ o B ∧ ¬ q A ∧ A ≠ B ∧ (¬ o b ∧ b ≠ A ∧ b < w.heap.size) ∧ (¬ q a ∧ a ≠ B ∧ a < w.heap.size) ∧ Fresh w0 w
theorem TwoS.swap {aL aI aS : Addr} {w0 w : World} {A a B b : Nat} {c d : ComeL} (h : TwoS aL aI aS w0 w A a c B b d) : TwoS aL aI aS w0 w B b d A a c:=by
 obtain ⟨R,o,S,q,h1,h2,h3,h4,h5,h6,h7,h8,h9⟩:=h.is
 exact ⟨S,q,R,o,h2,h1,fun j hq ho => h3 j ho hq,h5,h4,h6.symm,h8,h7,h9⟩
theorem TwoS.fresh {aL aI aS : Addr} {w0 w w' : World} {A a B b : Nat} {c d : ComeL} (h : TwoS aL aI aS w0 w A a c B b d) (hk : Fresh w w') : TwoS aL aI aS w0 w' A a c B b d:=by
 obtain ⟨R,o,S,q,h1,h2,h3,h4,h5,h6,h7,h8,h9⟩:=h.is
 exact ⟨R,o,S,q,h1.fresh hk,h2.fresh hk,h3,h4,h5,h6,⟨h7.1,h7.2.1,Nat.lt_of_lt_of_le h7.2.2 hk.size⟩,⟨h8.1,h8.2.1,Nat.lt_of_lt_of_le h8.2.2 hk.size⟩,h9.tr hk⟩
theorem two_step (aL aI aS : Addr) (w0 w : World) (hV : LaidVars aL aI aS w0) (hG : Gl w0) (A a : Nat) (c : ComeL) (B b : Nat) (d : ComeL) (h : TwoS aL aI aS w0 w A a c B b d) (k n : Int) (two : Bool) :
 Calls Tryz.prog 24 #[.pointer (some ⟨A,0,none⟩),.agg #[.int .i64 k,.int .i64 n,.bool two]] w fun e w' => e = .returned (.bool true) ∧ TwoS aL aI aS w0 w' A a c B b d:=by
 obtain ⟨R,o,S,q,h1,h2,h3,h4,h5,h6,h7,h8,h9⟩:=h.is
 refine (sideStep_any aL aI aS w0 w hV hG A a c R o h1 k n two).mono ?_
 rintro e w' ⟨rfl,R',o',hs,hk,ho⟩
 obtain ⟨l1,l2,l3⟩:=h2.lt
 have hlo : ∀ j,(o j ∨ j = A) → w0.heap.size ≤ j:=fun j hj => by
  rcases hj with h | h
  ·obtain ⟨Q,p,lv,-,hp,-⟩:=h1.is
   exact (hp.own j h).1
  ·rw [h];exact h1.lo
 refine ⟨rfl,⟨R',o',S,q,hs,h2.keep hk (fun j hj => ?_) hlo,fun j hj hq => ?_,fun hB => ?_,h5,h6,⟨fun hb => ?_,h7.2.1,Nat.lt_of_lt_of_le h7.2.2 hk.size⟩,⟨h8.1,h8.2.1,Nat.lt_of_lt_of_le h8.2.2 hk.size⟩,h9.trans hk (fun j h1 h2 => by have:=hlo j h2;omega)⟩⟩
 ·rcases hj with h | h
  ·exact ⟨h3 j h,fun e => h4 (e ▸ h),fun _ e => h7.1 (e ▸ h)⟩
  ·subst h
   exact ⟨h5,h6,fun _ e => h7.2.1 e.symm⟩
 ·rcases ho j hj with h | h
  ·exact h3 j h hq
  ·have:=l2 j hq;omega
 ·rcases ho B hB with h | h
  ·exact h4 h
  ·omega
 ·rcases ho b hb with h | h
  ·exact h7.1 h
  ·omega
theorem evsF_nil : evsF [] = []:=by
 unfold evsF
 rw [show lns [] = [] from rfl]
 unfold blkF
 rfl
theorem TwoS.start {aL aI aS : Addr} {w0 w1 w2 w3 : World} {A a B b : Nat} {c d : ComeL} {R S : List Ev} {o q : Nat → Prop} (h0 : Fresh w0 w1) (h1 : Side aL aI aS w0 w2 A a c R o) (_h2 : ∀ j,o j → w1.heap.size ≤ j) (_h3 : w1.heap.size ≤ A) (h4 : w1.heap.size ≤ a ∧ a < w2.heap.size) (h5 : Fresh w1 w2)
 (g1 : Side aL aI aS w0 w3 B b d S q) (g2 : ∀ j,q j → w2.heap.size ≤ j) (g3 : w2.heap.size ≤ B) (g4 : w2.heap.size ≤ b ∧ b < w3.heap.size) (g5 : Fresh w2 w3) : TwoS aL aI aS w0 w3 A a c B b d:=by
 obtain ⟨l1,l2,-⟩:=h1.lt
 have hs:=g5.size
 exact ⟨R,o,S,q,h1.fresh g5,g1,fun j hj hq => by have:=l2 j hj;have:=g2 j hq;omega,fun h => by have:=l2 _ h;omega,fun h => by have:=g2 _ h;omega,by omega,⟨fun h => by have:=l2 _ h;omega,by omega,g4.2⟩,⟨fun h => by have:=g2 _ h;omega,by omega,by omega⟩,(h0.tr h5).tr g5⟩
theorem Pulls_any (aL aI aS : Addr) (w : World) (hV : LaidVars aL aI aS w) (hG : Gl w) (s : ByteArray) (v : Value) (cs : List Int) (fa : Int) (wt : Bool) (hv : IntsAt w v cs) (hm : s.size ≤ maxLen) (hlm : cs.length ≤ maxLen) (hw : ∀ x ∈ cs,-9223372036854775808 ≤ x ∧ x ≤ 9223372036854775807)
 (s' : ByteArray) (v' : Value) (cs' : List Int) (fa' : Int) (wt' : Bool) (hv' : IntsAt w v' cs') (hm' : s'.size ≤ maxLen) (hlm' : cs'.length ≤ maxLen) (hw' : ∀ x ∈ cs',-9223372036854775808 ≤ x ∧ x ≤ 9223372036854775807)
 (sv : Value) (sc : List (Int × Int × Bool)) (hsv : OpsAt w sv sc) (hscm : sc.length ≤ maxLen) :
 Calls Tryz.prog 5 #[.agg #[.string s,v,.int .i64 fa,.bool wt],.agg #[.string s',v',.int .i64 fa',.bool wt'],sv] w fun e w' => e = .returned (.bool true) ∧ Fresh w w':=by
 have hfa:=fun (W : World) (hF : Fresh w W) => fit_any s v cs fa wt W (hv.kept hF (fun _ _ h => h)) hm hlm
 have hfb:=fun (W : World) (hF : Fresh w W) => fit_any s' v' cs' fa' wt' W (hv'.kept hF (fun _ _ h => h)) hm' hlm'
 obtain ⟨ao,cap,rfl⟩:=hv.form
 obtain ⟨ao',cap',rfl⟩:=hv'.form
 obtain ⟨so,scap,rfl,hsl,-⟩:=id hsv
 unfold maxLen at hm hlm hm' hlm' hscm
 obtain ⟨W,hW⟩ : ∃ W,(w.alloc (.cells #[.string s,.slice ao cs.length cap,.int .i64 fa,.bool wt] 30)).alloc (.cells #[.string s',.slice ao' cs'.length cap',.int .i64 fa',.bool wt'] 30) = W:=⟨_,rfl⟩
 have hFW : Fresh w W:=by rw [← hW];exact ((Keeps.refl _ w).alloc _).alloc _
 have hin : W.heap[w.heap.size]? = some (.cells #[.string s,.slice ao cs.length cap,.int .i64 fa,.bool wt] 30 (0,0)):=by rw [← hW];exact (Lib.alloc_old _ _ _ (by simp)).trans (heap_alloc_new w _)
 have hin' : W.heap[w.heap.size + 1]? = some (.cells #[.string s',.slice ao' cs'.length cap',.int .i64 fa',.bool wt'] 30 (0,0)):=by rw [← hW,← show (w.alloc (.cells #[.string s,.slice ao cs.length cap,.int .i64 fa,.bool wt] 30)).heap.size = w.heap.size + 1 from by simp];exact heap_alloc_new _ _
 obtain ⟨c0,c1,c2,c3⟩:=box4 hin
 obtain ⟨d0,d1,d2,d3⟩:=box4 hin'
 by_cases hA : s.size ≤ 1048576 ∧ cs.length ≤ 1048576
 ·rw [decide_eq_true hA] at hfa
  by_cases hB : s'.size ≤ 1048576 ∧ cs'.length ≤ 1048576
  ·rw [decide_eq_true hB] at hfb
   by_cases hsc : sc.length ≤ 1048576
   ·have hi : (sc.length : Int) ≤ 1048576:=by omega
    obtain ⟨hs,hl⟩:=hA
    obtain ⟨hs',hl'⟩:=hB
    have hnew:=fun (X : World) (hX : Fresh w X) => plNew_any aL aI aS w X hX s (.slice ao cs.length cap) cs fa wt true (hv.kept hX (fun _ _ h => h)) hs hl hw
    rw [show comeN true s.data.toList cs fa wt = ⟨[],0,0,0⟩ from rfl,show comeE ⟨[],0,0,0⟩ = [] from evsF_nil] at hnew
    obtain ⟨ca,hca⟩ : ∃ c,comeL s.data.toList cs fa wt = c:=⟨_,rfl⟩
    obtain ⟨cb,hcb⟩ : ∃ c,comeL s'.data.toList cs' fa' wt' = c:=⟨_,rfl⟩
    have hsa:=fun (X : World) (hX : Fresh w X) => side_any aL aI aS w X hX s (.slice ao cs.length cap) cs fa wt (hv.kept hX (fun _ _ h => h)) hs hl hw ca hca
    have hsb:=fun (X : World) (hX : Fresh w X) => side_any aL aI aS w X hX s' (.slice ao' cs'.length cap') cs' fa' wt' (hv'.kept hX (fun _ _ h => h)) hs' hl' hw' cb hcb
    have hops:=fun (X : World) (hX : Fresh w X) => hsv.kept hX (fun _ h => h.elim)
    have HFA:=Lib.hid (hfa W hFW)
    have HFB:=Lib.hid hfb
    have HNEW:=Lib.hid hnew
    have HSA:=Lib.hid hsa
    have HSB:=Lib.hid hsb
    have HOPS:=Lib.hid hops
    have HV:=Lib.hid hV
    have HG:=Lib.hid hG
    have HIN:=Lib.hid hin
    have HIN':=Lib.hid hin'
    have HFW:=Lib.hid hFW
    clear hfa hfb hV hG hv hv' hsv hin hin' hFW hw hw' hnew hsa hsb hops hca hcb
    go_enter Tryz.func5,Tryz.ntmps5
    go_upto_region 1 with fail
    clear hW
    go_upto_region 2 with (go_at_call 18;refine HFA.out.mono ?_;rintro e w1 ⟨rfl,hk1⟩)
    have RA:=Lib.hid (hk1.heap_some HIN.out (fun h => h))
    have RB:=Lib.hid (hk1.heap_some HIN'.out (fun h => h))
    have HF:=Lib.hid (HFW.out.tr hk1)
    have HFB1:=Lib.hid (HFB.out _ HF.out)
    clear hk1 c0 c1 c2 c3 d0 d1 d2 d3 HFA HFB HFW HIN HIN'
    obtain ⟨d0,d1,d2,d3⟩:=box4 RB.out
    go_upto_region 3 with (go_at_call 18;refine HFB1.out.mono ?_;rintro e w2 ⟨rfl,hk2⟩)
    have RA2:=Lib.hid (hk2.heap_some RA.out (fun h => h))
    have RB2:=Lib.hid (hk2.heap_some RB.out (fun h => h))
    have HF2:=Lib.hid (HF.out.tr hk2)
    clear hk2 d0 d1 d2 d3 HFB1 HF RA RB
    obtain ⟨c0,c1,c2,c3⟩:=box4 RA2.out
    go_upto_region 6 with (go_at_call 19;refine (HNEW.out _ HF2.out).mono ?_;rintro e w3 ⟨Q,o,rfl,hP,ho,hk3⟩)
    have hnx:=pl_next hP HV.out HG.out
    rw [show evV (List.headD ([] : List Ev) ev0) = .agg #[.int .i64 0,.bool false,.int .i64 0,.string ⟨#[]⟩] from rfl,show (!(List.isEmpty ([] : List Ev))) = false from rfl] at hnx
    have HNX:=Lib.hid hnx
    have RA3:=Lib.hid (hk3.heap_some RA2.out (fun h => h))
    have RB3:=Lib.hid (hk3.heap_some RB2.out (fun h => h))
    have HO:=Lib.hid ho
    have HF3:=Lib.hid (HF2.out.tr hk3)
    have hA2 : w.heap.size + 1 < w2.heap.size:=(Array.getElem?_eq_some_iff.1 RB2.out).1
    clear hnx hP ho hk3 c0 c1 c2 c3 RA2 RB2 HF2 HNEW
    go_upto_region 9 with (go_at_call 20;refine HNX.out.mono ?_;rintro e w4 ⟨rfl,o4,hP4,hM4⟩)
    refine name_world fun X hX => ?_
    have hkX : Fresh w4 X:=by rw [hX];exact (Keeps.refl _ _).alloc _
    have hE : X.heap[w4.heap.size]? = some (.cells #[.int .i64 0,.bool false,.int .i64 0,.string ⟨#[]⟩] 38 (0,0)):=by rw [hX];exact heap_alloc_new w4 _
    have her:=pl_err (hP4.fresh hkX) HV.out HG.out
    have hno : ∀ j,j ≤ w.heap.size + 1 → ¬ o j:=fun j h1 h2 => by have:=HO.out _ h2;omega
    have hA4:=hkX.heap_some (hM4.heap RA3.out (hno _ (by omega))) (fun h => h)
    have hB4:=hkX.heap_some (hM4.heap RB3.out (hno _ (by omega))) (fun h => h)
    have hno4 : ∀ j,j ≤ w.heap.size + 1 → ¬ o4 j:=fun j h1 h2 => by
     rcases hM4.2 j h2 with h | h
     ·exact hno j h1 h
     ·have:=(Array.getElem?_eq_some_iff.1 RB3.out).1
      omega
    have hF4 : Fresh w X:=hP4.start.tr hkX
    have hnE : ¬ o4 w4.heap.size:=fun h => by
     have:=(hP4.own _ h).2
     omega
    have HER:=Lib.hid her
    have RA4:=Lib.hid hA4
    have RB4:=Lib.hid hB4
    have HN4:=Lib.hid hno4
    have RE:=Lib.hid hE
    clear hX hkX her hno hA4 hB4 hno4 hF4 hE hP4 hM4 RA3 RB3 HF3 HO HNX
    go_upto_region 10 with (go_at_call 21;refine HER.out.mono ?_;rintro e w5 ⟨rfl,o5,hP5,hM5⟩)
    refine name_world fun Y hY => ?_
    have hkY : Fresh w5 Y:=by rw [hY];exact (Keeps.refl _ _).alloc _
    have hT : Y.heap[w5.heap.size]? = some (.cells #[.int .i64 0,.int .i64 0] 25 (0,0)):=by rw [hY];exact heap_alloc_new w5 _
    have hE5:=hkY.heap_some (hM5.heap RE.out hnE) (fun h => h)
    have hA5:=hkY.heap_some (hM5.heap RA4.out (HN4.out _ (by omega))) (fun h => h)
    have hB5:=hkY.heap_some (hM5.heap RB4.out (HN4.out _ (by omega))) (fun h => h)
    have hF5 : Fresh w Y:=hP5.start.tr hkY
    obtain ⟨e0,e1,e2,e3⟩:=box4 hE5
    have t0 : Y.cell? ⟨w5.heap.size,0,none⟩ = some (.int .i64 0):=by rw [Lib.cell_of_heap hT];rfl
    have t1 : Y.cell? ⟨w5.heap.size,1,none⟩ = some (.int .i64 0):=by rw [Lib.cell_of_heap hT];rfl
    have RA5:=Lib.hid hA5
    have RB5:=Lib.hid hB5
    have HF5:=Lib.hid hF5
    clear hY hkY hT hE5 hA5 hB5 hF5 hP5 hM5 hnE HER RA4 RB4 HN4 RE
    go_upto_region 12 with fail
    clear e0 e1 e2 e3 t0 t1
    obtain ⟨c0,c1,c2,c3⟩:=box4 RA5.out
    have HSAY:=Lib.hid (HSA.out _ HF5.out)
    clear HSA
    go_upto_region 13 with (go_at_call 22;refine HSAY.out.mono ?_;rintro e w6 ⟨A,ga,oa,rfl,hSa,hoa,hAl,hga,hk6,QA,hqa,hPa⟩)
    have hB6:=hk6.heap_some RB5.out (fun h => h)
    have hF6 : Fresh w w6:=HF5.out.tr hk6
    have H6:=Lib.hid (And.intro hSa (And.intro hoa (And.intro hAl (And.intro hga (And.intro hk6 (And.intro hqa hPa))))))
    have HSBY:=Lib.hid (HSB.out _ hF6)
    have HF6:=Lib.hid hF6
    clear hSa hoa hAl hga hk6 hqa hPa hF6 HSB HSAY c0 c1 c2 c3 RA5 RB5
    obtain ⟨d0,d1,d2,d3⟩:=box4 hB6
    clear hB6
    go_upto_region 14 with (go_at_call 22;refine HSBY.out.mono ?_;rintro e w7 ⟨B,gb,ob,rfl,hSb,hob,hBl,hgb,hk7,QB,hqb,hPb⟩)
    obtain ⟨hSa,hoa,hAl,hga,hk6,hqa,hPa⟩:=H6.out
    have htw:=TwoS.start HF5.out hSa hoa hAl hga hk6 hSb hob hBl hgb hk7
    have hpa0:=hk7.cell_some hqa (fun h => h)
    have hra:=pl_reads (hPa.fresh hk7)
    have hrb:=pl_reads hPb
    have HTW:=Lib.hid htw
    have HRA:=Lib.hid hra
    have HRB:=Lib.hid hrb
    have HF7:=Lib.hid (HF6.out.tr hk7)
    clear hSa hoa hAl hga hk6 hqa hPa hSb hob hBl hgb hk7 hPb htw hra hrb d0 d1 d2 d3 H6 HSBY HF5 HF6
    go_upto_region 17 with (go_at_call 23;refine HRA.out.mono ?_;rintro e w8 ⟨rfl,hw8⟩)
    obtain rfl : w7 = w8:=hw8.symm
    go_upto_region 18 with (go_at_call 23;refine HRB.out.mono ?_;rintro e w9 ⟨rfl,hw9⟩)
    obtain rfl : w7 = w9:=hw9.symm
    clear HRA HRB hpa0 hqb
    go_upto_block 0 with fail
    go_cut [11] (fun v wr => TwoS aL aI aS w wr A ga ca B gb cb)
    case first =>
     go_wp2
     go_loopw [11,18] (fun v i wr => ∃ j : Nat,i = .int .i64 j ∧ j ≤ sc.length ∧ TwoS aL aI aS w wr A ga ca B gb cb) (fun _ i _ => sc.length - (intOf i).toNat)
     case atStart => exact ⟨0,rfl,Nat.zero_le _,HTW.out⟩
     case round =>
      obtain ⟨j,rfl,hj,htw⟩:=hrel
      by_cases hlt : j < sc.length
      ·obtain ⟨⟨k,n,two⟩,hx⟩ : ∃ x,sc[j]? = some x:=⟨_,List.getElem?_eq_getElem hlt⟩
       obtain ⟨-,-,-,-,-,-,-,-,-,-,-,-,hFr⟩:=htw.is
       obtain ⟨so',scap',hse,-,hsx⟩:=HOPS.out _ hFr
       cases hse
       obtain ⟨b,off,rfl,hbl,hcx⟩:=hsx (by intro e;rw [e] at hlt;simp at hlt)
       obtain ⟨x0,x1,x2⟩:=hcx j _ hx
       dsimp only at x0 x1 x2
       have HTB:=Lib.hid htw
       clear htw hx hFr hsx hcx
       by_cases h : two = true
       ·have ht : two = true:=h
        subst ht
        have HST:=Lib.hid (two_step aL aI aS w _ HV.out HG.out B gb cb A ga ca HTB.out.swap k n true)
        go_upto_region 26 with (go_at_call 24;refine HST.out.mono ?_;rintro e w8 ⟨rfl,htw8⟩)
        have HT8:=Lib.hid htw8
        clear htw8 HST
        go_wp2
        go_roundw
        case rel => exact ⟨j + 1,by go_num,by omega,HT8.out.swap⟩
        case measure => simp [intOf];omega
       ·have ht : two = false:=(by simpa using h)
        subst ht
        have HST:=Lib.hid (two_step aL aI aS w _ HV.out HG.out A ga ca B gb cb HTB.out k n false)
        go_upto_region 26 with (go_at_call 24;refine HST.out.mono ?_;rintro e w8 ⟨rfl,htw8⟩)
        have HT8:=Lib.hid htw8
        clear htw8 HST
        go_wp2
        go_roundw
        case rel => exact ⟨j + 1,by go_num,by omega,HT8.out⟩
        case measure => simp [intOf];omega
      ·have HTB:=Lib.hid htw
       clear htw
       go_wp2
       go_meet
       exact HTB.out
    case rest =>
     have HTB:=Lib.hid (two_step aL aI aS w _ HV.out HG.out A ga ca B gb cb hcut 2 0 false)
     clear hcut
     go_upto_region 29 with (go_at_call 24;refine HTB.out.mono ?_;rintro e w8 ⟨rfl,htw8⟩)
     have HTB2:=Lib.hid (two_step aL aI aS w _ HV.out HG.out A ga ca B gb cb htw8 3 0 false)
     clear htw8 HTB
     go_upto_region 30 with (go_at_call 24;refine HTB2.out.mono ?_;rintro e w9 ⟨rfl,htw9⟩)
     obtain ⟨-,-,-,-,-,-,-,-,-,-,-,-,hFr⟩:=htw9.is
     have HFR:=Lib.hid hFr
     clear htw9 hFr HTB2
     go_wp2
     go_ret
     exact ⟨rfl,HFR.out⟩
   ·have hi : (1048576 : Int) < (sc.length : Int):=by omega
    have HFA:=Lib.hid (hfa W hFW)
    have HFB:=Lib.hid hfb
    have HIN':=Lib.hid hin'
    have HFW:=Lib.hid hFW
    clear hfa hfb hV hG hv hv' hsv hin hin' hFW hw hw'
    go_enter Tryz.func5,Tryz.ntmps5
    go_upto_region 1 with fail
    clear hW
    go_upto_region 2 with (go_at_call 18;refine HFA.out.mono ?_;rintro e w1 ⟨rfl,hk1⟩)
    have hb1:=hk1.heap_some HIN'.out (fun h => h)
    have hF1:=HFW.out.tr hk1
    have HFB1:=Lib.hid (HFB.out _ hF1)
    have HF1:=Lib.hid hF1
    clear hk1 hF1 c0 c1 c2 c3 d0 d1 d2 d3 HFA HFB HFW HIN'
    obtain ⟨d0,d1,d2,d3⟩:=box4 hb1
    clear hb1
    go_upto_region 3 with (go_at_call 18;refine HFB1.out.mono ?_;rintro e w2 ⟨rfl,hk2⟩)
    have HF2:=Lib.hid (HF1.out.tr hk2)
    clear hk2 d0 d1 d2 d3 HF1 HFB1
    go_wp2
    go_ret
    exact ⟨rfl,HF2.out⟩
  ·rw [decide_eq_false hB] at hfb
   have HFA:=Lib.hid (hfa W hFW)
   have HFB:=Lib.hid hfb
   have HIN':=Lib.hid hin'
   have HFW:=Lib.hid hFW
   clear hfa hfb hV hG hv hv' hsv hin hin' hFW hw hw' hB
   go_enter Tryz.func5,Tryz.ntmps5
   go_upto_region 1 with fail
   clear hW
   go_upto_region 2 with (go_at_call 18;refine HFA.out.mono ?_;rintro e w1 ⟨rfl,hk1⟩)
   have hb1:=hk1.heap_some HIN'.out (fun h => h)
   have hF1:=HFW.out.tr hk1
   have HFB1:=Lib.hid (HFB.out _ hF1)
   have HF1:=Lib.hid hF1
   clear hk1 hF1 c0 c1 c2 c3 d0 d1 d2 d3 HFA HFB HFW HIN'
   obtain ⟨d0,d1,d2,d3⟩:=box4 hb1
   clear hb1
   go_upto_region 3 with (go_at_call 18;refine HFB1.out.mono ?_;rintro e w2 ⟨rfl,hk2⟩)
   have HF2:=Lib.hid (HF1.out.tr hk2)
   clear hk2 d0 d1 d2 d3 HF1 HFB1
   go_wp2
   go_ret
   exact ⟨rfl,HF2.out⟩
 ·rw [decide_eq_false hA] at hfa
  obtain ⟨bb,hbb⟩ : ∃ bb,decide (s'.size ≤ 1048576 ∧ cs'.length ≤ 1048576) = bb:=⟨_,rfl⟩
  rw [hbb] at hfb
  have HFA:=Lib.hid (hfa W hFW)
  have HFB:=Lib.hid hfb
  have HIN':=Lib.hid hin'
  have HFW:=Lib.hid hFW
  clear hfa hfb hV hG hv hv' hsv hin hin' hFW hw hw' hA hbb
  go_enter Tryz.func5,Tryz.ntmps5
  go_upto_region 1 with fail
  clear hW
  go_upto_region 2 with (go_at_call 18;refine HFA.out.mono ?_;rintro e w1 ⟨rfl,hk1⟩)
  have hb1:=hk1.heap_some HIN'.out (fun h => h)
  have hF1:=HFW.out.tr hk1
  have HFB1:=Lib.hid (HFB.out _ hF1)
  have HF1:=Lib.hid hF1
  clear hk1 hF1 c0 c1 c2 c3 d0 d1 d2 d3 HFA HFB HFW HIN'
  obtain ⟨d0,d1,d2,d3⟩:=box4 hb1
  clear hb1
  go_upto_region 3 with (go_at_call 18;refine HFB1.out.mono ?_;rintro e w2 ⟨rfl,hk2⟩)
  have HF2:=Lib.hid (HF1.out.tr hk2)
  clear hk2 d0 d1 d2 d3 HF1 HFB1
  go_wp2
  go_ret
  exact ⟨rfl,HF2.out⟩
end Go.Proofs.YtbioecifiogffaaGreatDoor
