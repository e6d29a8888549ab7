/- proselaw.Side.step: one thing asked of a side. Conditions: the listed variables read as the text lays them. -/
import Derived.Test.YtbioecifiogffaaGreatDoorYSide
import Derived.Test.YtbioecifiogffaaGreatDoorR1
import Derived.BigQuiet
set_option linter.unusedVariables false
set_option linter.unusedSimpArgs false
set_option maxHeartbeats 8000000
set_option maxRecDepth 1000000
namespace Go.Proofs.YtbioecifiogffaaGreatDoor
open Go.RowKit
def StepS (aL aI aS : Addr) (w0 w w' : World) (B g : Nat) (c : ComeL) (o : Nat → Prop) : Prop :=
 ∃ R' o',Side aL aI aS w0 w' B g c R' o' ∧ Keeps (fun j => o j ∨ j = B) w w' ∧ ∀ j,o' j → o j ∨ w.heap.size ≤ j
theorem Side.opened {aL aI aS : Addr} {w0 w : World} {B g : Nat} {c : ComeL} {R : List Ev} {o : Nat → Prop} (h : Side aL aI aS w0 w B g c R o) :
 ∃ Q p a cap,w.heap[B]? = some (.cells #[.pointer (some ⟨Q,0,none⟩),.string ⟨c.text.toArray⟩,.int .i64 c.err,.int .i64 c.n,.int .i64 c.reads,.slice a R.length cap,.bool false] 59 (0,0)) ∧ Pl aL aI aS w0 w Q c p R o ∧ EvSl w g (.slice a R.length cap) R ∧ R.length ≤ cap ∧ cap ≤ maxLen:=by
 obtain ⟨Q,p,lv,h1,h2,h3⟩:=h.is
 obtain ⟨a,cap,rfl,h4,h5,-⟩:=h3.form
 exact ⟨Q,p,a,cap,h1,h2,h3,h4,h5⟩
theorem box4 {X : World} {B t : Nat} {a b c d : Value} (h : X.heap[B]? = some (.cells #[a,b,c,d] t (0,0))) : X.cell? ⟨B,0,none⟩ = some a ∧ X.cell? ⟨B,1,none⟩ = some b ∧ X.cell? ⟨B,2,none⟩ = some c ∧ X.cell? ⟨B,3,none⟩ = some d:=by
 refine ⟨?_,?_,?_,?_⟩ <;> (rw [Lib.cell_of_heap h];rfl)
theorem StepS.mk {aL aI aS : Addr} {w0 w X : World} {B g : Nat} {c : ComeL} {R R' : List Ev} {o o2 : Nat → Prop} {Q : Nat} {p : Bool} {lv' : Value} (h : Side aL aI aS w0 w B g c R o) (hk : Keeps (fun j => o j ∨ j = B) w X)
 (hb : X.heap[B]? = some (.cells #[.pointer (some ⟨Q,0,none⟩),.string ⟨c.text.toArray⟩,.int .i64 c.err,.int .i64 c.n,.int .i64 c.reads,lv',.bool false] 59 (0,0))) (hp : Pl aL aI aS w0 X Q c p R' o2)
 (ho : ∀ j,o2 j → o j ∨ w.heap.size ≤ j) (hne : R' ≠ [] → R ≠ []) (hlen : R'.length ≤ R.length) (hev : EvSl w g lv' R') : StepS aL aI aS w0 w X B g c o:=by
 obtain ⟨hBl,hol,hgl⟩:=h.lt
 have hg : R' ≠ [] → ¬ (o g ∨ g = B):=fun h1 h2 => by
  obtain ⟨h3,h4,-⟩:=h.ng (hne h1)
  exact h2.elim h3 h4
 refine ⟨R',o2,⟨⟨Q,p,lv',hb,hp,hev.kept hk hg⟩,fun h1 => ?_,fun h1 => ?_,h.lo,Nat.le_trans hlen h.len⟩,hk,ho⟩
 ·rcases ho _ h1 with h2 | h2
  ·exact h.nb h2
  ·omega
 ·obtain ⟨h3,h4,h5⟩:=h.ng (hne h1)
  refine ⟨fun h6 => ?_,h4,h5⟩
  have:=hgl (hne h1)
  rcases ho _ h6 with h2 | h2
  ·exact h3 h2
  ·omega
theorem step_err (aL aI aS : Addr) (w0 w : World) (hV : LaidVars aL aI aS w0) (hG : Gl w0) (B g : Nat) (c : ComeL) (R : List Ev) (o : Nat → Prop) (h : Side aL aI aS w0 w B g c R o) (n : Int) (two : Bool) :
 Calls Tryz.prog 24 #[.pointer (some ⟨B,0,none⟩),.agg #[.int .i64 3,.int .i64 n,.bool two]] w fun e w' => e = .returned (.bool true) ∧ StepS aL aI aS w0 w w' B g c o:=by
 obtain ⟨Q,p,a,cap,hb,hp,hsl,hc1,hc2⟩:=h.opened
 obtain ⟨hBl,hol,hgl⟩:=h.lt
 obtain ⟨W,hW⟩ : ∃ W,w.alloc (.cells #[.int .i64 3,.int .i64 n,.bool two] 62) = W:=⟨_,rfl⟩
 have hFW : Fresh w W:=by rw [← hW];exact (Keeps.refl _ w).alloc _
 have hzW : W.heap.size = w.heap.size + 1:=by rw [← hW];simp
 have hbo : W.heap[w.heap.size]? = some (.cells #[.int .i64 3,.int .i64 n,.bool two] 62 (0,0)):=by rw [← hW];exact heap_alloc_new w _
 have o0 : W.cell? ⟨w.heap.size,0,none⟩ = some (.int .i64 3):=by rw [Lib.cell_of_heap hbo];rfl
 have hbW:=hFW.heap_some hb (fun h => h)
 obtain ⟨b0,b1,b2,b3,b4,b5⟩:=box7 hbW
 have hpW:=hp.fresh hFW
 have herr:=pl_err hpW hV hG
 have HERR:=Lib.hid herr
 have HS:=Lib.hid h
 have HFW:=Lib.hid hFW
 have HBW:=Lib.hid hbW
 have HZ:=Lib.hid hzW
 have HSL:=Lib.hid hsl
 have hnb:=h.nb
 clear herr h hFW hbW hzW hbo hp hpW hsl hV hG hb
 go_enter Tryz.func24,Tryz.ntmps24
 go_upto_region 1 with fail
 clear hW
 go_upto_region 19 with (refine HERR.out.mono ?_;rintro e w3 ⟨rfl,o2,hP3,hM3⟩)
 refine name_world fun X hX => ?_
 have hkX : Fresh w3 X:=by rw [hX];exact (Keeps.refl _ _).alloc _
 have htX : X.heap[w3.heap.size]? = some (.cells #[.int .i64 c.err,.int .i64 c.n] 25 (0,0)):=by rw [hX];exact heap_alloc_new w3 _
 have t0 : X.cell? ⟨w3.heap.size,0,none⟩ = some (.int .i64 c.err):=by rw [Lib.cell_of_heap htX];rfl
 have t1 : X.cell? ⟨w3.heap.size,1,none⟩ = some (.int .i64 c.n):=by rw [Lib.cell_of_heap htX];rfl
 have hb3:=hkX.heap_some (hM3.heap HBW.out hnb) (fun h => h)
 obtain ⟨b0,b1,b2,b3,b4,b5⟩:=box7 hb3
 have hz:=HZ.out
 have hfin : ∀ Y,Fresh X Y → StepS aL aI aS w0 w Y B g c o:=fun Y hY =>
  StepS.mk HS.out ((HFW.out.mono (fun _ _ h => h.elim)).tr ((hM3.1.mono (fun _ _ h => .inl h)).tr ((hkX.tr hY).mono (fun _ _ h => h.elim)))) (hY.heap_some hb3 (fun h => h)) (hP3.fresh (hkX.tr hY)) (fun j hj => by
    rcases hM3.2 j hj with h | h
    ·exact .inl h
    ·exact .inr (by omega)) (fun h => h) (Nat.le_refl _) HSL.out
 have HFIN:=Lib.hid hfin
 clear hX hkX htX hb3 hz hfin hP3 hM3 HERR HS HFW HBW HZ HSL
 go_quiet (fail)
 go_wp2
 go_ret
 first | exact ⟨rfl,HFIN.out _ ((Keeps.refl _ _).drewN _)⟩ | exact ⟨rfl,HFIN.out _ (Keeps.refl _ _).drew⟩ | exact ⟨rfl,HFIN.out _ (Keeps.refl _ _)⟩
theorem step_next (aL aI aS : Addr) (w0 w : World) (hV : LaidVars aL aI aS w0) (hG : Gl w0) (B g : Nat) (c : ComeL) (R : List Ev) (o : Nat → Prop) (h : Side aL aI aS w0 w B g c R o) (n : Int) (two : Bool) :
 Calls Tryz.prog 24 #[.pointer (some ⟨B,0,none⟩),.agg #[.int .i64 1,.int .i64 n,.bool two]] w fun e w' => e = .returned (.bool true) ∧ StepS aL aI aS w0 w w' B g c o:=by
 obtain ⟨Q,p,a,cap,hb,hp,hsl,hc1,hc2⟩:=h.opened
 obtain ⟨hBl,hol,hgl⟩:=h.lt
 obtain ⟨W,hW⟩ : ∃ W,w.alloc (.cells #[.int .i64 1,.int .i64 n,.bool two] 62) = W:=⟨_,rfl⟩
 have hFW : Fresh w W:=by rw [← hW];exact (Keeps.refl _ w).alloc _
 have hzW : W.heap.size = w.heap.size + 1:=by rw [← hW];simp
 have hbo : W.heap[w.heap.size]? = some (.cells #[.int .i64 1,.int .i64 n,.bool two] 62 (0,0)):=by rw [← hW];exact heap_alloc_new w _
 have o0 : W.cell? ⟨w.heap.size,0,none⟩ = some (.int .i64 1):=by rw [Lib.cell_of_heap hbo];rfl
 have o1 : W.cell? ⟨w.heap.size,1,none⟩ = some (.int .i64 n):=by rw [Lib.cell_of_heap hbo];rfl
 have hbW:=hFW.heap_some hb (fun h => h)
 obtain ⟨b0,b1,b2,b3,b4,b5⟩:=box7 hbW
 have hpW:=hp.fresh hFW
 have HS:=Lib.hid h
 have HFW:=Lib.hid hFW
 have HBW:=Lib.hid hbW
 have HZ:=Lib.hid hzW
 have HSL:=Lib.hid hsl
 have HBO:=Lib.hid hbo
 have hnb:=h.nb
 have hlen:=h.len
 have hnx:=pl_next hpW hV hG
 have HNX:=Lib.hid hnx
 clear hnx h hFW hbW hzW hbo hp hpW hsl hV hG hb HBO o1
 cases R with
 | nil =>
  have hnx:=HNX.out
  rw [show evV (List.headD ([] : List Ev) ev0) = .agg #[.int .i64 0,.bool false,.int .i64 0,.string ⟨#[]⟩] from rfl,show (!(List.isEmpty ([] : List Ev))) = false from rfl] at hnx
  have HNX:=Lib.hid hnx
  clear hnx
  go_enter Tryz.func24,Tryz.ntmps24
  go_upto_region 1 with fail
  clear hW
  go_upto_region 4 with (refine HNX.out.mono ?_;rintro e w3 ⟨rfl,o2,hP3,hM3⟩)
  refine name_world fun X hX => ?_
  have hkX : Fresh w3 X:=by rw [hX];exact (Keeps.refl _ _).alloc _
  have htX : X.heap[w3.heap.size]? = some (.cells #[.int .i64 0,.bool false,.int .i64 0,.string ⟨#[]⟩] 38 (0,0)):=by rw [hX];exact heap_alloc_new w3 _
  obtain ⟨t0,t1,t2,t3⟩:=box4 htX
  have hb3:=hkX.heap_some (hM3.heap HBW.out hnb) (fun h => h)
  obtain ⟨b0,b1,b2,b3,b4,b5⟩:=box7 hb3
  have hz:=HZ.out
  have hfin : StepS aL aI aS w0 w X B g c o :=
   StepS.mk (R':=[]) HS.out ((HFW.out.mono (fun _ _ h => h.elim)).tr ((hM3.1.mono (fun _ _ h => .inl h)).tr (hkX.mono (fun _ _ h => h.elim)))) hb3 (hP3.fresh hkX) (fun j hj => by
     rcases hM3.2 j hj with h | h
     ·exact .inl h
     ·exact .inr (by omega)) (fun h => h) (Nat.le_refl _) HSL.out
  have HFIN:=Lib.hid hfin
  clear hX hkX htX hb3 hz hfin hP3 hM3 HNX HS HFW HBW HZ HSL
  go_wp2
  go_ret
  exact ⟨rfl,HFIN.out⟩
 | cons x r =>
  obtain ⟨N,hN⟩ : ∃ N,(x :: r).length = N:=⟨_,rfl⟩
  have hN1 : r.length + 1 = N:=hN
  have hbw:=HBW.out
  have hslw:=HSL.out
  rw [hN] at hc1 b5 hbw hslw hlen
  have HBW:=Lib.hid hbw
  have HSL:=Lib.hid hslw
  have HN:=Lib.hid hN
  have HN1:=Lib.hid hN1
  have hN0 : (1 : Int) ≤ (N : Int):=by omega
  have hN2 : ¬ (N : Int) = 0:=by omega
  have hN3 : 1 ≤ N:=by omega
  have hN4 : 1 ≤ cap:=by omega
  have hN5 : (1 : Int) ≤ (cap : Int):=by omega
  clear hbw hslw hN hN1
  have hnx:=HNX.out
  rw [show evV (List.headD (x :: r) ev0) = .agg #[.int .i64 x.kind,.bool x.fin,.int .i64 x.level,.string ⟨x.text.toArray⟩] from rfl,show (!(List.isEmpty (x :: r))) = true from rfl] at hnx
  have HNX:=Lib.hid hnx
  clear hnx
  go_enter Tryz.func24,Tryz.ntmps24
  go_upto_region 1 with fail
  clear hW
  go_upto_region 4 with (refine HNX.out.mono ?_;rintro e w3 ⟨rfl,o2,hP3,hM3⟩)
  refine name_world fun X hX => ?_
  have hkX : Fresh w3 X:=by rw [hX];exact (Keeps.refl _ _).alloc _
  have htX : X.heap[w3.heap.size]? = some (.cells #[.int .i64 x.kind,.bool x.fin,.int .i64 x.level,.string ⟨x.text.toArray⟩] 38 (0,0)):=by rw [hX];exact heap_alloc_new w3 _
  obtain ⟨t0,t1,t2,t3⟩:=box4 htX
  have hb3:=hkX.heap_some (hM3.heap HBW.out hnb) (fun h => h)
  obtain ⟨b0,b1,b2,b3,b4,b5⟩:=box7 hb3
  have hz:=HZ.out
  have hkw : Keeps (fun j => o j ∨ j = B) w X:=(HFW.out.mono (fun _ _ h => h.elim)).tr ((hM3.1.mono (fun _ _ h => .inl h)).tr (hkX.mono (fun _ _ h => h.elim)))
  obtain ⟨ng1,ng2,ng3⟩:=HS.out.ng (by simp)
  have hslX : EvSl X g (.slice a N cap) (x :: r):=HSL.out.kept hkw (fun _ h => h.elim ng1 ng2)
  have hpX:=hP3.fresh hkX
  have hoo : ∀ j,o2 j → o j ∨ w.heap.size ≤ j:=fun j hj => by
   rcases hM3.2 j hj with h | h
   ·exact .inl h
   ·exact .inr (by omega)
  have HHX:=Lib.hid hb3
  have HKW:=Lib.hid hkw
  have HSX:=Lib.hid hslX
  have HPX:=Lib.hid hpX
  have HOO:=Lib.hid hoo
  clear hX hkX htX hb3 hz hP3 hM3 HNX HFW HBW HZ HSL hkw hslX hpX hoo
  go_upto_region 6 with fail
  obtain ⟨off,rfl,-,hgX,-⟩:=HSX.out.at (j:=0) (x:=x) rfl
  refine wp_region_K 8 (fun w' => w'.cell? ⟨w3.heap.size,0,none⟩ = some (.int .i64 x.kind) ∧ w'.cell? ⟨w3.heap.size,1,none⟩ = some (.bool x.fin) ∧ w'.cell? ⟨w3.heap.size,2,none⟩ = some (.int .i64 x.level) ∧ w'.cell? ⟨w3.heap.size,3,none⟩ = some (.string ⟨x.text.toArray⟩) ∧ w'.cell? ⟨B,5,none⟩ = some (.slice (some ⟨g,off,none⟩) N cap)) (by kernel_rfl) ?_
  have hHeld : X.drew.cell? ⟨w3.heap.size,0,none⟩ = some (.int .i64 x.kind) ∧ X.drew.cell? ⟨w3.heap.size,1,none⟩ = some (.bool x.fin) ∧ X.drew.cell? ⟨w3.heap.size,2,none⟩ = some (.int .i64 x.level) ∧ X.drew.cell? ⟨w3.heap.size,3,none⟩ = some (.string ⟨x.text.toArray⟩) ∧ X.drew.cell? ⟨B,5,none⟩ = some (.slice (some ⟨g,off,none⟩) N cap):=⟨t0,t1,t2,t3,b5⟩
  clear t0 t1 t2 t3 b0 b1 b2 b3 b4 b5
  refine K_is [0,2,3,4,5,6] ?_
  iterate 6 (refine K_yD (v:=?_) rfl rfl (by kernel_rfl) (fun _ _ _ h => h) (by rfl) ?_ (by assumption) ?_;rotate_left;(· intro _ hSw;(obtain ⟨hS0,hS1,hS2,hS3,hS4⟩:=hSw);first | (go_simp;done) | (go_simp;with_reducible rfl));try simp only [List.setIfInBounds_toArray,List.set_cons_zero,List.set_cons_succ])
  refine K_no ?_
  refine K_one (i:=1) (by kernel_rfl) rfl (fun K hK => ?_)
  go_simp
  have hkA : Fresh X.drew (X.drew.alloc (.cells #[.int .i64 x.kind,.bool x.fin,.int .i64 x.level,.string ⟨x.text.toArray⟩] 38)):=(Keeps.refl _ _).alloc _
  refine hK.out _ _ ⟨hkA.cell_some hHeld.1 (fun h => h),hkA.cell_some hHeld.2.1 (fun h => h),hkA.cell_some hHeld.2.2.1 (fun h => h),hkA.cell_some hHeld.2.2.2.1 (fun h => h),hkA.cell_some hHeld.2.2.2.2 (fun h => h)⟩ (fun hHeld2 => ?_)
  clear hK K
  try simp only [Act.put,List.setIfInBounds_toArray,List.set_cons_zero,List.set_cons_succ]
  have hone:=(Evs.lit1 X.drew 38 x).sl
  have htk:=(((HSX.out.fresh (Keeps.refl _ X).drew).fresh hkA).take 1 (by simp))
  have hsm:=same_sl _ _ _ _ [x] _ hone htk (by simp)
  refine K_one (i:=7) (by kernel_rfl) rfl (fun K hK => ?_)
  go_simp
  refine hsm.mono ?_
  rintro e w5 ⟨rfl,hk5⟩
  refine hK.out _ _ ⟨hk5.cell_some hHeld2.1 (fun h => h),hk5.cell_some hHeld2.2.1 (fun h => h),hk5.cell_some hHeld2.2.2.1 (fun h => h),hk5.cell_some hHeld2.2.2.2.1 (fun h => h),hk5.cell_some hHeld2.2.2.2.2 (fun h => h)⟩ (fun hHeld3 => ?_)
  clear hK K
  try simp only [Act.put,List.setIfInBounds_toArray,List.set_cons_zero,List.set_cons_succ]
  refine K_last (by kernel_rfl) rfl (fun K hK => ?_)
  go_simp
  refine hK.out _ _ ?_
  clear hK K
  try simp only [Act.put,List.setIfInBounds_toArray,List.set_cons_zero,List.set_cons_succ]
  refine K_done (by kernel_rfl) ?_ _
  have hkX5 : Fresh X w5:=((Keeps.refl _ X).drew.alloc _).tr hk5
  have hb5:=hkX5.heap_some HHX.out (fun h => h)
  obtain ⟨b0,b1,b2,b3,b4,b5⟩:=box7 hb5
  have f5 : w5.frozen? ⟨B,5,none⟩ = false:=Lib.frozen_of_heap hb5 5
  have hdr:=HSL.out.drop 1 (by simp)
  rw [List.drop_one,List.tail_cons,HN.out] at hdr
  have hfin : ∀ (lv' : Value) (Y : World),Y = w5.setCell ⟨B,5,none⟩ lv' → EvSl w g lv' r → StepS aL aI aS w0 w Y B g c o:=by
   intro lv' Y hY hl'
   have hbY : Y.heap[B]? = some (.cells #[.pointer (some ⟨Q,0,none⟩),.string ⟨c.text.toArray⟩,.int .i64 c.err,.int .i64 c.n,.int .i64 c.reads,lv',.bool false] 59 (0,0)):=by rw [hY];exact (heap_set hb5 _).trans rfl
   have hkY : Keeps (fun j => j = B) w5 Y:=by rw [hY];exact (Keeps.refl (fun j => j = B) w5).setCell (p:=⟨B,5,none⟩) (fun _ => rfl) _
   have nb2 : ¬ o2 B:=fun h => by
    rcases HOO.out _ h with h | h
    ·exact hnb h
    ·omega
   exact StepS.mk HS.out ((HKW.out.tr (hkX5.mono (fun _ _ h => h.elim))).tr (hkY.mono (fun _ _ h => .inr h))) hbY ((HPX.out.fresh hkX5).keep hkY (fun j h1 h2 => nb2 (h1 ▸ h2)) (fun j h => by rw [h];exact HS.out.lo)) HOO.out (by simp) (by simp) hl'
  have HFIN:=Lib.hid hfin
  have HDR:=Lib.hid hdr
  clear hHeld hHeld2 hHeld3 hkA hone htk hsm hk5 hkX5 hb5 hdr hfin HHX HKW HSX HPX HOO HN HN1 HNX HS
  by_cases hcap : cap = 1
  ·have hd:=HDR.out
   rw [if_pos hcap] at hd
   have HD:=Lib.hid hd
   clear hd HDR
   subst hcap
   obtain rfl : N = 1:=by omega
   go_wp2
   go_ret
   exact ⟨rfl,HFIN.out _ _ rfl HD.out⟩
  ·have hd:=HDR.out
   rw [if_neg hcap] at hd
   have HD:=Lib.hid hd
   have hc3 : ¬ (cap : Int) = 1:=by omega
   clear hd HDR
   go_wp2
   go_ret
   exact ⟨rfl,HFIN.out _ _ rfl HD.out⟩
end Go.Proofs.YtbioecifiogffaaGreatDoor
