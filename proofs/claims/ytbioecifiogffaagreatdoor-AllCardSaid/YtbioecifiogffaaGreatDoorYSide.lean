/- proselaw.side: a parser, what comes, the events that are left. Conditions: texts and lists of at most 2^20 elements. -/
import Derived.Test.YtbioecifiogffaaGreatDoorR10
import Derived.Test.YtbioecifiogffaaGreatDoorR9
import Derived.Test.YtbioecifiogffaaGreatDoorR12
import Derived.Test.YtbioecifiogffaaGreatDoorYPull
set_option linter.unusedVariables false
set_option linter.unusedSimpArgs false
set_option maxHeartbeats 8000000
set_option maxRecDepth 1000000
namespace Go.Proofs.YtbioecifiogffaaGreatDoor
open Go.RowKit
structure Side (aL aI aS : Addr) (w0 w : World) (B g : Nat) (c : ComeL) (R : List Ev) (o : Nat → Prop) : Prop where
 is : ∃ Q p lv,w.heap[B]? = some (.cells #[.pointer (some ⟨Q,0,none⟩),.string ⟨c.text.toArray⟩,.int .i64 c.err,.int .i64 c.n,.int .i64 c.reads,lv,.bool false] 59 (0,0)) ∧ Pl aL aI aS w0 w Q c p R o ∧ EvSl w g lv R
 nb : ¬ o B
 ng : R ≠ [] → ¬ o g ∧ g ≠ B ∧ w0.heap.size ≤ g
 lo : w0.heap.size ≤ B
 len : R.length ≤ 5000
theorem Side.keep {aL aI aS : Addr} {w0 w w' : World} {B g : Nat} {c : ComeL} {R : List Ev} {o D : Nat → Prop} (h : Side aL aI aS w0 w B g c R o) (hk : Keeps D w w') (hD : ∀ j,D j → ¬ o j ∧ j ≠ B ∧ (R ≠ [] → j ≠ g)) (hD0 : ∀ j,D j → w0.heap.size ≤ j) : Side aL aI aS w0 w' B g c R o:=by
 obtain ⟨Q,p,lv,h1,h2,h3⟩:=h.is
 exact ⟨⟨Q,p,lv,hk.heap_some h1 (fun h => (hD _ h).2.1 rfl),h2.keep hk (fun j h => (hD j h).1) hD0,h3.kept hk (fun hne hd => (hD _ hd).2.2 hne rfl)⟩,h.nb,h.ng,h.lo,h.len⟩
theorem Side.fresh {aL aI aS : Addr} {w0 w w' : World} {B g : Nat} {c : ComeL} {R : List Ev} {o : Nat → Prop} (h : Side aL aI aS w0 w B g c R o) (hk : Fresh w w') : Side aL aI aS w0 w' B g c R o:=h.keep hk (fun _ h => h.elim) (fun _ h => h.elim)
theorem Side.lt {aL aI aS : Addr} {w0 w : World} {B g : Nat} {c : ComeL} {R : List Ev} {o : Nat → Prop} (h : Side aL aI aS w0 w B g c R o) : B < w.heap.size ∧ (∀ j,o j → j < w.heap.size) ∧ (R ≠ [] → g < w.heap.size):=by
 obtain ⟨Q,p,lv,h1,h2,h3⟩:=h.is
 refine ⟨(Array.getElem?_eq_some_iff.1 h1).1,fun j hj => (h2.own j hj).2,fun hne => ?_⟩
 cases R with
 | nil => exact absurd rfl hne
 | cons x r =>
  obtain ⟨a,cap,rfl,-,-,-⟩:=h3.form
  obtain ⟨off,-,-,hg,-⟩:=h3.at (j:=0) rfl
  exact hg
theorem box7 {X : World} {B t : Nat} {a b c d e f g : Value} (h : X.heap[B]? = some (.cells #[a,b,c,d,e,f,g] t (0,0))) : X.cell? ⟨B,0,none⟩ = some a ∧ X.cell? ⟨B,1,none⟩ = some b ∧ X.cell? ⟨B,2,none⟩ = some c ∧ X.cell? ⟨B,3,none⟩ = some d ∧ X.cell? ⟨B,4,none⟩ = some e ∧ X.cell? ⟨B,5,none⟩ = some f:=by
 refine ⟨?_,?_,?_,?_,?_,?_⟩ <;> (rw [Lib.cell_of_heap h];rfl)
theorem evsl_nil (w : World) (g : Nat) : EvSl w g (.slice none 0 0) []:=⟨none,0,0,rfl,Nat.le_refl _,Nat.zero_le _,fun h => absurd rfl h⟩
theorem side_any (aL aI aS : Addr) (w0 w : World) (hF : Fresh w0 w) (s : ByteArray) (v : Value) (cs : List Int) (fa : Int) (wt : Bool) (hv : IntsAt w v cs) (hs : s.size ≤ 1048576) (hl : cs.length ≤ 1048576) (hw : ∀ x ∈ cs,-9223372036854775808 ≤ x ∧ x ≤ 9223372036854775807) (c : ComeL) (hc : comeL s.data.toList cs fa wt = c) :
 Calls Tryz.prog 22 #[.agg #[.string s,v,.int .i64 fa,.bool wt]] w fun e w' => ∃ B g o,e = .returned (.pointer (some ⟨B,0,none⟩)) ∧ Side aL aI aS w0 w' B g c (comeE c) o ∧ (∀ j,o j → w.heap.size ≤ j) ∧ w.heap.size ≤ B ∧ (w.heap.size ≤ g ∧ g < w'.heap.size) ∧ Fresh w w' ∧ ∃ Q,w'.cell? ⟨B,0,none⟩ = some (.pointer (some ⟨Q,0,none⟩)) ∧ Pl aL aI aS w0 w' Q c false (comeE c) o:=by
 have hct : c.text.length ≤ 1200:=by rw [← hc];exact comeL_text _ _ _ _
 have hcl:=comeE_len c hct
 obtain ⟨ao,cap,rfl⟩:=hv.form
 obtain ⟨W,hW⟩ : ∃ W,w.alloc (.cells #[.string s,.slice ao cs.length cap,.int .i64 fa,.bool wt] 30) = W:=⟨_,rfl⟩
 have hFW : Fresh w W:=by rw [← hW];exact (Keeps.refl _ w).alloc _
 have hzW : W.heap.size = w.heap.size + 1:=by rw [← hW];simp
 have hin : W.heap[w.heap.size]? = some (.cells #[.string s,.slice ao cs.length cap,.int .i64 fa,.bool wt] 30 (0,0)):=by rw [← hW];exact heap_alloc_new w _
 obtain ⟨c0,c1,c2,c3⟩ : W.cell? ⟨w.heap.size,0,none⟩ = some (.string s) ∧ W.cell? ⟨w.heap.size,1,none⟩ = some (.slice ao cs.length cap) ∧ W.cell? ⟨w.heap.size,2,none⟩ = some (.int .i64 fa) ∧ W.cell? ⟨w.heap.size,3,none⟩ = some (.bool wt):=by
  refine ⟨?_,?_,?_,?_⟩ <;> (rw [Lib.cell_of_heap hin];rfl)
 have hco:=come_any s (.slice ao cs.length cap) cs fa wt W (hv.kept hFW (fun _ _ h => h)) hs hl hw
 rw [hc] at hco
 have hnew:=fun (X : World) (hX : Fresh w X) => plNew_any aL aI aS w0 X (hF.tr hX) s (.slice ao cs.length cap) cs fa wt false (hv.kept hX (fun _ _ h => h)) hs hl hw
 have e1 : comeN false s.data.toList cs fa wt = c:=hc
 rw [e1] at hnew
 have hev:=fun (X : World) => rEvents_any ⟨c.text.toArray⟩ X (by simp [ByteArray.size];omega)
 have HCO:=Lib.hid hco
 have HNEW:=Lib.hid hnew
 have HEV:=Lib.hid hev
 have HIN:=Lib.hid hin
 have HFW:=Lib.hid hFW
 have HZ:=Lib.hid hzW
 have HF:=Lib.hid hF
 clear hco hnew hev hin hFW hzW hF hv hw hc e1
 go_enter Tryz.func22,Tryz.ntmps22
 go_upto_region 1 with fail
 clear hW
 go_upto_region 2 with (go_at_call 25;refine HCO.out.mono ?_;rintro e w2 ⟨rfl,hk2⟩)
 refine name_world fun X hX => ?_
 have hz:=HZ.out
 have hz2:=hk2.size
 have hWX : Fresh W X:=by rw [hX];exact hk2.alloc _
 have hXs : X.heap.size = w2.heap.size + 1:=by rw [hX];simp
 have hbX : X.heap[w2.heap.size]? = some (.cells #[.pointer none,.string ⟨c.text.toArray⟩,.int .i64 c.err,.int .i64 c.n,.int .i64 c.reads,.slice none 0 0,.bool false] 59 (0,0)):=by rw [hX];exact heap_alloc_new w2 _
 obtain ⟨B,hB⟩ : ∃ B,B = w2.heap.size:=⟨_,rfl⟩
 rw [← hB] at hbX hXs
 have hBw : w.heap.size + 1 ≤ B:=by omega
 have hcX:=hWX.heap_some HIN.out (fun h => h)
 have hFX : Fresh w X:=HFW.out.tr hWX
 have HNEWX:=Lib.hid (HNEW.out X hFX)
 have HFX:=Lib.hid hFX
 have HBX:=Lib.hid hbX
 have HXS:=Lib.hid hXs
 try rw [← hB]
 clear hX hk2 hWX hXs hbX hFX c0 c1 c2 c3 hz hz2 hB HNEW HIN HFW HZ HCO
 obtain ⟨c0,c1,c2,c3⟩ : X.cell? ⟨w.heap.size,0,none⟩ = some (.string s) ∧ X.cell? ⟨w.heap.size,1,none⟩ = some (.slice ao cs.length cap) ∧ X.cell? ⟨w.heap.size,2,none⟩ = some (.int .i64 fa) ∧ X.cell? ⟨w.heap.size,3,none⟩ = some (.bool wt):=by
  refine ⟨?_,?_,?_,?_⟩ <;> (rw [Lib.cell_of_heap hcX];rfl)
 clear hcX
 go_wp2_with fail
 refine HNEWX.out.mono ?_
 rintro e w3 ⟨Q,o,rfl,hP,ho,hk3⟩
 have hb3:=hk3.heap_some HBX.out (fun h => h)
 obtain ⟨b0,b1,b2,b3,b4,b5⟩:=box7 hb3
 have f0 : w3.frozen? ⟨B,0,none⟩ = false:=Lib.frozen_of_heap hb3 0
 have HP:=Lib.hid hP
 have HO:=Lib.hid ho
 have HK3:=Lib.hid hk3
 have HB3:=Lib.hid hb3
 clear hP ho hk3 hb3 HBX c0 c1 c2 c3 b1 b2 b3 b4 b5
 go_upto_region 3 with fail
 refine name_world fun Y hY => ?_
 have hbY : Y.heap[B]? = some (.cells #[.pointer (some ⟨Q,0,none⟩),.string ⟨c.text.toArray⟩,.int .i64 c.err,.int .i64 c.n,.int .i64 c.reads,.slice none 0 0,.bool false] 59 (0,0)):=by rw [hY];exact (heap_set HB3.out _).trans rfl
 have hxs:=HXS.out
 have nb : ¬ o B:=fun h => by have:=HO.out _ h;omega
 have hkY : Keeps (fun j => j = B) w3 Y:=by rw [hY];exact (Keeps.refl (fun j => j = B) w3).setCell (p:=⟨B,0,none⟩) (fun _ => rfl) _
 have hpY : Pl aL aI aS w0 Y Q c false (comeE c) o:=HP.out.keep hkY (fun j h1 h2 => nb (h1 ▸ h2)) (fun j h => by have:=HF.out.size;omega)
 have hwY : Fresh w Y:=(HFX.out.tr HK3.out).trans hkY (fun j h1 h2 => by omega)
 obtain ⟨b0,b1,b2,b3,b4,b5⟩:=box7 hbY
 have hlo : w0.heap.size ≤ B:=by have:=HF.out.size;omega
 have hoY : ∀ j,o j → w.heap.size ≤ j:=fun j hj => by have:=HO.out _ hj;omega
 have fY : Y.frozen? ⟨B,5,none⟩ = false:=Lib.frozen_of_heap hbY 5
 have HBY:=Lib.hid hbY
 have HPY:=Lib.hid hpY
 have HWY:=Lib.hid hwY
 have HXS2:=HXS
 clear hY hkY hpY hwY hbY hxs HB3 HK3 HP HXS HFX HNEWX f0
 by_cases he : c.err = 0
 ·have hei : (c.err : Int) = 0:=by omega
  have hce : comeE c = evsF c.text:=by unfold comeE;rw [if_pos he]
  have HCE:=Lib.hid hce
  clear hce
  go_upto_region 4 with fail
  go_wp2_with fail
  refine (HEV.out _).mono ?_
  rintro e w4 ⟨u,rfl,hE,hu,hk4⟩
  obtain ⟨ua,uc,rfl,-,hun,hug⟩:=own_form hE
  have hgo : evsF c.text ≠ [] → (Value.slice ua (evsF c.text).length uc).ownBlock = some (((Value.slice ua (evsF c.text).length uc).ownBlock).getD 0):=fun hne => by
   cases ua with
   | none => exact absurd (List.length_eq_zero_iff.1 (hun rfl).1) hne
   | some ad => obtain ⟨g,rfl,-⟩:=hug ad rfl;rfl
  have HGO:=Lib.hid hgo
  have hb4:=hk4.heap_some HBY.out (fun h => h)
  obtain ⟨b0,b1,b2,b3,b4,b5⟩:=box7 hb4
  have f5 : w4.frozen? ⟨B,5,none⟩ = false:=Lib.frozen_of_heap hb4 5
  have HE:=Lib.hid hE
  have HU:=Lib.hid hu
  have HK4:=Lib.hid hk4
  have HB4:=Lib.hid hb4
  clear hE hu hk4 hb4 hgo hun hug
  have hfin : ∀ Z,Z = w4.setCell ⟨B,5,none⟩ (.slice ua (evsF c.text).length uc) → ∃ g,Side aL aI aS w0 Z B g c (comeE c) o ∧ (∀ j,o j → w.heap.size ≤ j) ∧ w.heap.size ≤ B ∧ (w.heap.size ≤ g ∧ g < Z.heap.size) ∧ Fresh w Z ∧ ∃ Q,Z.cell? ⟨B,0,none⟩ = some (.pointer (some ⟨Q,0,none⟩)) ∧ Pl aL aI aS w0 Z Q c false (comeE c) o:=by
   intro Z hZ
   have hbZ : Z.heap[B]? = some (.cells #[.pointer (some ⟨Q,0,none⟩),.string ⟨c.text.toArray⟩,.int .i64 c.err,.int .i64 c.n,.int .i64 c.reads,.slice ua (evsF c.text).length uc,.bool false] 59 (0,0)):=by rw [hZ];exact (heap_set HB4.out _).trans rfl
   have hkZ : Keeps (fun j => j = B) w4 Z:=by rw [hZ];exact (Keeps.refl (fun j => j = B) w4).setCell (p:=⟨B,5,none⟩) (fun _ => rfl) _
   have hyl : B < Y.heap.size:=(Array.getElem?_eq_some_iff.1 HBY.out).1
   have hgB : evsF c.text ≠ [] → ((Value.slice ua (evsF c.text).length uc).ownBlock).getD 0 ≠ B ∧ Y.heap.size ≤ ((Value.slice ua (evsF c.text).length uc).ownBlock).getD 0:=fun hne => by
    have:=HU.out _ (HGO.out hne)
    omega
   have hyw:=HWY.out.size
   have hw0:=HF.out.size
   have hpo:=HPY.out.own
   have hwZ : Fresh w Z:=(HWY.out.tr HK4.out).trans hkZ (fun j h1 h2 => by omega)
   have hpZ:=(HPY.out.fresh HK4.out).keep hkZ (fun j h1 h2 => nb (h1 ▸ h2)) (fun j h => by omega)
   have hzl : B < Z.heap.size:=(Array.getElem?_eq_some_iff.1 hbZ).1
   by_cases hne0 : evsF c.text = []
   ·refine ⟨w.heap.size,⟨⟨Q,false,_,hbZ,hpZ,?_⟩,nb,?_,hlo,hcl⟩,hoY,by omega,⟨Nat.le_refl _,by omega⟩,hwZ,Q,(box7 hbZ).1,hpZ⟩
    ·rw [HCE.out,hne0]
     have h0:=HE.out.sl
     rw [hne0] at h0
     obtain ⟨p9,c9,off9,h1,h2,h3,-⟩:=h0
     exact ⟨p9,c9,off9,h1,h2,h3,fun h => absurd rfl h⟩
    ·rw [HCE.out];exact fun h => absurd hne0 h
   ·obtain ⟨h1,h2⟩:=hgB hne0
    have h3 : ((Value.slice ua (evsF c.text).length uc).ownBlock).getD 0 < w4.heap.size:=own_lt HE.out (HGO.out hne0)
    have h4:=hkZ.size
    refine ⟨((Value.slice ua (evsF c.text).length uc).ownBlock).getD 0,⟨⟨Q,false,_,hbZ,hpZ,?_⟩,nb,?_,hlo,hcl⟩,hoY,by omega,⟨by omega,by omega⟩,hwZ,Q,(box7 hbZ).1,hpZ⟩
    ·rw [HCE.out]
     exact HE.out.sl.kept hkZ (fun hne => (hgB hne).1)
    ·rw [HCE.out]
     intro hne
     exact ⟨fun h => by have:=(hpo _ h).2;omega,h1,by omega⟩
  have HFIN:=Lib.hid hfin
  clear hfin
  go_wp2
  go_ret
  obtain ⟨g,hfin⟩:=HFIN.out _ rfl
  exact ⟨B,g,o,rfl,hfin⟩
 ·have hei : ¬ (c.err : Int) = 0:=by omega
  have hce : comeE c = []:=by unfold comeE;rw [if_neg he]
  have HCE:=Lib.hid hce
  clear hce
  go_wp2
  go_ret
  have hyl : B < Y.heap.size:=(Array.getElem?_eq_some_iff.1 HBY.out).1
  refine ⟨B,w.heap.size,o,rfl,⟨⟨Q,false,_,HBY.out,HPY.out,?_⟩,nb,?_,hlo,hcl⟩,hoY,by omega,⟨Nat.le_refl _,by omega⟩,HWY.out,Q,(box7 HBY.out).1,HPY.out⟩
  ·rw [HCE.out];exact evsl_nil _ _
  ·rw [HCE.out];exact fun h => absurd rfl h
end Go.Proofs.YtbioecifiogffaaGreatDoor
