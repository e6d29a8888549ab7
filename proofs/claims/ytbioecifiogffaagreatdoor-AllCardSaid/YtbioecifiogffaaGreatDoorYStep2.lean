/- proselaw.Side.step: all, or some, events are asked of a side. Conditions: the listed variables read as the text lays them. -/
import Derived.Test.YtbioecifiogffaaGreatDoorYStep
set_option linter.unusedVariables false
set_option linter.unusedSimpArgs false
set_option maxHeartbeats 8000000
set_option maxRecDepth 1000000
namespace Go.Proofs.YtbioecifiogffaaGreatDoor
open Go.RowKit
theorem EvSl.dropA {w : World} {g m c : Nat} {p : Option Addr} {L : List Ev} (h : EvSl w g (.slice p m c) L) (n : Nat) (hn : n ≤ L.length) (hc : ¬ c = n) : EvSl w g (.slice (p.map fun x => x.add (n * 4)) (L.length - n) (c - n)) (L.drop n):=by
 have h0:=h.drop n hn
 rw [if_neg hc] at h0
 by_cases hL : L.drop n = []
 ·have hz : L.length - n = 0:=by have:=congrArg List.length hL;simpa using this
  rw [hL,hz] at h0 ⊢
  obtain ⟨a',cap',off,h1,h2,h3,h4⟩:=h0
  have h5:=h1
  simp only [List.map_nil,List.length_nil,Value.slice.injEq] at h5
  obtain ⟨-,-,h6⟩:=h5
  rw [← h6] at h2 h3
  exact ⟨_,_,off,rfl,h2,h3,fun h => absurd rfl h⟩
 ·obtain ⟨a,cap,h1,h2,h3,h4⟩:=h.form
  cases h1
  obtain ⟨off,rfl⟩:=h4 (fun e => hL (by rw [e];simp))
  have e : (some (⟨g,off,none⟩ : Addr)).map (fun x => x.add (n * 4)) = (some (⟨g,off,none⟩ : Addr)).map (fun a => ⟨a.block,a.off + n * 4,a.spot⟩):=by
   simp [Addr.add_lit]
  rw [e]
  exact h0
theorem step_rest (aL aI aS : Addr) (w0 w : World) (hV : LaidVars aL aI aS w0) (hG : Gl w0) (B g : Nat) (c : ComeL) (R : List Ev) (o : Nat → Prop) (h : Side aL aI aS w0 w B g c R o) (k n : Int) (k1 : k ≠ 1) (k2 : k ≠ 2) (k3 : k ≠ 3) (two : Bool) :
 Calls Tryz.prog 24 #[.pointer (some ⟨B,0,none⟩),.agg #[.int .i64 k,.int .i64 n,.bool two]] w fun e w' => e = .returned (.bool true) ∧ StepS aL aI aS w0 w w' B g c o:=by
 obtain ⟨Q,p,a,cap,hb,hp,hsl,hc1,hc2⟩:=h.opened
 obtain ⟨hBl,hol,hgl⟩:=h.lt
 obtain ⟨W,hW⟩ : ∃ W,w.alloc (.cells #[.int .i64 k,.int .i64 n,.bool two] 62) = W:=⟨_,rfl⟩
 have hFW : Fresh w W:=by rw [← hW];exact (Keeps.refl _ w).alloc _
 have hzW : W.heap.size = w.heap.size + 1:=by rw [← hW];simp
 have hbo : W.heap[w.heap.size]? = some (.cells #[.int .i64 k,.int .i64 n,.bool two] 62 (0,0)):=by rw [← hW];exact heap_alloc_new w _
 have o0 : W.cell? ⟨w.heap.size,0,none⟩ = some (.int .i64 k):=by rw [Lib.cell_of_heap hbo];rfl
 have o1 : W.cell? ⟨w.heap.size,1,none⟩ = some (.int .i64 n):=by rw [Lib.cell_of_heap hbo];rfl
 have hbW:=hFW.heap_some hb (fun h => h)
 obtain ⟨b0,b1,b2,b3,b4,b5⟩:=box7 hbW
 have hpW:=hp.fresh hFW
 have HS:=Lib.hid h
 have HFW:=Lib.hid hFW
 have HBW:=Lib.hid hbW
 have HZ:=Lib.hid hzW
 have HSL:=Lib.hid hsl
 have HBO:=Lib.hid hbo
 have hnb:=h.nb
 have hlen:=h.len
 have hfin : StepS aL aI aS w0 w W B g c o:=StepS.mk h (hFW.mono (fun _ _ h => h.elim)) hbW hpW (fun _ h => .inl h) (fun h => h) (Nat.le_refl _) hsl
 have HFIN:=Lib.hid hfin
 have e1 : (k == 1) = false:=beq_eq_false_iff_ne.2 k1
 have e2 : (k == 2) = false:=beq_eq_false_iff_ne.2 k2
 have e3 : (k == 3) = false:=beq_eq_false_iff_ne.2 k3
 clear hfin h hFW hbW hzW hbo hp hpW hsl hV hG hb HBO HS HFW HBW HZ HSL k1 k2 k3
 go_enter Tryz.func24,Tryz.ntmps24
 go_upto_region 1 with fail
 clear hW
 go_wp2
 go_ret
 exact ⟨rfl,HFIN.out⟩
theorem step_all (aL aI aS : Addr) (w0 w : World) (hV : LaidVars aL aI aS w0) (hG : Gl w0) (B g : Nat) (c : ComeL) (R : List Ev) (o : Nat → Prop) (h : Side aL aI aS w0 w B g c R o) (n : Int) (two : Bool) :
 Calls Tryz.prog 24 #[.pointer (some ⟨B,0,none⟩),.agg #[.int .i64 2,.int .i64 n,.bool two]] w fun e w' => e = .returned (.bool true) ∧ StepS aL aI aS w0 w w' B g c o:=by
 obtain ⟨Q,p,a,cap,hb,hp,hsl,hc1,hc2⟩:=h.opened
 obtain ⟨hBl,hol,hgl⟩:=h.lt
 obtain ⟨W,hW⟩ : ∃ W,w.alloc (.cells #[.int .i64 2,.int .i64 n,.bool two] 62) = W:=⟨_,rfl⟩
 have hFW : Fresh w W:=by rw [← hW];exact (Keeps.refl _ w).alloc _
 have hzW : W.heap.size = w.heap.size + 1:=by rw [← hW];simp
 have hbo : W.heap[w.heap.size]? = some (.cells #[.int .i64 2,.int .i64 n,.bool two] 62 (0,0)):=by rw [← hW];exact heap_alloc_new w _
 have o0 : W.cell? ⟨w.heap.size,0,none⟩ = some (.int .i64 2):=by rw [Lib.cell_of_heap hbo];rfl
 have o1 : W.cell? ⟨w.heap.size,1,none⟩ = some (.int .i64 n):=by rw [Lib.cell_of_heap hbo];rfl
 have hbW:=hFW.heap_some hb (fun h => h)
 obtain ⟨b0,b1,b2,b3,b4,b5⟩:=box7 hbW
 have hpW:=hp.fresh hFW
 have HS:=Lib.hid h
 have HFW:=Lib.hid hFW
 have HBW:=Lib.hid hbW
 have HZ:=Lib.hid hzW
 have HSL:=Lib.hid hsl
 have HBO:=Lib.hid hbo
 have hnb:=h.nb
 have hlen:=h.len
 have hall:=fun (X : World) (hX : Fresh W X) => pl_all (hpW.fresh hX) hV hG n h.len
 have HALL:=Lib.hid hall
 clear hall h hFW hbW hzW hp hpW hsl hV hG hb hbo
 obtain ⟨N,hN⟩ : ∃ N,R.length = N:=⟨_,rfl⟩
 have hslw:=HSL.out
 have hbw:=HBW.out
 have hallw:=HALL.out
 rw [hN] at hc1 b5 hbw hslw hlen hallw
 have HBW:=Lib.hid hbw
 have HSL:=Lib.hid hslw
 have HALL:=Lib.hid hallw
 have HN:=Lib.hid hN
 clear hbw hslw hallw hN
 have hcut : (n < 1 ∧ cutN n N = N) ∨ (¬ n < 1 ∧ (N : Int) < n ∧ cutN n N = N) ∨ (¬ n < 1 ∧ ¬ (N : Int) < n ∧ ∃ m : Nat,n = (m : Int) ∧ m ≤ N ∧ cutN n N = m):=by
  unfold cutN
  by_cases h1 : n < 1
  ·exact .inl ⟨h1,if_pos (.inl h1)⟩
  ·by_cases h2 : (N : Int) < n
   ·exact .inr (.inl ⟨h1,h2,if_pos (.inr h2)⟩)
   ·exact .inr (.inr ⟨h1,h2,n.toNat,by omega,by omega,if_neg (by omega)⟩)
 obtain ⟨C,hC⟩ : ∃ C,cutN n N = C:=⟨_,rfl⟩
 have hCN : C ≤ N:=by rcases hcut with ⟨h1,h2⟩ | ⟨h1,h2,h3⟩ | ⟨h1,h2,m,h3,h4,h5⟩ <;> omega
 rw [hC] at hcut
 have hallw:=HALL.out
 rw [hC] at hallw
 have HALLC:=Lib.hid hallw
 clear hallw hC
 go_enter Tryz.func24,Tryz.ntmps24
 go_upto_region 1 with fail
 clear hW
 go_upto_region 10 with fail
 rcases hcut with ⟨h1,h2⟩ | ⟨h1,h2,h3⟩ | ⟨h1,h2,m,h3,h4,h5⟩
 ·subst h2
  go_upto_region 13 with fail
  refine wp_region_K 11 (fun w' => w'.cell? ⟨B,0,none⟩ = some (.pointer (some ⟨Q,0,none⟩)) ∧ w'.cell? ⟨w.heap.size,1,none⟩ = some (.int .i64 n)) (by kernel_rfl) ?_
  have hHeld : W.drew.cell? ⟨B,0,none⟩ = some (.pointer (some ⟨Q,0,none⟩)) ∧ W.drew.cell? ⟨w.heap.size,1,none⟩ = some (.int .i64 n):=⟨b0,o1⟩
  refine K_is [0,1,2,3,4,5] ?_
  iterate 6 (refine K_yD (v:=?_) rfl rfl (by kernel_rfl) (fun _ _ _ h => h) (by rfl) ?_ (by assumption) ?_;rotate_left;(· intro _ hSw;(obtain ⟨hS0,hS1⟩:=hSw);first | (go_simp;done) | (go_simp;with_reducible rfl));try simp only [List.setIfInBounds_toArray,List.set_cons_zero,List.set_cons_succ])
  refine K_no ?_
  refine K_one (i:=6) (by kernel_rfl) rfl (fun K hK => ?_)
  go_simp
  refine (HALLC.out _ (Keeps.refl _ W).drew).mono ?_
  rintro e w3 ⟨v3,o2,rfl,hE3,hv3,hP3,hM3⟩
  have hno : ¬ o w.heap.size:=fun h => by have:=hol _ h;omega
  refine hK.out _ _ ⟨hM3.1.cell_some hHeld.1 hnb,hM3.1.cell_some hHeld.2 hno⟩ (fun hHeld2 => ?_)
  clear hK K
  try simp only [Act.put,List.setIfInBounds_toArray,List.set_cons_zero,List.set_cons_succ]
  refine K_is [7,8,9,10] ?_
  iterate 4 (refine K_yD (v:=?_) rfl rfl (by kernel_rfl) (fun _ _ _ h => h) (by rfl) ?_ (by assumption) ?_;rotate_left;(· intro _ hSw;(skip);first | (go_simp;done) | (go_simp;with_reducible rfl));try simp only [List.setIfInBounds_toArray,List.set_cons_zero,List.set_cons_succ])
  refine K_no ?_
  refine K_last (by kernel_rfl) rfl (fun K hK => ?_)
  go_simp
  refine hK.out _ _ ?_
  clear hK K
  try simp only [Act.put,List.setIfInBounds_toArray,List.set_cons_zero,List.set_cons_succ]
  refine K_done (by kernel_rfl) ?_ _
  have hMW : Keeps o W w3:=((Keeps.refl (fun _ => False) W).drew.mono (fun _ _ h => h.elim)).tr hM3.1
  have hb3:=hMW.heap_some HBW.out hnb
  obtain ⟨b0,b1,b2,b3,b4,b5⟩:=box7 hb3
  have hkw : Keeps (fun j => o j ∨ j = B) w w3:=(HFW.out.mono (fun _ _ h => h.elim)).tr (hMW.mono (fun _ _ h => .inl h))
  have hsl3 : EvSl w3 g (.slice a C cap) R:=HSL.out.kept hkw (fun hne h => h.elim (HS.out.ng hne).1 (HS.out.ng hne).2.1)
  have hsm:=same_sl v3 _ _ g (R.take C) w3 hE3.sl (hsl3.take C (by rw [HN.out];omega)) (by rw [List.length_take];omega)
  have hoo : ∀ j,o2 j → o j ∨ w.heap.size ≤ j:=fun j hj => by
   rcases hM3.2 j hj with h | h
   ·exact .inl h
   ·have h8:=HZ.out
    have h9 : W.heap.size ≤ j:=h
    exact .inr (by omega)
  have HSM:=Lib.hid hsm
  have HB3:=Lib.hid hb3
  have HKW:=Lib.hid hkw
  have HP3:=Lib.hid hP3
  have HOO:=Lib.hid hoo
  have hCc : (C : Int) ≤ (cap : Int):=by omega
  clear hMW hb3 hkw hsl3 hsm hoo hE3 hv3 hP3 hM3 hHeld hHeld2 hno
  go_upto_region 15 with (go_at_call 37;refine HSM.out.mono ?_;rintro e w5 ⟨rfl,hk5⟩)
  have hb5:=hk5.heap_some HB3.out (fun h => h)
  obtain ⟨b0,b1,b2,b3,b4,b5⟩:=box7 hb5
  have f5 : w5.frozen? ⟨B,5,none⟩ = false:=Lib.frozen_of_heap hb5 5
  have hdr:=HSL.out.drop C (by rw [HN.out];omega)
  have hdr2:=HSL.out.dropA C (by rw [HN.out];omega)
  rw [HN.out] at hdr hdr2
  have HDR2:=Lib.hid hdr2
  clear hdr2
  have hfin : ∀ (lv' : Value) (Y : World),Y = w5.setCell ⟨B,5,none⟩ lv' → EvSl w g lv' (R.drop C) → StepS aL aI aS w0 w Y B g c o:=by
   intro lv' Y hY hl'
   have hbY : Y.heap[B]? = some (.cells #[.pointer (some ⟨Q,0,none⟩),.string ⟨c.text.toArray⟩,.int .i64 c.err,.int .i64 c.n,.int .i64 c.reads,lv',.bool false] 59 (0,0)):=by rw [hY];exact (heap_set hb5 _).trans rfl
   have hkY : Keeps (fun j => j = B) w5 Y:=by rw [hY];exact (Keeps.refl (fun j => j = B) w5).setCell (p:=⟨B,5,none⟩) (fun _ => rfl) _
   have nb2 : ¬ o2 B:=fun h => by
    rcases HOO.out _ h with h | h
    ·exact hnb h
    ·omega
   exact StepS.mk HS.out ((HKW.out.tr (hk5.mono (fun _ _ h => h.elim))).tr (hkY.mono (fun _ _ h => .inr h))) hbY ((HP3.out.fresh hk5).keep hkY (fun j h1 h2 => nb2 (h1 ▸ h2)) (fun j h => by rw [h];exact HS.out.lo)) HOO.out (fun h1 h2 => h1 (by rw [h2];simp)) (by simp) hl'
  have HFIN:=Lib.hid hfin
  have HDR:=Lib.hid hdr
  clear hk5 hb5 hdr hfin HB3 HKW HP3 HOO HN HS HSM
  by_cases hcap : cap = C
  ·have hd:=HDR.out
   rw [if_pos hcap] at hd
   have HD:=Lib.hid hd
   clear hd HDR
   go_wp2
   go_ret
   exact ⟨rfl,HFIN.out _ _ rfl (by simpa [hcap] using HD.out)⟩
  ·have hd:=HDR2.out hcap
   have HD:=Lib.hid hd
   have hc3 : ¬ (cap : Int) = (C : Int):=by omega
   clear hd HDR
   go_wp2
   go_ret
   exact ⟨rfl,HFIN.out _ _ rfl (by simpa [hcap] using HD.out)⟩
 ·subst h3
  go_upto_region 13 with fail
  refine wp_region_K 11 (fun w' => w'.cell? ⟨B,0,none⟩ = some (.pointer (some ⟨Q,0,none⟩)) ∧ w'.cell? ⟨w.heap.size,1,none⟩ = some (.int .i64 n)) (by kernel_rfl) ?_
  have hHeld : W.drew.cell? ⟨B,0,none⟩ = some (.pointer (some ⟨Q,0,none⟩)) ∧ W.drew.cell? ⟨w.heap.size,1,none⟩ = some (.int .i64 n):=⟨b0,o1⟩
  refine K_is [0,1,2,3,4,5] ?_
  iterate 6 (refine K_yD (v:=?_) rfl rfl (by kernel_rfl) (fun _ _ _ h => h) (by rfl) ?_ (by assumption) ?_;rotate_left;(· intro _ hSw;(obtain ⟨hS0,hS1⟩:=hSw);first | (go_simp;done) | (go_simp;with_reducible rfl));try simp only [List.setIfInBounds_toArray,List.set_cons_zero,List.set_cons_succ])
  refine K_no ?_
  refine K_one (i:=6) (by kernel_rfl) rfl (fun K hK => ?_)
  go_simp
  refine (HALLC.out _ (Keeps.refl _ W).drew).mono ?_
  rintro e w3 ⟨v3,o2,rfl,hE3,hv3,hP3,hM3⟩
  have hno : ¬ o w.heap.size:=fun h => by have:=hol _ h;omega
  refine hK.out _ _ ⟨hM3.1.cell_some hHeld.1 hnb,hM3.1.cell_some hHeld.2 hno⟩ (fun hHeld2 => ?_)
  clear hK K
  try simp only [Act.put,List.setIfInBounds_toArray,List.set_cons_zero,List.set_cons_succ]
  refine K_is [7,8,9,10] ?_
  iterate 4 (refine K_yD (v:=?_) rfl rfl (by kernel_rfl) (fun _ _ _ h => h) (by rfl) ?_ (by assumption) ?_;rotate_left;(· intro _ hSw;(skip);first | (go_simp;done) | (go_simp;with_reducible rfl));try simp only [List.setIfInBounds_toArray,List.set_cons_zero,List.set_cons_succ])
  refine K_no ?_
  refine K_last (by kernel_rfl) rfl (fun K hK => ?_)
  go_simp
  refine hK.out _ _ ?_
  clear hK K
  try simp only [Act.put,List.setIfInBounds_toArray,List.set_cons_zero,List.set_cons_succ]
  refine K_done (by kernel_rfl) ?_ _
  have hMW : Keeps o W w3:=((Keeps.refl (fun _ => False) W).drew.mono (fun _ _ h => h.elim)).tr hM3.1
  have hb3:=hMW.heap_some HBW.out hnb
  obtain ⟨b0,b1,b2,b3,b4,b5⟩:=box7 hb3
  have hkw : Keeps (fun j => o j ∨ j = B) w w3:=(HFW.out.mono (fun _ _ h => h.elim)).tr (hMW.mono (fun _ _ h => .inl h))
  have hsl3 : EvSl w3 g (.slice a C cap) R:=HSL.out.kept hkw (fun hne h => h.elim (HS.out.ng hne).1 (HS.out.ng hne).2.1)
  have hsm:=same_sl v3 _ _ g (R.take C) w3 hE3.sl (hsl3.take C (by rw [HN.out];omega)) (by rw [List.length_take];omega)
  have hoo : ∀ j,o2 j → o j ∨ w.heap.size ≤ j:=fun j hj => by
   rcases hM3.2 j hj with h | h
   ·exact .inl h
   ·have h8:=HZ.out
    have h9 : W.heap.size ≤ j:=h
    exact .inr (by omega)
  have HSM:=Lib.hid hsm
  have HB3:=Lib.hid hb3
  have HKW:=Lib.hid hkw
  have HP3:=Lib.hid hP3
  have HOO:=Lib.hid hoo
  have hCc : (C : Int) ≤ (cap : Int):=by omega
  clear hMW hb3 hkw hsl3 hsm hoo hE3 hv3 hP3 hM3 hHeld hHeld2 hno
  go_upto_region 15 with (go_at_call 37;refine HSM.out.mono ?_;rintro e w5 ⟨rfl,hk5⟩)
  have hb5:=hk5.heap_some HB3.out (fun h => h)
  obtain ⟨b0,b1,b2,b3,b4,b5⟩:=box7 hb5
  have f5 : w5.frozen? ⟨B,5,none⟩ = false:=Lib.frozen_of_heap hb5 5
  have hdr:=HSL.out.drop C (by rw [HN.out];omega)
  have hdr2:=HSL.out.dropA C (by rw [HN.out];omega)
  rw [HN.out] at hdr hdr2
  have HDR2:=Lib.hid hdr2
  clear hdr2
  have hfin : ∀ (lv' : Value) (Y : World),Y = w5.setCell ⟨B,5,none⟩ lv' → EvSl w g lv' (R.drop C) → StepS aL aI aS w0 w Y B g c o:=by
   intro lv' Y hY hl'
   have hbY : Y.heap[B]? = some (.cells #[.pointer (some ⟨Q,0,none⟩),.string ⟨c.text.toArray⟩,.int .i64 c.err,.int .i64 c.n,.int .i64 c.reads,lv',.bool false] 59 (0,0)):=by rw [hY];exact (heap_set hb5 _).trans rfl
   have hkY : Keeps (fun j => j = B) w5 Y:=by rw [hY];exact (Keeps.refl (fun j => j = B) w5).setCell (p:=⟨B,5,none⟩) (fun _ => rfl) _
   have nb2 : ¬ o2 B:=fun h => by
    rcases HOO.out _ h with h | h
    ·exact hnb h
    ·omega
   exact StepS.mk HS.out ((HKW.out.tr (hk5.mono (fun _ _ h => h.elim))).tr (hkY.mono (fun _ _ h => .inr h))) hbY ((HP3.out.fresh hk5).keep hkY (fun j h1 h2 => nb2 (h1 ▸ h2)) (fun j h => by rw [h];exact HS.out.lo)) HOO.out (fun h1 h2 => h1 (by rw [h2];simp)) (by simp) hl'
  have HFIN:=Lib.hid hfin
  have HDR:=Lib.hid hdr
  clear hk5 hb5 hdr hfin HB3 HKW HP3 HOO HN HS HSM
  by_cases hcap : cap = C
  ·have hd:=HDR.out
   rw [if_pos hcap] at hd
   have HD:=Lib.hid hd
   clear hd HDR
   go_wp2
   go_ret
   exact ⟨rfl,HFIN.out _ _ rfl (by simpa [hcap] using HD.out)⟩
  ·have hd:=HDR2.out hcap
   have HD:=Lib.hid hd
   have hc3 : ¬ (cap : Int) = (C : Int):=by omega
   clear hd HDR
   go_wp2
   go_ret
   exact ⟨rfl,HFIN.out _ _ rfl (by simpa [hcap] using HD.out)⟩
 ·subst h5
  subst h3
  go_upto_region 13 with fail
  refine wp_region_K 11 (fun w' => w'.cell? ⟨B,0,none⟩ = some (.pointer (some ⟨Q,0,none⟩)) ∧ w'.cell? ⟨w.heap.size,1,none⟩ = some (.int .i64 (C : Int))) (by kernel_rfl) ?_
  have hHeld : W.drew.cell? ⟨B,0,none⟩ = some (.pointer (some ⟨Q,0,none⟩)) ∧ W.drew.cell? ⟨w.heap.size,1,none⟩ = some (.int .i64 (C : Int)):=⟨b0,o1⟩
  refine K_is [0,1,2,3,4,5] ?_
  iterate 6 (refine K_yD (v:=?_) rfl rfl (by kernel_rfl) (fun _ _ _ h => h) (by rfl) ?_ (by assumption) ?_;rotate_left;(· intro _ hSw;(obtain ⟨hS0,hS1⟩:=hSw);first | (go_simp;done) | (go_simp;with_reducible rfl));try simp only [List.setIfInBounds_toArray,List.set_cons_zero,List.set_cons_succ])
  refine K_no ?_
  refine K_one (i:=6) (by kernel_rfl) rfl (fun K hK => ?_)
  go_simp
  refine (HALLC.out _ (Keeps.refl _ W).drew).mono ?_
  rintro e w3 ⟨v3,o2,rfl,hE3,hv3,hP3,hM3⟩
  have hno : ¬ o w.heap.size:=fun h => by have:=hol _ h;omega
  refine hK.out _ _ ⟨hM3.1.cell_some hHeld.1 hnb,hM3.1.cell_some hHeld.2 hno⟩ (fun hHeld2 => ?_)
  clear hK K
  try simp only [Act.put,List.setIfInBounds_toArray,List.set_cons_zero,List.set_cons_succ]
  refine K_is [7,8,9,10] ?_
  iterate 4 (refine K_yD (v:=?_) rfl rfl (by kernel_rfl) (fun _ _ _ h => h) (by rfl) ?_ (by assumption) ?_;rotate_left;(· intro _ hSw;(skip);first | (go_simp;done) | (go_simp;with_reducible rfl));try simp only [List.setIfInBounds_toArray,List.set_cons_zero,List.set_cons_succ])
  refine K_no ?_
  refine K_last (by kernel_rfl) rfl (fun K hK => ?_)
  go_simp
  refine hK.out _ _ ?_
  clear hK K
  try simp only [Act.put,List.setIfInBounds_toArray,List.set_cons_zero,List.set_cons_succ]
  refine K_done (by kernel_rfl) ?_ _
  have hMW : Keeps o W w3:=((Keeps.refl (fun _ => False) W).drew.mono (fun _ _ h => h.elim)).tr hM3.1
  have hb3:=hMW.heap_some HBW.out hnb
  obtain ⟨b0,b1,b2,b3,b4,b5⟩:=box7 hb3
  have hkw : Keeps (fun j => o j ∨ j = B) w w3:=(HFW.out.mono (fun _ _ h => h.elim)).tr (hMW.mono (fun _ _ h => .inl h))
  have hsl3 : EvSl w3 g (.slice a N cap) R:=HSL.out.kept hkw (fun hne h => h.elim (HS.out.ng hne).1 (HS.out.ng hne).2.1)
  have hsm:=same_sl v3 _ _ g (R.take C) w3 hE3.sl (hsl3.take C (by rw [HN.out];omega)) (by rw [List.length_take];omega)
  have hoo : ∀ j,o2 j → o j ∨ w.heap.size ≤ j:=fun j hj => by
   rcases hM3.2 j hj with h | h
   ·exact .inl h
   ·have h8:=HZ.out
    have h9 : W.heap.size ≤ j:=h
    exact .inr (by omega)
  have HSM:=Lib.hid hsm
  have HB3:=Lib.hid hb3
  have HKW:=Lib.hid hkw
  have HP3:=Lib.hid hP3
  have HOO:=Lib.hid hoo
  have hCc : (C : Int) ≤ (cap : Int):=by omega
  clear hMW hb3 hkw hsl3 hsm hoo hE3 hv3 hP3 hM3 hHeld hHeld2 hno
  go_upto_region 15 with (go_at_call 37;refine HSM.out.mono ?_;rintro e w5 ⟨rfl,hk5⟩)
  have hb5:=hk5.heap_some HB3.out (fun h => h)
  obtain ⟨b0,b1,b2,b3,b4,b5⟩:=box7 hb5
  have f5 : w5.frozen? ⟨B,5,none⟩ = false:=Lib.frozen_of_heap hb5 5
  have hdr:=HSL.out.drop C (by rw [HN.out];omega)
  have hdr2:=HSL.out.dropA C (by rw [HN.out];omega)
  rw [HN.out] at hdr hdr2
  have HDR2:=Lib.hid hdr2
  clear hdr2
  have hfin : ∀ (lv' : Value) (Y : World),Y = w5.setCell ⟨B,5,none⟩ lv' → EvSl w g lv' (R.drop C) → StepS aL aI aS w0 w Y B g c o:=by
   intro lv' Y hY hl'
   have hbY : Y.heap[B]? = some (.cells #[.pointer (some ⟨Q,0,none⟩),.string ⟨c.text.toArray⟩,.int .i64 c.err,.int .i64 c.n,.int .i64 c.reads,lv',.bool false] 59 (0,0)):=by rw [hY];exact (heap_set hb5 _).trans rfl
   have hkY : Keeps (fun j => j = B) w5 Y:=by rw [hY];exact (Keeps.refl (fun j => j = B) w5).setCell (p:=⟨B,5,none⟩) (fun _ => rfl) _
   have nb2 : ¬ o2 B:=fun h => by
    rcases HOO.out _ h with h | h
    ·exact hnb h
    ·omega
   exact StepS.mk HS.out ((HKW.out.tr (hk5.mono (fun _ _ h => h.elim))).tr (hkY.mono (fun _ _ h => .inr h))) hbY ((HP3.out.fresh hk5).keep hkY (fun j h1 h2 => nb2 (h1 ▸ h2)) (fun j h => by rw [h];exact HS.out.lo)) HOO.out (fun h1 h2 => h1 (by rw [h2];simp)) (by simp) hl'
  have HFIN:=Lib.hid hfin
  have HDR:=Lib.hid hdr
  clear hk5 hb5 hdr hfin HB3 HKW HP3 HOO HN HS HSM
  by_cases hcap : cap = C
  ·have hd:=HDR.out
   rw [if_pos hcap] at hd
   have HD:=Lib.hid hd
   clear hd HDR
   go_wp2
   go_ret
   exact ⟨rfl,HFIN.out _ _ rfl (by simpa [hcap] using HD.out)⟩
  ·have hd:=HDR2.out hcap
   have HD:=Lib.hid hd
   have hc3 : ¬ (cap : Int) = (C : Int):=by omega
   clear hd HDR
   go_wp2
   go_ret
   exact ⟨rfl,HFIN.out _ _ rfl (by simpa [hcap] using HD.out)⟩
end Go.Proofs.YtbioecifiogffaaGreatDoor
