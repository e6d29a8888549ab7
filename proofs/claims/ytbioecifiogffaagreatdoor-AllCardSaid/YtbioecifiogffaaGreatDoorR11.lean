/- Texts of this proof, joined: Args, Write, Html, Keep1. Conditions: as each theorem names them. -/
import Derived.Test.YtbioecifiogffaaGreatDoorR1
import Derived.Test.YtbioecifiogffaaGreatDoorR3
import Derived.Test.YtbioecifiogffaaGreatDoorR4
import Derived.Test.YtbioecifiogffaaGreatDoorR10
import Derived.Test.YtbioecifiogffaaGreatDoorR8
import Derived.Test.YtbioecifiogffaaGreatDoorR2
import Derived.ProofKit
import Derived.LaidMore
import Derived.OpenShut
import Derived.Lib.SmallJoins
import Derived.Shelf.Vars
import Derived.ChangeMaps5
import Derived.Deep.CutBlock
import Derived.Deep.DeepCutAuto
set_option linter.unusedVariables false
set_option linter.unusedSimpArgs false
set_option maxHeartbeats 8000000
set_option maxRecDepth 1000000
namespace Go.Proofs.YtbioecifiogffaaGreatDoor
open Go.ChangeShapes Go.WideShapes Go.ChangeAt Go.RowKit Go.Joins
end Go.Proofs.YtbioecifiogffaaGreatDoor
namespace Go.Proofs.YtbioecifiogffaaGreatDoor
open Go.RowKit
attribute [local go_sem] Oper.semAt_some wide_depth wide_fn
def sEnd (c : ComeL) (s0 : Option Snk) : Option Snk := if c.err = 0 then (flush (pageF c.text) 0 s0).2.2 else s0
def wrO (c : ComeL) (s0 : Option Snk) : WrL := wrOf c (snk0 [] 0 0 0) (flush (pageF c.text) 0 s0)
def WrRes (aL aI aS : Addr) (c : ComeL) (S : Nat) (tv : Value) (s0 : Option Snk) (e : Ending) (w' : World) : Prop :=
 ∃ ev, e = .returned (.tuple #[.int .i64 (wrO c s0).count, ev]) ∧ ErrIs aL aI aS w' ev (wrO c s0).err (wrO c s0).n ∧ ∀ sk, sEnd c s0 = some sk → ∃ gv, SnkAt w' S tv gv sk
theorem wr_bad {c : ComeL} {s0 : Option Snk} (h : c.err ≠ 0) : (wrO c s0).count = 0 ∧ (wrO c s0).err = c.err ∧ (wrO c s0).n = c.n ∧ sEnd c s0 = s0 := by
 unfold wrO wrOf sEnd
 rw [if_neg h, if_neg h]
 exact ⟨rfl, rfl, rfl, rfl⟩
theorem page_puts (s0 : Option Snk) (t : List UInt8) : flush (pageF t) 0 s0 = puts ((evsF t).map htm) [] 0 s0 := by
 rw [puts_flush]
 simp [pageF, htms, List.flatMap]
theorem wr_good {c : ComeL} {s0 : Option Snk} (h : c.err = 0) : (wrO c s0).count = (flush (pageF c.text) 0 s0).2.1 ∧ (wrO c s0).err = wErr (flush (pageF c.text) 0 s0).1 ∧ (wrO c s0).n = (if (flush (pageF c.text) 0 s0).1 = .fine then 0 else (flush (pageF c.text) 0 s0).2.1) ∧ sEnd c s0 = (flush (pageF c.text) 0 s0).2.2 := by
 unfold wrO wrOf sEnd
 rw [if_pos h, if_pos h]
 exact ⟨rfl, rfl, rfl, rfl⟩
theorem wr_stop {c : ComeL} {s0 : Option Snk} {pre rest : List Ev} (h : pre ++ rest = evsF c.text) (hf : (wsT s0 pre).1 ≠ .fine) : flush (pageF c.text) 0 s0 = ((wsT s0 pre).1, (wsT s0 pre).2.2) := by
 rw [page_puts, ← h, List.map_append, puts_wst]
 exact if_neg hf
theorem wr_all {c : ComeL} {s0 : Option Snk} (hf : (wsT s0 (evsF c.text)).1 = .fine) : flush (pageF c.text) 0 s0 = fin (drain 1 (wsT s0 (evsF c.text)).2.1.length (wsT s0 (evsF c.text)).2.1 (wsT s0 (evsF c.text)).2.2.1 (wsT s0 (evsF c.text)).2.2.2) := by
 have := puts_wst ((evsF c.text).map htm) [] [] 0 s0
 rw [List.append_nil] at this
 rw [page_puts, this]
 exact if_pos hf
theorem Write_any (aL aI aS : Addr) (w0 w : World) (hF : Fresh w0 w) (hV : LaidVars aL aI aS w0) (hG : Gl w0) (fv : Value) (b : Nat) (c : ComeL) (G : Nat → Prop) (hfv : fv = .nilIface ∨ ∃ t x, fv = .iface t x)
 (hc : (c.err = 0 ∨ c.err = 1 ∨ c.err = 2 ∨ c.err = 4) ∧ c.text.length ≤ 1200) (hb : w0.heap.size ≤ b ∧ b < w.heap.size) (hb4 : w.cell? ⟨b, 4, none⟩ = some (.int .i64 0)) (hGo : ∀ j, G j → w0.heap.size ≤ j ∧ j < w.heap.size)
 (hs : ∀ (P : Nat) (o : Nat → Prop), w.heap.size ≤ P → (∀ j, G j → o j) → SrcS w P b fv c o)
 (S : Nat) (tv : Value) (s0 : Option Snk) (hq : SnkQ 0 s0) (hsk : ∀ sk, s0 = some sk → SnkAt w S tv (.slice none 0 0) sk ∧ sk.none = false ∧ IntsAt w0 tv sk.takes ∧ sk.takes.length ≤ 1048576 ∧ w0.heap.size ≤ S ∧ S < w.heap.size ∧ S ≠ b ∧ ¬ G S) :
 Calls Tryz.prog 29 #[fv, toV S s0] w fun e w' => WrRes aL aI aS c S tv s0 e w' ∧ w'.cell? ⟨b, 4, none⟩ = some (.int .i64 c.reads) ∧ Keeps (fun j => j = b ∨ G j ∨ (s0 ≠ none ∧ j = S)) w w' := by
 obtain ⟨W, hW⟩ : ∃ W, (w.alloc (.cells #[.int .i64 0] 3)).alloc (.cells #[.nilIface] 75) = W := ⟨_, rfl⟩
 have hFW : Fresh w W := by rw [← hW]; exact ((Keeps.refl _ w).alloc _).alloc _
 have hzW : W.heap.size = w.heap.size + 1 + 1 := by rw [← hW]; simp
 have hr0 : W.heap[w.heap.size]? = some (.cells #[.int .i64 0] 3 (0, 0)) := by rw [← hW]; exact (Below.heap_alloc _ _ _ (by simp)).trans (heap_alloc_new w _)
 have hr1 : W.heap[w.heap.size + 1]? = some (.cells #[.nilIface] 75 (0, 0)) := by rw [← hW]; exact heap_alloc2_new w _ _
 have hpn := pNew_any fv W hfv
 have hs0 := hF.size
 have HPN := Lib.hid hpn
 have HFW := Lib.hid hFW
 have HR0 := Lib.hid hr0
 have HR1 := Lib.hid hr1
 have HF := Lib.hid hF
 have HV := Lib.hid hV
 have HG := Lib.hid hG
 have HC := Lib.hid hc
 have HGO := Lib.hid hGo
 have HS := Lib.hid hs
 have HSK := Lib.hid hsk
 have HQ := Lib.hid hq
 have HB4 := Lib.hid hb4
 have HZ := Lib.hid hzW
 clear hzW hpn hFW hr0 hr1 hF hV hG hc hGo hs hsk hq hb4 hfv
 refine calls_marks Tryz.func29 rfl ?_
 simp only [Tryz.ntmps29, List.size_toArray, List.length_cons, List.length_nil, Nat.reduceAdd, Nat.reduceSub, Array.replicate_succ, Array.replicate_zero, List.push_toArray, List.append_toArray, List.nil_append, List.cons_append]
 go_upto_region 1 with fail
 clear hW
 go_wp2_with fail
 refine HPN.out.mono ?_
 rintro e w4 ⟨rfl, hP4, hm4, hk4, hz4⟩
 have hpar := par_new (aL := aL) (aI := aI) (aS := aS) (c := c) (G := G) (HF.out.tr HFW.out) hP4 hm4 hk4 hz4 ⟨hb.1, by have := HZ.out; omega⟩ HC.out (HFW.out.cell_some HB4.out (fun h => h)) (fun j hj => ⟨(HGO.out j hj).1, by have := (HGO.out j hj).2; have := HZ.out; omega⟩)
  (fun o ho => (HS.out _ o (by have := HZ.out; omega) ho).kept HFW.out (fun h => h) (fun _ h => h.elim))
 have hor0 : ∀ j, (j = W.heap.size + 1 ∨ j = W.heap.size ∨ j = b ∨ G j) → j ≠ w.heap.size ∧ j ≠ w.heap.size + 1 ∧ (j < w.heap.size → j = b ∨ G j) := fun j hj => by
  have := HZ.out
  rcases hj with h | h | h | h
  ·omega
  ·omega
  ·exact ⟨by omega, by omega, fun _ => .inl h⟩
  ·have := (HGO.out j h).2; exact ⟨by omega, by omega, fun _ => .inr h⟩
 have hpe := par_err hpar HV.out HG.out
 have HPE := Lib.hid hpe
 have HK4 := Lib.hid hk4
 have HOR := Lib.hid hor0
 have hr04 := hk4.heap_some HR0.out (fun h => h)
 have hr14 := hk4.heap_some HR1.out (fun h => h)
 have HR04 := Lib.hid hr04
 have HR14 := Lib.hid hr14
 have hkb := (HFW.out.tr hk4).cell_some HB4.out (fun h => h)
 clear hpe hpar hP4 hm4 hk4 hor0 hr04 hr14
 go_wp2_with fail
 refine HPE.out.mono ?_
 rintro e w5 ⟨v, o5, rfl, hE5, hp5, hm5⟩
 have hr05 := hm5.heap HR04.out (fun h => (HOR.out _ h).1 rfl)
 have hr15 := hm5.heap HR14.out (fun h => (HOR.out _ h).2.1 rfl)
 have hs5 := hm5.1.size
 have hsz5 : w.heap.size + 2 < w5.heap.size := by have := HZ.out; omega
 have ho5 : ∀ j, o5 j → j ≠ w.heap.size ∧ j ≠ w.heap.size + 1 ∧ (j < w.heap.size → j = b ∨ G j) := fun j hj => by
  rcases hm5.2 j hj with h | h
  ·exact HOR.out j h
  ·exact ⟨by have := HZ.out; omega, by have := HZ.out; omega, fun h => by have := HZ.out; omega⟩
 have hk05 : Keeps (fun j => j = b ∨ G j) w w5 := ((HFW.out.tr HK4.out).mono (fun _ _ h => h.elim)).trans hm5.1 (fun j h1 h2 => (HOR.out j h2).2.2 h1)
 by_cases hce : c.err = 0
 ·-- the text has come
  have hv : v = .nilIface := by
   rcases hE5.three with ⟨-, -, h⟩ | ⟨h, -⟩
   ·exact h
   ·exact absurd hce h
  subst hv
  have n1 := neErr0
  have hT : comeE c = evsF c.text := by unfold comeE; rw [if_pos hce]
  rw [hT] at hp5
  obtain ⟨W6, hW6⟩ : ∃ W6, (w5.alloc (.cells #[toV S s0, .slice none 0 0, .int .i64 0] 151)).alloc (.cells #[.pointer (some ⟨w5.heap.size, 0, none⟩)] 109) = W6 := ⟨_, rfl⟩
  have hF6 : Fresh w5 W6 := by rw [← hW6]; exact ((Keeps.refl _ w5).alloc _).alloc _
  have hz6 : W6.heap.size = w5.heap.size + 2 := by rw [← hW6]; simp
  have hC6 : W6.heap[w5.heap.size]? = some (.cells #[toV S s0, .slice none 0 0, .int .i64 0] 151 (0, 0)) := by rw [← hW6]; exact (Below.heap_alloc _ _ _ (by simp)).trans (heap_alloc_new w5 _)
  have hB6 : W6.heap[w5.heap.size + 1]? = some (.cells #[.pointer (some ⟨w5.heap.size, 0, none⟩)] 109 (0, 0)) := by rw [← hW6]; exact heap_alloc2_new w5 _ _
  have hpa := pAll_any (W.heap.size + 1) W6
  have hnw := hNew_any S s0 w5
  have HPA := Lib.hid hpa
  have HNW := Lib.hid hnw
  have HF6 := Lib.hid hF6
  have HZ6 := Lib.hid hz6
  have HC6 := Lib.hid hC6
  have HB6 := Lib.hid hB6
  have HP5 := Lib.hid hp5
  have HR05 := Lib.hid hr05
  have HR15 := Lib.hid hr15
  have HO5 := Lib.hid ho5
  have HK05 := Lib.hid hk05
  have HCE := Lib.hid hce
  clear hpa hnw hF6 hz6 hC6 hB6 hp5 hr05 hr15 ho5 hk05 hE5 hm5 hT hce
  go_upto_region 6 with (go_at_call 46; refine HNW.out.mono ?_; rintro e w6 ⟨rfl, rfl⟩)
  clear hW6
  go_wp2_with (go_at_call 47; refine HPA.out.mono ?_; rintro e w7 ⟨rfl, hbp7, hk7, hz7⟩)
  have hR07 := hk7.heap_some (HF6.out.heap_some HR05.out (fun h => h)) (fun h => h)
  have hR17 := hk7.heap_some (HF6.out.heap_some HR15.out (fun h => h)) (fun h => h)
  have hC7 := hk7.heap_some HC6.out (fun h => h)
  have hB7 := hk7.heap_some HB6.out (fun h => h)
  have hp7 := (HP5.out.fresh HF6.out).fresh hk7
  have hk07 := HK05.out.tr ((HF6.out.tr hk7).mono (fun _ _ h => h.elim))
  have hsz7 : w7.heap.size = w5.heap.size + 3 := by have := HZ6.out; omega
  have HR07 := Lib.hid hR07
  have HR17 := Lib.hid hR17
  have HC7 := Lib.hid hC7
  have HB7 := Lib.hid hB7
  have HP7 := Lib.hid hp7
  have HK07 := Lib.hid hk07
  have HBP7 := Lib.hid hbp7
  have HSZ7 := Lib.hid hsz7
  clear hR07 hR17 hC7 hB7 hp7 hk07 hk7 hz7 hsz7 hbp7
  refine wp_range (gf := 74) (caps := #[.pointer (some ⟨W6.heap.size, 0, none⟩)]) rfl (enters_of Tryz.func74 (by kernel_rfl) rfl) ?_
  intro fn W8 hF8 hz8 hD8 hl8
  obtain ⟨rec, hl8, hrec⟩ : ∃ rec : Loop, W8.heap[w7.heap.size + 1]? = some (.loop rec) ∧ rec = _ := ⟨_, hl8, rfl⟩
  have hcall : ∀ (x : Ev) (w' : World) (L : List Ev) (o : Nat → Prop) (Rp : Ending → World → Prop), (∀ (w'' : World) (go : Bool) (o' : Nat → Prop), Mv o o' w' w'' → (go = true → WJ w0 S w5.heap.size (w5.heap.size + 1) (w7.heap.size + 1) w7.heap.size w.heap.size (w.heap.size + 1) tv rec s0 w'' (L ++ [x]) o') → (go = false → WX aS w0 S w5.heap.size (w5.heap.size + 1) (w7.heap.size + 1) w7.heap.size w.heap.size (w.heap.size + 1) tv rec s0 w'' (L ++ [x]) o') → Rp (.returned (.bool go)) w'') →
   WJ w0 S w5.heap.size (w5.heap.size + 1) (w7.heap.size + 1) w7.heap.size w.heap.size (w.heap.size + 1) tv rec s0 w' L o → (∃ rest, L ++ x :: rest = evsF c.text) → YieldAt Fence.wide 0 Tryz.prog (w7.heap.size + 1) #[evV x] w' Rp := by
   intro x w8 L o Rp hRp hJ hpre
   obtain ⟨hfi, hA, oj, hws, ho, hdj⟩ := hJ
   obtain ⟨bz, hbz⟩ : ∃ bz : Loop, { rec with state := .busy } = bz := ⟨_, rfl⟩
   have q1 := congrArg Loop.assign hrec
   have q2 := congrArg Loop.body hrec
   have q3 := congrArg Loop.params hrec
   have q4 := congrArg Loop.tmps hrec
   simp only at q1 q2 q3 q4
   refine yield_round' bz hA.l (by rw [hrec]) (by rw [hrec]; rfl) q1 q2 hbz (by rw [q3, q4]) ?_
   clear q1 q2 q3 q4
   have HREC := Lib.hid hrec
   have HA := Lib.hid hA
   have HWS := Lib.hid hws
   have HOO := Lib.hid ho
   have HDJ := Lib.hid hdj
   have HFI := Lib.hid hfi
   have HPRE := Lib.hid hpre
   have HRP := Lib.hid hRp
   have HBZ := Lib.hid hbz
   clear hA hws ho hdj hfi hpre hrec hRp hbz
   simp only [List.zip_toArray, List.zip_cons_cons, List.zip_nil_right, List.foldl_toArray, List.foldl_cons, List.foldl_nil, List.setIfInBounds_toArray, List.set_cons_zero, List.set_cons_succ]
   unfold evV
   gi_wp2
   obtain ⟨rest, hpre⟩ := HPRE.out
   obtain ⟨fe, bs, n, s, hst⟩ : ∃ fe bs n s, wsT s0 L = (fe, bs, n, s) := ⟨_, _, _, _, rfl⟩
   have hfe : fe = .fine := by have := HFI.out; rw [hst] at this; exact this
   subst hfe
   have hws8 := HWS.out
   have hbd := wsT_bd HQ.out HFI.out
   have hsn := wsT_snoc HFI.out x
   rw [hst] at hws8 hbd hsn
   simp only at hws8 hbd hsn
   have hle := htms_le hpre
   have hpg : (htms (evsF c.text)).length ≤ 40000000 := pageF_len c.text HC.out.2
   have hbl : n + (bs ++ htm x).length ≤ 1073741824 := by rw [List.length_append]; omega
   have hxm : x ∈ evsF c.text := by rw [← hpre]; simp
   have htx := fun (X : World) (hX : Gl X) => hText_any x (c.text.length + 1) X (evsF_good c.text x hxm) (by have := HC.out.2; omega) hX
   have hput : ∀ X, WS w0 S w5.heap.size tv X bs n s oj → Calls Tryz.prog 48 #[.pointer (some ⟨w5.heap.size, 0, none⟩), .string ⟨(htm x).toArray⟩] X (OfferOK aS w0 S w5.heap.size tv oj X (wsT s0 (L ++ [x]))) := fun X hX => by
    rw [hsn]
    exact Put_any aS w0 S w5.heap.size tv bs ⟨(htm x).toArray⟩ n s oj X hX HV.out.sink hbl (snkP_of hbd.1 hbl)
   obtain ⟨R, hR⟩ : ∃ R, wsT s0 (L ++ [x]) = R := ⟨_, rfl⟩
   rw [hR] at hput
   have hlt := HA.out.lt
   have hl8' := hlt _ (.inr (.inl rfl))
   refine ⟨(Below.heap_alloc _ _ _ hl8').trans HA.out.l, ?_⟩
   obtain ⟨W2, hW2⟩ : ∃ W2, (w8.alloc (.cells #[.int .i64 x.kind, .bool x.fin, .int .i64 x.level, .string ⟨x.text.toArray⟩] 97)).putObj (w7.heap.size + 1) (.loop bz) = W2 := ⟨_, rfl⟩
   rw [hW2]
   have hk2 : Keeps (fun j => j = w7.heap.size + 1) w8 W2 := by rw [← hW2]; exact (((Keeps.refl (fun j => j = w7.heap.size + 1) w8).alloc _).trans (putObj_keeps _ _ _) (fun _ _ h => h))
   have hl2 : W2.heap[w7.heap.size + 1]? = some (.loop bz) := by rw [← hW2]; exact World.putObj_heap_same (by simp; omega)
   have he2 : W2.heap[w8.heap.size]? = some (.cells #[.int .i64 x.kind, .bool x.fin, .int .i64 x.level, .string ⟨x.text.toArray⟩] 97 (0, 0)) := by rw [← hW2]; exact (World.putObj_heap_other (by omega)).trans (heap_alloc_new w8 _)
   have hne := HA.out.ne
   have hb2 := hk2.heap_some HA.out.bw hne.1
   have hws2 := hws8.keep hk2 (fun b h1 h2 => HDJ.out b h2 (.inr (.inl h1))) (fun b h1 => by have := HSZ7.out; omega)
   have cw2 : W2.cell? ⟨w5.heap.size + 1, 0, none⟩ = some (.pointer (some ⟨w5.heap.size, 0, none⟩)) := by rw [Lib.cell_of_heap hb2]; rfl
   have e0 : W2.cell? ⟨w8.heap.size, 0, none⟩ = some (.int .i64 x.kind) := by rw [Lib.cell_of_heap he2]; rfl
   have e1 : W2.cell? ⟨w8.heap.size, 1, none⟩ = some (.bool x.fin) := by rw [Lib.cell_of_heap he2]; rfl
   have e2 : W2.cell? ⟨w8.heap.size, 2, none⟩ = some (.int .i64 x.level) := by rw [Lib.cell_of_heap he2]; rfl
   have e3 : W2.cell? ⟨w8.heap.size, 3, none⟩ = some (.string ⟨x.text.toArray⟩) := by rw [Lib.cell_of_heap he2]; rfl
   have htx2 := htx W2.drew (HG.out.fresh (hws2.fr.1.drew))
   have hput2 : ∀ X, Fresh W2.drew X → _ := fun X hX => hput X (hws2.keep ((Keeps.refl (fun _ => False) W2).drew.tr hX) (fun _ h => h.elim) (fun _ h => h.elim))
   unfold evV at htx2
   have hmx : Tryz.prog.follows .mixedOrders = true := by kernel_rfl
   have HTX := Lib.hid htx2
   have HPUT := Lib.hid hput2
   have HK2 := Lib.hid hk2
   have HL2 := Lib.hid hl2
   have HWS2 := Lib.hid hws2
   have HR := Lib.hid hR
   have HNE := Lib.hid hne
   clear htx htx2 hput hput2 hk2 hl2 hws2 hws8 hR hne hW2 he2 hb2 hsn hbd hst
   gi_wp2
   gi_region_with_o (first
     | (gi_at_call 49; refine CallsIn.inRound _ ((callsIn_wide.2 HTX.out).mono ?_); rintro e w3 ⟨rfl, hk3⟩; have cw3 := hk3.cell_some (w := W2.drew) cw2 (fun h => h); have HPUT3 := Lib.hid (HPUT.out _ hk3))
     | (gi_at_call 48; refine CallsIn.inRound _ ((callsIn_wide.2 HPUT3.out).mono ?_); rintro e w4 ⟨ev, o4, rfl, hev, hws4, hm4⟩))
   all_goals
    have hF3 : Fresh W2 w3 := (Keeps.refl (fun _ => False) W2).drew.tr hk3
    have hno : ∀ k, WO (w5.heap.size + 1) (w7.heap.size + 1) w7.heap.size w.heap.size (w.heap.size + 1) k → ¬ oj k := fun k h1 h2 => HDJ.out k h2 h1
    have hpass : ∀ (k : Nat) (ob : Obj), WO (w5.heap.size + 1) (w7.heap.size + 1) w7.heap.size w.heap.size (w.heap.size + 1) k → k ≠ w7.heap.size + 1 → w8.heap[k]? = some ob → w4.heap[k]? = some ob := fun k ob h1 h2 h3 => hm4.heap (hF3.heap_some (HK2.out.heap_some h3 h2) (fun h => h)) (hno k h1)
    obtain ⟨n1', n2', n3', n4', n5', n6', n7', n8', n9', n10'⟩ := HNE.out
    have hb4' := hpass _ _ (.inl rfl) n1' HA.out.bw
    have hd4 := hpass _ _ (.inr (.inr (.inl rfl))) (fun h => n2' h.symm) HA.out.d
    have hr04 := hpass _ _ (.inr (.inr (.inr (.inl rfl)))) n3' HA.out.r0
    have hr14 := hpass _ _ (.inr (.inr (.inr (.inr rfl)))) n4' HA.out.r1
    have hl4 := hm4.heap (hF3.heap_some HL2.out (fun h => h)) (hno _ (.inr (.inl rfl)))
    have hs28 : w8.heap.size ≤ w3.heap.size := Nat.le_trans HK2.out.size hF3.size
    have hkA : Keeps o w8 w4 := ((HK2.out.mono (fun j _ h => (HOO.out j).2 (.inr (.inr (.inl h))))).trans hF3 (fun _ _ h => h.elim)).trans hm4.1 (fun j _ h => (HOO.out j).2 (.inl h))
    have hnw : ∀ j, (o4 j ∨ WO (w5.heap.size + 1) (w7.heap.size + 1) w7.heap.size w.heap.size (w.heap.size + 1) j) → o j ∨ w8.heap.size ≤ j := fun j hj => by
     rcases hj with h | h
     ·rcases hm4.2 j h with h | h
      ·exact .inl ((HOO.out j).2 (.inl h))
      ·exact .inr (by omega)
     ·exact .inl ((HOO.out j).2 (.inr h))
    have hd4' : ∀ j, o4 j → ¬ WO (w5.heap.size + 1) (w7.heap.size + 1) w7.heap.size w.heap.size (w.heap.size + 1) j := fun j h1 h2 => by
     rcases hm4.2 j h1 with h | h
     ·exact hno j h2 h
     ·have := hlt j h2; omega
    have cb4 : w4.cell? ⟨w5.heap.size + 1, 0, none⟩ = some (.pointer (some ⟨w5.heap.size, 0, none⟩)) := by rw [Lib.cell_of_heap hb4']; rfl
    have hcnt := hws4.count
    by_cases hfi : R.1 = .fine
    ·rw [hfi] at hev
     have hev2 : ev = .nilIface := hev
     subst hev2
     have HL4 := Lib.hid hl4
     have HD4 := Lib.hid hd4
     have HR04' := Lib.hid hr04
     have HR14' := Lib.hid hr14
     have HB4' := Lib.hid hb4'
     have HWS4 := Lib.hid hws4
     have HKA := Lib.hid hkA
     have HNW' := Lib.hid hnw
     have HD4'' := Lib.hid hd4'
     have HFI2 := Lib.hid hfi
     clear hl4 hd4 hr04 hr14 hb4' hws4 hkA hnw hd4' hno hpass hm4 hF3 hk3 hev hfi
     gi_wp2
     refine ⟨by rw [show ({ rec with state := .busy } : Loop) = bz from HBZ.out]; exact HL4.out, ?_⟩
     have hre : ({ rec with state := .ready, pending := none } : Loop) = rec := by rw [HREC.out]
     rw [hre]
     have hkp := putObj_keeps w4 (w7.heap.size + 1) (.loop rec)
     refine HRP.out _ true (fun j => o4 j ∨ WO (w5.heap.size + 1) (w7.heap.size + 1) w7.heap.size w.heap.size (w.heap.size + 1) j) ⟨HKA.out.trans hkp (fun j _ h => (HOO.out j).2 (.inr (.inr (.inl h)))), HNW'.out⟩ (fun _ => ?_) (fun h => by cases h)
     have hll : w7.heap.size + 1 < w4.heap.size := (Array.getElem?_eq_some_iff.1 HL4.out).1
     refine ⟨by rw [HR.out]; exact HFI2.out, ⟨hkp.heap_some HB4'.out n1', World.putObj_heap_same hll, hkp.heap_some HD4.out (fun h => n2' h.symm), hkp.heap_some HR04'.out n3', hkp.heap_some HR14'.out n4'⟩, o4, ?_, fun _ => Iff.rfl, HD4''.out⟩
     rw [HR.out]
     exact HWS4.out.keep hkp (fun j h1 h2 => HD4''.out j h2 (.inr (.inl h1))) (fun j h1 => by have := HSZ7.out; omega)
    ·obtain ⟨a, rfl⟩ := hev.form hfi
     have n2 := neErrW a
     have z0 : w4.cell? ⟨w.heap.size, 0, none⟩ = some (.int .i64 0) := by rw [Lib.cell_of_heap hr04]; rfl
     have z1 : w4.cell? ⟨w.heap.size + 1, 0, none⟩ = some .nilIface := by rw [Lib.cell_of_heap hr14]; rfl
     have zf0 : w4.frozen? ⟨w.heap.size, 0, none⟩ = false := Lib.frozen_of_heap hr04 0
     have zf1 : w4.frozen? ⟨w.heap.size + 1, 0, none⟩ = false := Lib.frozen_of_heap hr14 0
     have hcn := hCount_any _ _ _ hcnt
     have HCN := Lib.hid hcn
     have HEV := Lib.hid hev
     have HL4 := Lib.hid hl4
     have HD4 := Lib.hid hd4
     have HR04' := Lib.hid hr04
     have HR14' := Lib.hid hr14
     have HWS4 := Lib.hid hws4
     have HKA := Lib.hid hkA
     have HNW' := Lib.hid hnw
     have HD4'' := Lib.hid hd4'
     have HFI2 := Lib.hid hfi
     clear hl4 hd4 hr04 hr14 hb4' hws4 hkA hnw hd4' hno hpass hm4 hF3 hk3 hev hfi hcn hcnt
     gi_wp2_with (gi_at_call 50; refine CallsIn.inRound _ ((callsIn_wide.2 HCN.out).mono ?_); rintro e w6' ⟨rfl, rfl⟩)
     obtain ⟨w4, rfl⟩ : ∃ x : World, x = w6' := ⟨_, rfl⟩
     have hfin : ∀ X, X = (w4.setCell ⟨w.heap.size, 0, none⟩ (.int .i64 R.2.2.1)).setCell ⟨w.heap.size + 1, 0, none⟩ (.iface 124 (.pointer (some ⟨a, 0, none⟩))) →
      X.heap[w7.heap.size + 1]? = some (.loop { rec with state := .busy }) ∧ Rp (.returned (.bool false)) (X.putObj (w7.heap.size + 1) (.loop { rec with state := .done, pending := some .ret })) := by
      intro X hX
      have hkx1 : Keeps (fun j => j = w.heap.size) w4 (w4.setCell ⟨w.heap.size, 0, none⟩ (.int .i64 R.2.2.1)) := (Keeps.refl (fun j => j = w.heap.size) w4).setCell (p := ⟨w.heap.size, 0, none⟩) (fun _ => rfl) _
      have hkx2 : Keeps (fun j => j = w.heap.size + 1) (w4.setCell ⟨w.heap.size, 0, none⟩ (.int .i64 R.2.2.1)) X := by rw [hX]; exact (Keeps.refl (fun j => j = w.heap.size + 1) _).setCell (p := ⟨w.heap.size + 1, 0, none⟩) (fun _ => rfl) _
      have hx0 : X.heap[w.heap.size]? = some (.cells #[.int .i64 R.2.2.1] 3 (0, 0)) := hkx2.heap_some (by rw [heap_set HR04'.out]; rfl) (by omega)
      have hx1 : X.heap[w.heap.size + 1]? = some (.cells #[.iface 124 (.pointer (some ⟨a, 0, none⟩))] 75 (0, 0)) := by rw [hX, heap_set (hkx1.heap_some HR14'.out (by omega))]; rfl
      have hlx := hkx2.heap_some (hkx1.heap_some HL4.out (fun h => n3' h.symm)) (fun h => n4' h.symm)
      have hdx := hkx2.heap_some (hkx1.heap_some HD4.out n8') n9'
      have hll : w7.heap.size + 1 < X.heap.size := (Array.getElem?_eq_some_iff.1 hlx).1
      have hkp := putObj_keeps X (w7.heap.size + 1) (.loop { rec with state := .done, pending := some .ret })
      have hkk : Keeps (fun j => j = w.heap.size ∨ j = w.heap.size + 1 ∨ j = w7.heap.size + 1) w4 (X.putObj (w7.heap.size + 1) (.loop { rec with state := .done, pending := some .ret })) :=
       ((hkx1.mono (fun _ _ h => .inl h)).tr (hkx2.mono (fun _ _ h => .inr (.inl h)))).tr (hkp.mono (fun _ _ h => .inr (.inr h)))
      refine ⟨by rw [show ({ rec with state := .busy } : Loop) = bz from HBZ.out]; exact hlx, ?_⟩
      refine HRP.out _ false (fun j => o4 j ∨ WO (w5.heap.size + 1) (w7.heap.size + 1) w7.heap.size w.heap.size (w.heap.size + 1) j) ⟨HKA.out.trans hkk (fun j _ h => ?_), HNW'.out⟩ (fun h => by cases h) (fun _ => ?_)
      ·rcases h with h | h | h
       ·exact (HOO.out j).2 (.inr (.inr (.inr (.inr (.inl h)))))
       ·exact (HOO.out j).2 (.inr (.inr (.inr (.inr (.inr h)))))
       ·exact (HOO.out j).2 (.inr (.inr (.inl h)))
      ·refine ⟨by rw [HR.out]; exact HFI2.out, .iface 124 (.pointer (some ⟨a, 0, none⟩)), o4, ?_, ?_, World.putObj_heap_same hll, hkp.heap_some hdx (fun h => n2' h.symm), ?_, hkp.heap_some hx1 n4', fun _ => Iff.rfl, HD4''.out⟩
       ·rw [HR.out]
        refine HEV.out.kept2 hkk (fun j x h => ?_)
        rcases h with h | h | h <;> rw [h]
        ·exact ⟨cells_ne HR04'.out (by decide), cells_ne HR04'.out (by decide)⟩
        ·exact ⟨cells_ne HR14'.out (by decide), cells_ne HR14'.out (by decide)⟩
        ·exact ⟨loop_ne HL4.out, loop_ne HL4.out⟩
       ·rw [HR.out]
        refine HWS4.out.keep hkk (fun j h1 h2 => HD4''.out j h2 ?_) (fun j h1 => by have := HSZ7.out; omega)
        rcases h1 with h | h | h
        ·exact .inr (.inr (.inr (.inl h)))
        ·exact .inr (.inr (.inr (.inr h)))
        ·exact .inr (.inl h)
       ·rw [HR.out]
        exact hkp.heap_some hx0 n3'
     exact hfin _ rfl
  have Y : RoundOK w0 (w7.heap.size + 1) (evsF c.text) (WJ w0 S w5.heap.size (w5.heap.size + 1) (w7.heap.size + 1) w7.heap.size w.heap.size (w.heap.size + 1) tv rec s0) (WX aS w0 S w5.heap.size (w5.heap.size + 1) (w7.heap.size + 1) w7.heap.size w.heap.size (w.heap.size + 1) tv rec s0) :=
   ⟨fun h => h.lt, fun h hk h1 h2 => h.keep hk h1 h2, fun x w' L o hJ hp => hcall x w' L o _ (fun w'' go o' h1 h2 h3 => ⟨go, o', rfl, h1, h2, h3⟩) hJ hp⟩
  have hk8 := HK07.out.tr (hF8.mono (fun _ _ h => h.elim))
  have hsz7 := HSZ7.out
  have hz6 := HZ6.out
  have hJ : WJ w0 S w5.heap.size (w5.heap.size + 1) (w7.heap.size + 1) w7.heap.size w.heap.size (w.heap.size + 1) tv rec s0 W8 [] (fun j => (j = w5.heap.size ∨ (s0 ≠ none ∧ j = S)) ∨ WO (w5.heap.size + 1) (w7.heap.size + 1) w7.heap.size w.heap.size (w.heap.size + 1) j) := by
   refine ⟨rfl, ⟨hF8.heap_some HB7.out (fun h => h), hl8, hD8, hF8.heap_some HR07.out (fun h => h), hF8.heap_some HR17.out (fun h => h)⟩, _, ws_new (hF8.heap_some HC7.out (fun h => h)) ?_ (by omega) (fun sk h => ?_), fun _ => Iff.rfl, fun j h1 h2 => ?_⟩
   ·exact HF.out.trans hk8 (fun j h1 h2 => by
      rcases h2 with h2 | h2
      ·omega
      ·have := HGO.out j h2; omega)
   ·obtain ⟨q1, q2, q3, q4, q5, q6, q7, q8⟩ := HSK.out sk h
    exact ⟨q1.kept hk8 (fun h9 => by rcases h9 with h9 | h9; exact q7 h9; exact q8 h9) (fun k hk => by cases hk), q2, q3, q4, q5⟩
   ·have h3 : j = w5.heap.size ∨ j < w.heap.size := by
     rcases h1 with h1 | ⟨h1, h3⟩
     ·exact .inl h1
     ·cases s0 with
      | none => exact absurd rfl h1
      | some sk => have := (HSK.out sk rfl).2.2.2.2.2.1; omega
    rcases h2 with h2 | h2 | h2 | h2 | h2 <;> omega
  have hoJ : ∀ j, ((j = w5.heap.size ∨ (s0 ≠ none ∧ j = S)) ∨ WO (w5.heap.size + 1) (w7.heap.size + 1) w7.heap.size w.heap.size (w.heap.size + 1) j) → w0.heap.size ≤ j ∧ ¬ o5 j ∧ j ≠ W6.heap.size ∧ (j < w.heap.size → s0 ≠ none ∧ j = S) := by
   intro j hj
   have hlt5 : ∀ k, o5 k → k < w5.heap.size := fun k hk => (HP5.out.own k hk).2
   rcases hj with (h | ⟨h1, h2⟩) | h | h | h | h | h
   ·exact ⟨by omega, fun h9 => by have := hlt5 j h9; omega, by omega, fun h9 => by omega⟩
   ·cases s0 with
    | none => exact absurd rfl h1
    | some sk =>
     obtain ⟨q1, q2, q3, q4, q5, q6, q7, q8⟩ := HSK.out sk rfl
     refine ⟨by omega, fun h9 => ?_, by omega, fun _ => ⟨h1, h2⟩⟩
     rcases (HO5.out j h9).2.2 (by omega) with h8 | h8
     ·exact q7 (h2 ▸ h8)
     ·exact q8 (h2 ▸ h8)
   ·exact ⟨by omega, fun h9 => by have := hlt5 j h9; omega, by omega, fun h9 => by omega⟩
   ·exact ⟨by omega, fun h9 => by have := hlt5 j h9; omega, by omega, fun h9 => by omega⟩
   ·exact ⟨by omega, fun h9 => by have := hlt5 j h9; omega, by omega, fun h9 => by omega⟩
   ·exact ⟨by omega, fun h9 => (HO5.out j h9).1 h, by omega, fun h9 => by omega⟩
   ·exact ⟨by omega, fun h9 => (HO5.out j h9).2.1 h, by omega, fun h9 => by omega⟩
  have hit := All1_round Y (HP7.out.fresh hF8) HV.out HG.out hJ (by simp) (fun j h1 h2 => (hoJ j h2).2.1 h1) (fun j h1 => (hoJ j h1).1) (hF8.heap_some HBP7.out (fun h => h)) (fun h => by have := (HP5.out.own _ h).2; omega) (fun h => (hoJ _ h).2.2.1 rfl)
  simp only [List.append_toArray, List.cons_append, List.nil_append]
  refine hit.mono ?_
  rintro e w9 ⟨rfl, pre, rest, o1, o2, hT9, hp9, hJ9, htw⟩
  refine ⟨⟨_, rfl⟩, ?_⟩
  have hrd : w9.cell? ⟨b, 4, none⟩ = some (.int .i64 c.reads) := by
   rcases hp9.is with ⟨h, -⟩ | ⟨-, -, h⟩
   ·cases h
   ·exact h
  have hob : ¬ o2 b := fun h => htw.dj b hp9.ob h
  have hk9 : Keeps (fun j => j = b ∨ G j ∨ (s0 ≠ none ∧ j = S)) w w9 := (hk8.mono (fun j _ h => by rcases h with h | h; exact .inl h; exact .inr (.inl h))).trans htw.kp (fun j h1 h2 => by
    rcases h2 with h2 | h2
    ·rcases (HO5.out j h2).2.2 h1 with h | h
     ·exact .inl h
     ·exact .inr (.inl h)
    ·exact .inr (.inr ((hoJ j h2).2.2.2 h1)))
  have ho2 : ∀ j, o2 j → j < w.heap.size → s0 ≠ none ∧ j = S := fun j h1 h2 => by
   rcases htw.gb j h1 with h | h
   ·exact (hoJ j h).2.2.2 h2
   ·have := hF8.size; omega
  have hb9 : b < w9.heap.size := (hp9.own b hp9.ob).2
  have HRD := Lib.hid hrd
  have HOB := Lib.hid hob
  have HK9 := Lib.hid hk9
  have HO2 := Lib.hid ho2
  have HT9 := Lib.hid hT9
  have HREC := Lib.hid hrec
  have hs9 : w.heap.size < w9.heap.size := by have := htw.kp.size; have := hF8.size; omega
  clear hit hoJ hJ Y hcall hp9 htw hrd hob hk9 ho2 hT9 hl8 hD8 hk8 hrec
  rcases hJ9 with ⟨rfl, hfi, hA, oj, hws, ho, hdj⟩ | ⟨hfi, ev, oj, hev, hws, hl9, hd9, hr09, hr19, ho, hdj⟩
  ·-- all have gone
   have hpe : pre = evsF c.text := by have := HT9.out; rw [List.append_nil] at this; exact this
   subst hpe
   obtain ⟨hwb, hwl, hwd, hw0, hw1⟩ := hA
   have hdl9 := (Array.getElem?_eq_some_iff.1 hwd).1
   refine ⟨rec, hwl, by rw [HREC.out]; simp, ?_⟩
   obtain ⟨lp, hlp⟩ : ∃ lp : Loop, { rec with state := .exhausted } = lp := ⟨_, rfl⟩
   rw [hlp]
   clear hlp
   rw [show rec.pending = none from by rw [HREC.out]]
   simp only
   obtain ⟨X, hX⟩ : ∃ X, w9.putObj (w7.heap.size + 1) (.loop lp) = X := ⟨_, rfl⟩
   rw [hX]
   have hkX : Keeps (fun j => j = w7.heap.size + 1) w9 X := by rw [← hX]; exact putObj_keeps _ _ _
   clear hX
   obtain ⟨fe, bs, n, s, hst⟩ : ∃ fe bs n s, wsT s0 (evsF c.text) = (fe, bs, n, s) := ⟨_, _, _, _, rfl⟩
   have hfe : fe = .fine := by rw [hst] at hfi; exact hfi
   subst hfe
   have hbd := wsT_bd HQ.out hfi
   have hall := wr_all hfi
   have hpg : (htms (evsF c.text)).length ≤ 40000000 := pageF_len c.text HC.out.2
   rw [hst] at hws hbd hall
   simp only at hws hbd hall
   have hwsX := hws.keep hkX (fun j h1 h2 => hdj j h2 (.inr (.inl h1))) (fun j h1 => by omega)
   have hbl : n + bs.length ≤ 1073741824 := by omega
   have hfl := Flush_any aS w0 S w5.heap.size tv bs n s oj X hwsX HV.out.sink hbl (snkP_of hbd.1 hbl)
   obtain ⟨R, hR⟩ : ∃ R, drain 1 bs.length bs n s = R := ⟨_, rfl⟩
   rw [hR] at hfl hall
   have hbX := hkX.heap_some hwb (by omega)
   have cbX : X.cell? ⟨w5.heap.size + 1, 0, none⟩ = some (.pointer (some ⟨w5.heap.size, 0, none⟩)) := by rw [Lib.cell_of_heap hbX]; rfl
   have hno : ∀ k, WO (w5.heap.size + 1) (w7.heap.size + 1) w7.heap.size w.heap.size (w.heap.size + 1) k → ¬ oj k := fun k h1 h2 => hdj k h2 h1
   have hdX := hkX.heap_some hwd (by omega)
   have h0X := hkX.heap_some hw0 (by omega)
   have h1X := hkX.heap_some hw1 (by omega)
   have HFL := Lib.hid hfl
   have HALL := Lib.hid hall
   have HKX := Lib.hid hkX
   have HBX := Lib.hid hbX
   have HDX := Lib.hid hdX
   have H0X := Lib.hid h0X
   have H1X := Lib.hid h1X
   have HNO := Lib.hid hno
   have HOO := Lib.hid ho
   clear hfl hall hkX hbX hdX h0X h1X hno ho hws hwsX hwb hwl hwd hw0 hw1 hdj hfi hst hR hbd hsz7 hz6
   go_upto_region 12 with (go_at_call 51; refine HFL.out.mono ?_; rintro e w10 ⟨ev, o10, rfl, hev, hws10, hm10⟩)
   have hbx := hm10.heap HBX.out (HNO.out _ (.inl rfl))
   have hdx := hm10.heap HDX.out (HNO.out _ (.inr (.inr (.inl rfl))))
   have h0x := hm10.heap H0X.out (HNO.out _ (.inr (.inr (.inr (.inl rfl)))))
   have h1x := hm10.heap H1X.out (HNO.out _ (.inr (.inr (.inr (.inr rfl)))))
   have cbx : w10.cell? ⟨w5.heap.size + 1, 0, none⟩ = some (.pointer (some ⟨w5.heap.size, 0, none⟩)) := by rw [Lib.cell_of_heap hbx]; rfl
   have z0 : w10.cell? ⟨w.heap.size, 0, none⟩ = some (.int .i64 0) := by rw [Lib.cell_of_heap h0x]; rfl
   have z1 : w10.cell? ⟨w.heap.size + 1, 0, none⟩ = some .nilIface := by rw [Lib.cell_of_heap h1x]; rfl
   have zf0 : w10.frozen? ⟨w.heap.size, 0, none⟩ = false := Lib.frozen_of_heap h0x 0
   have zf1 : w10.frozen? ⟨w.heap.size + 1, 0, none⟩ = false := Lib.frozen_of_heap h1x 0
   have hcn := hCount_any _ _ _ hws10.count
   have hsX := HKX.out.size
   have hs10 := hm10.1.size
   have hfin : ∀ (Y Z : World), Y = (w10.setCell ⟨w.heap.size, 0, none⟩ (.int .i64 R.2.2.1)).setCell ⟨w.heap.size + 1, 0, none⟩ ev → Z = Y.putObj w7.heap.size (.deferred none) →
    Y.heap[w7.heap.size]? = some (.deferred (some [])) ∧ (loadVar 3 ⟨w.heap.size, 0, none⟩).run Tryz.prog Z = .ok (.int .i64 R.2.2.1) Z ∧ (loadVar 75 ⟨w.heap.size + 1, 0, none⟩).run Tryz.prog Z = .ok ev Z ∧
    WrRes aL aI aS c S tv s0 (.returned (.tuple #[.int .i64 R.2.2.1, ev])) Z ∧ Z.cell? ⟨b, 4, none⟩ = some (.int .i64 c.reads) ∧ Keeps (fun j => j = b ∨ G j ∨ (s0 ≠ none ∧ j = S)) w Z := by
    intro Y Z hY hZ
    have hsz7 := HSZ7.out
    have hz6 := HZ6.out
    have hk1 : Keeps (fun j => j = w.heap.size) w10 (w10.setCell ⟨w.heap.size, 0, none⟩ (.int .i64 R.2.2.1)) := (Keeps.refl (fun j => j = w.heap.size) w10).setCell (p := ⟨w.heap.size, 0, none⟩) (fun _ => rfl) _
    have hk2 : Keeps (fun j => j = w.heap.size + 1) (w10.setCell ⟨w.heap.size, 0, none⟩ (.int .i64 R.2.2.1)) Y := by rw [hY]; exact (Keeps.refl (fun j => j = w.heap.size + 1) _).setCell (p := ⟨w.heap.size + 1, 0, none⟩) (fun _ => rfl) _
    have hx0 : Y.heap[w.heap.size]? = some (.cells #[.int .i64 R.2.2.1] 3 (0, 0)) := hk2.heap_some (by rw [heap_set h0x]; rfl) (by omega)
    have hx1 : Y.heap[w.heap.size + 1]? = some (.cells #[ev] 75 (0, 0)) := by rw [hY, heap_set (hk1.heap_some h1x (by omega))]; rfl
    have hxd := hk2.heap_some (hk1.heap_some hdx (by omega)) (by omega)
    have hkZ : Keeps (fun j => j = w7.heap.size) Y Z := by rw [hZ]; exact putObj_keeps _ _ _
    have hkk : Keeps (fun j => j = w.heap.size ∨ j = w.heap.size + 1 ∨ j = w7.heap.size) w10 Z := ((hk1.mono (fun _ _ h => .inl h)).tr (hk2.mono (fun _ _ h => .inr (.inl h)))).tr (hkZ.mono (fun _ _ h => .inr (.inr h)))
    have hz0 := hkZ.heap_some hx0 (by omega)
    have hz1 := hkZ.heap_some hx1 (by omega)
    have y0 : Z.cell? ⟨w.heap.size, 0, none⟩ = some (.int .i64 R.2.2.1) := by rw [Lib.cell_of_heap hz0]; rfl
    have y1 : Z.cell? ⟨w.heap.size + 1, 0, none⟩ = some ev := by rw [Lib.cell_of_heap hz1]; rfl
    have ho10 : ∀ j, o10 j → (j < w.heap.size → s0 ≠ none ∧ j = S) ∧ j ≠ w.heap.size ∧ j ≠ w.heap.size + 1 ∧ j ≠ w7.heap.size := fun j hj => by
     rcases hm10.2 j hj with h | h
     ·exact ⟨fun h2 => HO2.out j ((HOO.out j).2 (.inl h)) h2, fun e => HNO.out _ (.inr (.inr (.inr (.inl e)))) h, fun e => HNO.out _ (.inr (.inr (.inr (.inr e)))) h, fun e => HNO.out _ (.inr (.inr (.inl e))) h⟩
     ·exact ⟨fun _ => by omega, by omega, by omega, by omega⟩
    have hwz := hws10.keep hkk (fun j h1 h2 => by have := ho10 j h2; rcases h1 with h | h | h <;> omega) (fun j h1 => by omega)
    obtain ⟨g1, g2, g3, g4⟩ := wr_good (s0 := s0) HCE.out
    rw [HALL.out] at g1 g2 g3 g4
    have hbX : X.cell? ⟨b, 4, none⟩ = some (.int .i64 c.reads) := HKX.out.cell_some HRD.out (fun (h : b = _) => by omega)
    have hb10 := hm10.1.cell_some hbX (fun (h : oj b) => HOB.out ((HOO.out b).2 (.inl h)))
    refine ⟨hxd, load_int y0, load_err y1, ⟨ev, by rw [g1]; rfl, ?_, fun sk h => ?_⟩, hkk.cell_some hb10 (fun (h : b = _ ∨ b = _ ∨ b = _) => by omega), ((HK9.out.trans HKX.out (fun j h1 h2 => by omega)).trans hm10.1 (fun j h1 h2 => .inr (.inr (HO2.out j ((HOO.out j).2 (.inl h2)) h1)))).trans hkk (fun j h1 h2 => by omega)⟩
    ·rw [g2, g3]
     refine ErrIs.of_werr (hev.kept2 hkk (fun j x h => ?_))
     rcases h with h | h | h <;> rw [h]
     ·exact ⟨cells_ne h0x (by decide), cells_ne h0x (by decide)⟩
     ·exact ⟨cells_ne h1x (by decide), cells_ne h1x (by decide)⟩
     ·exact ⟨fun h9 => (by rw [hdx] at h9; cases h9), fun h9 => (by rw [hdx] at h9; cases h9)⟩
    ·rw [g4] at h
     exact hwz.snk sk h
   have hform : ev = .nilIface ∨ ∃ a, ev = .iface 124 (.pointer (some ⟨a, 0, none⟩)) := by
    by_cases h : R.1 = .fine
    ·rw [h] at hev; exact .inl hev
    ·exact .inr (hev.form h)
   have HFIN := Lib.hid hfin
   have HCN := Lib.hid hcn
   clear hfin hcn hev hws10 hm10 hbx hdx h0x h1x
   rcases hform with rfl | ⟨a, rfl⟩
   ·go_wp2_with (go_at_call 50; refine HCN.out.mono ?_; rintro e w11 ⟨rfl, rfl⟩)
    refine postM_ret1 (D := w7.heap.size) (v := .tuple #[.int .i64 R.2.2.1, .nilIface]) ?_ ?_ ?_
    ·exact (HFIN.out _ _ rfl rfl).1
    ·exact res_two rfl rfl rfl (HFIN.out _ _ rfl rfl).2.1 (HFIN.out _ _ rfl rfl).2.2.1
    ·exact (HFIN.out _ _ rfl rfl).2.2.2
   ·go_wp2_with (go_at_call 50; refine HCN.out.mono ?_; rintro e w11 ⟨rfl, rfl⟩)
    refine postM_ret1 (D := w7.heap.size) (v := .tuple #[.int .i64 R.2.2.1, .iface 124 (.pointer (some ⟨a, 0, none⟩))]) ?_ ?_ ?_
    ·exact (HFIN.out _ _ rfl rfl).1
    ·exact res_two rfl rfl rfl (HFIN.out _ _ rfl rfl).2.1 (HFIN.out _ _ rfl rfl).2.2.1
    ·exact (HFIN.out _ _ rfl rfl).2.2.2
  ·-- a round has stopped
   refine ⟨_, hl9, by simp, ?_⟩
   simp only
   have HEV := Lib.hid hev
   have HWS := Lib.hid hws
   have HL9 := Lib.hid hl9
   have HD9 := Lib.hid hd9
   have HR09 := Lib.hid hr09
   have HR19 := Lib.hid hr19
   have HOO := Lib.hid ho
   have HFI := Lib.hid hfi
   clear hev hws hl9 hd9 hr09 hr19 ho hfi hsz7 hz6
   go_wp2
   have hfin : ∀ (lp : Loop) (X Z : World), X = w9.putObj (w7.heap.size + 1) (.loop lp) → Z = X.putObj w7.heap.size (.deferred none) →
    X.heap[w7.heap.size]? = some (.deferred (some [])) ∧ (loadVar 3 ⟨w.heap.size, 0, none⟩).run Tryz.prog Z = .ok (.int .i64 (wsT s0 pre).2.2.1) Z ∧ (loadVar 75 ⟨w.heap.size + 1, 0, none⟩).run Tryz.prog Z = .ok ev Z ∧
    WrRes aL aI aS c S tv s0 (.returned (.tuple #[.int .i64 (wsT s0 pre).2.2.1, ev])) Z ∧ Z.cell? ⟨b, 4, none⟩ = some (.int .i64 c.reads) ∧ Keeps (fun j => j = b ∨ G j ∨ (s0 ≠ none ∧ j = S)) w Z := by
    intro lp X Z hX hZ
    have hsz7 := HSZ7.out
    have hz6 := HZ6.out
    have hkX : Keeps (fun j => j = w7.heap.size + 1) w9 X := by rw [hX]; exact putObj_keeps _ _ _
    have hkZ : Keeps (fun j => j = w7.heap.size) X Z := by rw [hZ]; exact putObj_keeps _ _ _
    have hkk : Keeps (fun j => j = w7.heap.size + 1 ∨ j = w7.heap.size) w9 Z := (hkX.mono (fun _ _ h => .inl h)).tr (hkZ.mono (fun _ _ h => .inr h))
    have hz0 := hkk.heap_some HR09.out (by omega)
    have hz1 := hkk.heap_some HR19.out (by omega)
    have y0 : Z.cell? ⟨w.heap.size, 0, none⟩ = some (.int .i64 (wsT s0 pre).2.2.1) := by rw [Lib.cell_of_heap hz0]; rfl
    have y1 : Z.cell? ⟨w.heap.size + 1, 0, none⟩ = some ev := by rw [Lib.cell_of_heap hz1]; rfl
    have hwz := HWS.out.keep hkk (fun j h1 h2 => hdj j h2 (by rcases h1 with h | h; exact .inr (.inl h); exact .inr (.inr (.inl h)))) (fun j h1 => by omega)
    have hst := wr_stop HT9.out HFI.out
    obtain ⟨g1, g2, g3, g4⟩ := wr_good (s0 := s0) HCE.out
    rw [hst] at g1 g2 g3 g4
    refine ⟨hkX.heap_some HD9.out (by omega), load_int y0, load_err y1, ⟨ev, by rw [g1], ?_, fun sk h => ?_⟩, hkk.cell_some HRD.out (fun (h : b = _ ∨ b = _) => by omega), HK9.out.trans hkk (fun j h1 h2 => by omega)⟩
    ·rw [g2, g3]
     refine ErrIs.of_werr (HEV.out.kept2 hkk (fun j x h => ?_))
     rcases h with h | h <;> rw [h]
     ·exact ⟨loop_ne HL9.out, loop_ne HL9.out⟩
     ·exact ⟨fun h9 => (by rw [HD9.out] at h9; cases h9), fun h9 => (by rw [HD9.out] at h9; cases h9)⟩
    ·rw [g4] at h
     exact hwz.snk sk h
   refine postM_ret1 (D := w7.heap.size) (v := .tuple #[.int .i64 (wsT s0 pre).2.2.1, ev]) ?_ ?_ ?_
   ·exact (hfin _ _ _ rfl rfl).1
   ·exact res_two rfl rfl rfl (hfin _ _ _ rfl rfl).2.1 (hfin _ _ _ rfl rfl).2.2.1
   ·exact (hfin _ _ _ rfl rfl).2.2.2
 ·-- the text has not come
  obtain ⟨b1, b2, b3, b4⟩ := wr_bad (s0 := s0) hce
  have hrd : w5.cell? ⟨b, 4, none⟩ = some (.int .i64 c.reads) := by
   rcases hp5.is with ⟨h, -⟩ | ⟨-, -, h⟩
   ·cases h
   ·exact h
  have hfin : ∀ X, X = (w5.setCell ⟨w.heap.size, 0, none⟩ (.int .i64 0)).setCell ⟨w.heap.size + 1, 0, none⟩ v → WrRes aL aI aS c S tv s0 (.returned (.tuple #[.int .i64 0, v])) X ∧ X.cell? ⟨b, 4, none⟩ = some (.int .i64 c.reads) ∧ Keeps (fun j => j = b ∨ G j ∨ (s0 ≠ none ∧ j = S)) w X := by
   rintro X rfl
   have hkx : Keeps (fun j => j = w.heap.size ∨ j = w.heap.size + 1) w5 ((w5.setCell ⟨w.heap.size, 0, none⟩ (.int .i64 0)).setCell ⟨w.heap.size + 1, 0, none⟩ v) :=
    ((Keeps.refl (fun j => j = w.heap.size ∨ j = w.heap.size + 1) w5).setCell (p := ⟨w.heap.size, 0, none⟩) (fun _ => .inl rfl) _).setCell (p := ⟨w.heap.size + 1, 0, none⟩) (fun _ => .inr rfl) _
   have hkk : Keeps (fun j => j = b ∨ G j) w ((w5.setCell ⟨w.heap.size, 0, none⟩ (.int .i64 0)).setCell ⟨w.heap.size + 1, 0, none⟩ v) := hk05.trans hkx (fun j h1 h2 => by omega)
   refine ⟨⟨v, by rw [b1]; rfl, ?_, fun sk h => ?_⟩, hkx.cell_some hrd (fun (h : b = _ ∨ b = _) => by rcases h with h | h <;> omega), hkk.mono (fun j _ h => by rcases h with h | h; exact .inl h; exact .inr (.inl h))⟩
   ·rw [b2, b3]
    refine hE5.kept2 hkx (fun a x ha => ?_)
    rcases ha with h | h <;> rw [h] <;> refine ⟨fun h9 => ?_, fun h9 => ?_, fun h9 => ?_⟩
    all_goals first | (rw [hr05] at h9; injection h9 with h9; injection h9 with _ h9 _; revert h9; decide) | (rw [hr15] at h9; injection h9 with h9; injection h9 with _ h9 _; revert h9; decide)
   ·rw [b4] at h
    obtain ⟨q1, q2, q3, q4, q5, q6, q7, q8⟩ := HSK.out sk h
    refine ⟨_, q1.kept hkk (fun h9 => ?_) (fun k hk => by cases hk)⟩
    rcases h9 with h9 | h9
    ·exact q7 h9
    ·exact q8 h9
  have z0 : w5.cell? ⟨w.heap.size, 0, none⟩ = some (.int .i64 0) := by rw [Lib.cell_of_heap hr05]; rfl
  have z1 : w5.cell? ⟨w.heap.size + 1, 0, none⟩ = some .nilIface := by rw [Lib.cell_of_heap hr15]; rfl
  have zf0 : w5.frozen? ⟨w.heap.size, 0, none⟩ = false := Lib.frozen_of_heap hr05 0
  have zf1 : w5.frozen? ⟨w.heap.size + 1, 0, none⟩ = false := Lib.frozen_of_heap hr15 0
  have HFIN := Lib.hid hfin
  have h3 := hE5.three
  clear hfin hrd hr05 hr15 hE5 hp5 hm5 ho5 hk05
  rcases h3 with ⟨h4, -⟩ | ⟨-, ⟨a, rfl⟩ | ⟨a, rfl⟩ | ⟨a, rfl⟩⟩
  ·exact absurd h4 hce
  ·have n1 := neErrS a
   go_wp2
   refine postM_ret0 (res_two (v1 := .int .i64 0) (v2 := .iface 283 (.pointer (some a))) rfl rfl rfl (by go_simp) (by go_simp)) ?_
   exact HFIN.out _ rfl
  ·have n1 := neErrW a
   go_wp2
   refine postM_ret0 (res_two (v1 := .int .i64 0) (v2 := .iface 124 (.pointer (some ⟨a, 0, none⟩))) rfl rfl rfl (by go_simp) (by go_simp)) ?_
   exact HFIN.out _ rfl
  ·have n1 := neErrR ⟨a, 0, none⟩
   go_wp2
   refine postM_ret0 (res_two (v1 := .int .i64 0) (v2 := .iface 117 (.pointer (some ⟨a, 0, none⟩))) rfl rfl rfl (by go_simp) (by go_simp)) ?_
   exact HFIN.out _ rfl
end Go.Proofs.YtbioecifiogffaaGreatDoor
namespace Go.Proofs.YtbioecifiogffaaGreatDoor
open Go.RowKit
def wrV (r : WrL) : Value := .agg #[.int .i64 r.err, .int .i64 r.n, .int .i64 r.count, .string ⟨r.got.toArray⟩, .int .i64 r.offers, .int .i64 r.most, .bool r.none, .int .i64 r.reads]
theorem wrOf_parts (c : ComeL) (sk : Snk) (s0 : Option Snk) (h : s0 = none ∨ s0 = some sk) :
 wrOf c sk (flush (pageF c.text) 0 s0) = ⟨(wrO c s0).err, (wrO c s0).n, (wrO c s0).count, ((sEnd c s0).getD sk).got, ((sEnd c s0).getD sk).offers, ((sEnd c s0).getD sk).most, ((sEnd c s0).getD sk).none, c.reads⟩ := by
 unfold wrO wrOf sEnd
 by_cases hc : c.err = 0
 ·rw [if_pos hc, if_pos hc, if_pos hc]
 ·rw [if_neg hc, if_neg hc, if_neg hc]
  rcases h with rfl | rfl <;> rfl
theorem sEnd_some (c : ComeL) (sk : Snk) : ∃ sk', sEnd c (some sk) = some sk' := by
 unfold sEnd
 split
 ·obtain ⟨e, n', s', h, -⟩ := flush_went _ (pageF c.text) 0 sk (Nat.le_refl _)
  exact ⟨s', by rw [h]⟩
 ·exact ⟨sk, rfl⟩
theorem sEnd_none (c : ComeL) : sEnd c none = none := by
 unfold sEnd
 split
 ·rw [flush_free _ _ _ (Nat.le_refl _)]
 ·rfl
theorem conv_own {w : World} {v : Value} {bs : List UInt8} (h : w.ownsRow 0 5 1 v bs.length (Lib.byteCells bs)) : (convert 71 9 v).run Tryz.prog w = .ok (.string ⟨bs.toArray⟩) w := by
 rcases h.2 with ⟨rfl, h0⟩ | ⟨g, cap, cur, rfl, hb, hg, hc, hm, -⟩
 ·have : bs = [] := List.eq_nil_of_length_eq_zero h0
  subst this
  exact (by kernel_rfl : (convert 71 9 (.slice none 0 0)).run Tryz.prog w = .ok (.string ⟨#[]⟩) w)
 ·exact run_convert_bytes_back w 71 9 5 ⟨g, 0, none⟩ cap bs Tryz.underlying71 Tryz.underlying5 Tryz.underlying9 (fun j hj =>
    World.ownsRow.cells (v := .slice (some ⟨g, 0, none⟩) bs.length cap) h (g := g) rfl j (.int .u8 (bs[j].toNat : Int)) (by simp [Lib.byteCells, hj]))
theorem res_cell1 {fn : Func} {p t : Nat} (h : fn.results = #[.cell p t]) {tmps : Array Value} {P : Program} {w : World} {a : Addr} {v : Value} (h1 : tmps.getD p undef = .pointer (some a)) (l1 : (loadVar t a).run P w = .ok v w) : (results fn tmps).run P w = .ok v w := by
 have h1' : tmps[p]?.getD undef = .pointer (some a) := by simpa using h1
 simp [results, h, h1', asAddr, l1, Sem.run_bind, Result.andThen]
theorem infoWr : (Tryz.prog.info? 27).map (·.size) = some 8 := by kernel_rfl
def HtS (S b : Nat) (tv gv : Value) (sk : Snk) (reads : Nat) (w : World) : Prop := SnkAt w S tv gv sk ∧ w.cell? ⟨b, 4, none⟩ = some (.int .i64 reads)
theorem HtS.cells {S b : Nat} {tv gv : Value} {sk : Snk} {reads : Nat} {w : World} (h : HtS S b tv gv sk reads w) :
 w.cell? ⟨S, 8, none⟩ = some gv ∧ w.cell? ⟨S, 5, none⟩ = some (.int .i64 sk.offers) ∧ w.cell? ⟨S, 6, none⟩ = some (.int .i64 sk.most) ∧ w.cell? ⟨S, 7, none⟩ = some (.bool sk.none) ∧ w.cell? ⟨b, 4, none⟩ = some (.int .i64 reads) ∧ (convert 71 9 gv).run Tryz.prog w = .ok (.string ⟨sk.got.toArray⟩) w := by
 obtain ⟨⟨h1, h2⟩, h3⟩ := h
 refine ⟨?_, ?_, ?_, ?_, h3, conv_own h2⟩ <;> rw [Lib.cell_of_heap h1] <;> rfl
theorem HtS.fresh {S b : Nat} {tv gv : Value} {sk : Snk} {reads : Nat} {w w' : World} (h : HtS S b tv gv sk reads w) (hk : Fresh w w') : HtS S b tv gv sk reads w' := ⟨h.1.fresh hk, hk.cell_some h.2 (fun h => h)⟩
theorem snkQ0 (ts : List Int) (fl la lie : Int) : SnkQ 0 (some (snk0 ts fl la lie)) := fun sk h => by
 cases h
 exact ⟨Nat.le_refl _, Nat.le_refl _, by simp [snk0], by simp [snk0]⟩
theorem come_ok (t : List UInt8) (cuts : List Int) (fa : Int) (wt : Bool) : ((comeL t cuts fa wt).err = 0 ∨ (comeL t cuts fa wt).err = 1 ∨ (comeL t cuts fa wt).err = 2 ∨ (comeL t cuts fa wt).err = 4) ∧ (comeL t cuts fa wt).text.length ≤ 1200 := ⟨comeL_err _ _ _ _, comeL_text _ _ _ _⟩
theorem Html_any (aL aI aS : Addr) (w : World) (hV : LaidVars aL aI aS w) (hG : Gl w) (s : ByteArray) (v : Value) (cs : List Int) (fa : Int) (wt : Bool) (hv : IntsAt w v cs) (hs : s.size ≤ 1048576) (hl : cs.length ≤ 1048576) (hw : ∀ x ∈ cs, -9223372036854775808 ≤ x ∧ x ≤ 9223372036854775807)
 (tv : Value) (ts : List Int) (ht : IntsAt w tv ts) (htl : ts.length ≤ 1048576) (fl la lie : Int) (m : Nat) (z : Int) (hm : (m = 0 ∧ z = 0) ∨ (m = 1 ∧ z = 1) ∨ (m = 2 ∧ z = 2)) :
 Calls Tryz.prog 12 #[.agg #[.string s, v, .int .i64 fa, .bool wt], .agg #[tv, .int .i64 fl, .int .i64 la, .int .i64 lie], .int .i64 z] w fun e w' => e = .returned (wrV (htmlL m (comeL s.data.toList cs fa wt) (snk0 ts fl la lie))) ∧ Fresh w w' := by
 obtain ⟨c, hc⟩ : ∃ c, comeL s.data.toList cs fa wt = c := ⟨_, rfl⟩
 obtain ⟨sk0, hsk0⟩ : ∃ sk0, snk0 ts fl la lie = sk0 := ⟨_, rfl⟩
 rw [hc, hsk0]
 obtain ⟨r, hr⟩ : ∃ r, htmlL m c sk0 = r := ⟨_, rfl⟩
 rw [hr]
 have HC := Lib.hid hc
 have HSK0 := Lib.hid hsk0
 have HR := Lib.hid hr
 clear hc hsk0 hr
 obtain ⟨W, hW⟩ : ∃ W, ((w.alloc (.cells #[.string s, v, .int .i64 fa, .bool wt] 30)).alloc (.cells #[tv, .int .i64 fl, .int .i64 la, .int .i64 lie] 33)).alloc (.cells #[.int .i64 0, .int .i64 0, .int .i64 0, .string ⟨#[]⟩, .int .i64 0, .int .i64 0, .bool false, .int .i64 0] 27) = W := ⟨_, rfl⟩
 have hFW : Fresh w W := by rw [← hW]; exact (((Keeps.refl _ w).alloc _).alloc _).alloc _
 have hzW : W.heap.size = w.heap.size + 3 := by rw [← hW]; simp
 obtain ⟨ha1, ha2, ha3⟩ : _ ∧ _ ∧ _ := alloc3 w (.cells #[.string s, v, .int .i64 fa, .bool wt] 30) (.cells #[tv, .int .i64 fl, .int .i64 la, .int .i64 lie] 33) (.cells #[.int .i64 0, .int .i64 0, .int .i64 0, .string ⟨#[]⟩, .int .i64 0, .int .i64 0, .bool false, .int .i64 0] 27)
 rw [hW] at ha1 ha2 ha3
 have c0 : W.cell? ⟨w.heap.size, 0, none⟩ = some (.string s) := by rw [Lib.cell_of_heap ha1]; rfl
 have c1 : W.cell? ⟨w.heap.size, 1, none⟩ = some v := by rw [Lib.cell_of_heap ha1]; rfl
 have c2 : W.cell? ⟨w.heap.size, 2, none⟩ = some (.int .i64 fa) := by rw [Lib.cell_of_heap ha1]; rfl
 have c3 : W.cell? ⟨w.heap.size, 3, none⟩ = some (.bool wt) := by rw [Lib.cell_of_heap ha1]; rfl
 have hsrc := source_any s v cs fa wt W (hv.fresh hFW) hl
 have HSRC := Lib.hid hsrc
 have HFW := Lib.hid hFW
 have HW := Lib.hid hw
 have HT := Lib.hid ht
 have HV := Lib.hid hV
 have HG := Lib.hid hG
 have HA2 := Lib.hid ha2
 have HA3 := Lib.hid ha3
 have HZ := Lib.hid hzW
 obtain ⟨ao, cap, rfl⟩ := hv.form
 obtain ⟨ato, tcap, rfl⟩ := ht.form
 clear hsrc hFW hw ht hV hG ha1 ha2 ha3 hzW hv
 go_enter Tryz.func12, Tryz.ntmps12
 go_upto_region 2 with (go_at_call 28; refine HSRC.out.mono ?_; rintro e w2 ⟨b, g, rfl, hS2, hk2, hb2, hg2, hgl2⟩)
 clear hW c0 c1 c2 c3
 have ha22 := hk2.heap_some HA2.out (fun h => h)
 have ha32 := hk2.heap_some HA3.out (fun h => h)
 have o0 : w2.cell? ⟨w.heap.size + 1, 0, none⟩ = some (.slice ato ts.length tcap) := by rw [Lib.cell_of_heap ha22]; rfl
 have o1 : w2.cell? ⟨w.heap.size + 1, 1, none⟩ = some (.int .i64 fl) := by rw [Lib.cell_of_heap ha22]; rfl
 have o2 : w2.cell? ⟨w.heap.size + 1, 2, none⟩ = some (.int .i64 la) := by rw [Lib.cell_of_heap ha22]; rfl
 have o3 : w2.cell? ⟨w.heap.size + 1, 3, none⟩ = some (.int .i64 lie) := by rw [Lib.cell_of_heap ha22]; rfl
 have hsk0 := HSK0.out
 obtain ⟨W3, hW3⟩ : ∃ W3, w2.alloc (.cells #[.slice ato ts.length tcap, .int .i64 0, .int .i64 fl, .int .i64 la, .int .i64 lie, .int .i64 0, .int .i64 0, .bool false, .slice none 0 0] 73) = W3 := ⟨_, rfl⟩
 have hk3 : Fresh w2 W3 := by rw [← hW3]; exact (Keeps.refl _ w2).alloc _
 have hz3 : W3.heap.size = w2.heap.size + 1 := by rw [← hW3]; simp
 have hsn3 : SnkAt W3 w2.heap.size (.slice ato ts.length tcap) (.slice none 0 0) sk0 := by
  rw [← hsk0]
  exact ⟨by rw [← hW3]; exact heap_alloc_new w2 _, World.ownsRow_nil _ _ _ _⟩
 have ha33 := hk3.heap_some ha32 (fun h => h)
 have hS3 := hS2.kept hk3 (fun h => h) (fun h => h)
 have hF3 := (HFW.out.tr hk2).tr hk3
 have hbl := hS2.lt
 have hs2 := hk2.size
 have hb43 : W3.cell? ⟨b, 4, none⟩ = some (.int .i64 0) := by obtain ⟨_, _, _, ⟨_, _, _, _, h4, _⟩, _⟩ := hS3.parts; exact h4
 have hskp : ∀ sk, some sk0 = some sk → SnkAt W3 w2.heap.size (.slice ato ts.length tcap) (.slice none 0 0) sk ∧ sk.none = false ∧ IntsAt w (.slice ato ts.length tcap) sk.takes ∧ sk.takes.length ≤ 1048576 ∧ w.heap.size ≤ w2.heap.size ∧ w2.heap.size < W3.heap.size ∧ w2.heap.size ≠ b ∧ ¬ (w2.heap.size = g) := by
  intro sk h
  cases h
  have := HZ.out
  exact ⟨hsn3, by rw [← hsk0]; rfl, by rw [← hsk0]; exact HT.out, by rw [← hsk0]; exact htl, by omega, by omega, by omega, by omega⟩
 have hcok := come_ok s.data.toList cs fa wt
 have hc := HC.out
 have hr := HR.out
 rw [hc] at hcok
 have hsrcS : ∀ (P : Nat) (o : Nat → Prop), W3.heap.size ≤ P → (∀ j, j = g → o j) → SrcS W3 P b (.iface 68 (.pointer (some ⟨b, 0, none⟩))) c o := fun P o h1 h2 =>
  .inr ⟨g, s, cs, fa, wt, rfl, hS3, by omega, hs, hl, HW.out, hc, h2 g rfl, by omega⟩
 have hq0 : SnkQ 0 (some sk0) := by rw [← hsk0]; exact snkQ0 ts fl la lie
 have hZZ := HZ.out
 -- the three calls
 have hw1 := Write_any aL aI aS w W3 hF3 HV.out HG.out .nilIface b ⟨[], 0, 0, 0⟩ (fun _ => False) (.inl rfl) ⟨.inl rfl, by simp⟩ ⟨by omega, by omega⟩ hb43 (fun _ h => h.elim) (fun P o _ _ => .inl ⟨rfl, rfl, hb43⟩) w2.heap.size (.slice ato ts.length tcap) (some sk0) hq0 (fun sk h => by obtain ⟨q1, q2, q3, q4, q5, q6, q7, q8⟩ := hskp sk h; exact ⟨q1, q2, q3, q4, q5, q6, q7, fun h => h⟩)
 have hw2 := Write_any aL aI aS w W3 hF3 HV.out HG.out (.iface 68 (.pointer (some ⟨b, 0, none⟩))) b c (fun j => j = g) (.inr ⟨_, _, rfl⟩) hcok ⟨by omega, by omega⟩ hb43 (fun j h => by rw [h]; omega) hsrcS w2.heap.size (.slice ato ts.length tcap) none (fun sk h => by cases h) (fun sk h => by cases h)
 have hw0 := Write_any aL aI aS w W3 hF3 HV.out HG.out (.iface 68 (.pointer (some ⟨b, 0, none⟩))) b c (fun j => j = g) (.inr ⟨_, _, rfl⟩) hcok ⟨by omega, by omega⟩ hb43 (fun j h => by rw [h]; omega) hsrcS w2.heap.size (.slice ato ts.length tcap) (some sk0) hq0 hskp
 obtain ⟨S, hSd⟩ : ∃ S, w2.heap.size = S := ⟨_, rfl⟩
 -- what each leaves
 have hrel1 : ∀ w4, m = 1 → ∀ ev, ErrIs aL aI aS w4 ev (wrO ⟨[], 0, 0, 0⟩ (some sk0)).err (wrO ⟨[], 0, 0, 0⟩ (some sk0)).n → (∀ sk, sEnd ⟨[], 0, 0, 0⟩ (some sk0) = some sk → ∃ gv, SnkAt w4 w2.heap.size (.slice ato ts.length tcap) gv sk) → w4.cell? ⟨b, 4, none⟩ = some (.int .i64 0) →
  ErrIs aL aI aS w4 ev r.err r.n ∧ (wrO ⟨[], 0, 0, 0⟩ (some sk0)).count = r.count ∧ ∃ gv sk, HtS w2.heap.size b (.slice ato ts.length tcap) gv sk r.reads w4 ∧ r.got = sk.got ∧ r.offers = sk.offers ∧ r.most = sk.most ∧ r.none = sk.none := by
  rintro w4 rfl ev h1 h2 h3
  obtain ⟨sk', hsk'⟩ := sEnd_some ⟨[], 0, 0, 0⟩ sk0
  obtain ⟨gv, h4⟩ := h2 sk' hsk'
  have hp := wrOf_parts ⟨[], 0, 0, 0⟩ sk0 (some sk0) (.inr rfl)
  rw [hsk'] at hp
  have : r = _ := hr.symm.trans (show htmlL 1 c sk0 = wrOf ⟨[], 0, 0, 0⟩ sk0 (flush (pageF []) 0 (some sk0)) from rfl)
  rw [this, show pageF [] = pageF (⟨[], 0, 0, 0⟩ : ComeL).text from rfl, hp]
  exact ⟨h1, rfl, gv, sk', ⟨h4, h3⟩, rfl, rfl, rfl, rfl⟩
 have hrel2 : ∀ w4, m = 2 → ∀ ev, ErrIs aL aI aS w4 ev (wrO c none).err (wrO c none).n → SnkAt w4 w2.heap.size (.slice ato ts.length tcap) (.slice none 0 0) sk0 → w4.cell? ⟨b, 4, none⟩ = some (.int .i64 c.reads) →
  ErrIs aL aI aS w4 ev r.err r.n ∧ (wrO c none).count = r.count ∧ ∃ gv sk, HtS w2.heap.size b (.slice ato ts.length tcap) gv sk r.reads w4 ∧ r.got = sk.got ∧ r.offers = sk.offers ∧ r.most = sk.most ∧ r.none = sk.none := by
  rintro w4 rfl ev h1 h2 h3
  have hp := wrOf_parts c sk0 none (.inl rfl)
  rw [sEnd_none] at hp
  have : r = _ := hr.symm.trans (show htmlL 2 c sk0 = wrOf c sk0 (flush (pageF c.text) 0 none) from rfl)
  rw [this, hp]
  exact ⟨h1, rfl, _, sk0, ⟨h2, h3⟩, rfl, rfl, rfl, rfl⟩
 have hrel0 : ∀ w4, m = 0 → ∀ ev, ErrIs aL aI aS w4 ev (wrO c (some sk0)).err (wrO c (some sk0)).n → (∀ sk, sEnd c (some sk0) = some sk → ∃ gv, SnkAt w4 w2.heap.size (.slice ato ts.length tcap) gv sk) → w4.cell? ⟨b, 4, none⟩ = some (.int .i64 c.reads) →
  ErrIs aL aI aS w4 ev r.err r.n ∧ (wrO c (some sk0)).count = r.count ∧ ∃ gv sk, HtS w2.heap.size b (.slice ato ts.length tcap) gv sk r.reads w4 ∧ r.got = sk.got ∧ r.offers = sk.offers ∧ r.most = sk.most ∧ r.none = sk.none := by
  rintro w4 rfl ev h1 h2 h3
  obtain ⟨sk', hsk'⟩ := sEnd_some c sk0
  obtain ⟨gv, h4⟩ := h2 sk' hsk'
  have hp := wrOf_parts c sk0 (some sk0) (.inr rfl)
  rw [hsk'] at hp
  have : r = _ := hr.symm.trans (show htmlL 0 c sk0 = wrOf c sk0 (flush (pageF c.text) 0 (some sk0)) from rfl)
  rw [this, hp]
  exact ⟨h1, rfl, gv, sk', ⟨h4, h3⟩, rfl, rfl, rfl, rfl⟩
 simp only [toV] at hw1 hw2 hw0
 have HW1 := Lib.hid hw1
 have HW2 := Lib.hid hw2
 have HW0 := Lib.hid hw0
 have HREL1 := Lib.hid hrel1
 have HREL2 := Lib.hid hrel2
 have HREL0 := Lib.hid hrel0
 have HF3 := Lib.hid hF3
 have HA33 := Lib.hid ha33
 have HSN3 := Lib.hid hsn3
 have HSZ := Lib.hid (show w.heap.size + 3 ≤ b ∧ w.heap.size + 3 ≤ g ∧ w.heap.size + 3 ≤ w2.heap.size ∧ w2.heap.size < W3.heap.size ∧ w2.heap.size ≠ b ∧ w2.heap.size ≠ g from ⟨by omega, by omega, by omega, by omega, by omega, by omega⟩)
 clear hw1 hw2 hw0 hrel1 hrel2 hrel0 hF3 ha33 hsn3 hskp hsrcS hq0 hS3 hS2 ha22 ha32 hb43 hk2 hk3 hcok hb2 hg2 hgl2 hbl hs2 hz3 hZZ hSd S hr hc hsk0
 go_upto_region 3 with fail
 clear hW3
 go_upto_block 0 with fail
 go_cut [9, 10] (fun n ev wx => n = .int .i64 r.count ∧ ErrIs aL aI aS wx ev r.err r.n ∧ (∃ gv sk, HtS w2.heap.size b (.slice ato ts.length tcap) gv sk r.reads wx ∧ r.got = sk.got ∧ r.offers = sk.offers ∧ r.most = sk.most ∧ r.none = sk.none) ∧ Keeps (fun j => j = b ∨ j = g ∨ j = w2.heap.size) W3 wx)
 case first =>
  rcases hm with ⟨rfl, rfl⟩ | ⟨rfl, rfl⟩ | ⟨rfl, rfl⟩
  ·go_wp2_with (go_at_call 29; refine HW0.out.mono ?_; rintro e w4 ⟨⟨ev, rfl, h1, h2⟩, h3, h4⟩)
   go_meet
   obtain ⟨q1, q2, q3⟩ := HREL0.out _ (by trivial) _ h1 h2 h3
   exact ⟨by rw [q2], q1, q3, h4.mono (fun j _ h => by rcases h with h | h | h; exact .inl h; exact .inr (.inl h); exact .inr (.inr h.2))⟩
  ·go_wp2_with (go_at_call 29; refine HW1.out.mono ?_; rintro e w4 ⟨⟨ev, rfl, h1, h2⟩, h3, h4⟩)
   go_meet
   obtain ⟨q1, q2, q3⟩ := HREL1.out _ (by trivial) _ h1 h2 h3
   exact ⟨by rw [q2], q1, q3, h4.mono (fun j _ h => by rcases h with h | h | h; exact .inl h; exact h.elim; exact .inr (.inr h.2))⟩
  ·go_wp2_with (go_at_call 29; refine HW2.out.mono ?_; rintro e w4 ⟨⟨ev, rfl, h1, h2⟩, h3, h4⟩)
   go_meet
   have hkn := h4.mono (D' := fun j => j = b ∨ j = g) (fun j _ h => by rcases h with h | h | h; exact .inl h; exact .inr h; exact absurd rfl h.1)
   have hz := HSZ.out
   obtain ⟨q1, q2, q3⟩ := HREL2.out _ (by trivial) _ h1 (HSN3.out.kept hkn (by omega) (fun k hk => by cases hk)) h3
   exact ⟨by rw [q2], q1, q3, hkn.mono (fun j _ h => by rcases h with h | h; exact .inl h; exact .inr (.inl h))⟩
 case rest =>
  obtain ⟨rfl, hE, ⟨gv, sk, hH, hg1, hg2, hg3, hg4⟩, hk4⟩ := hcut
  have hz := HSZ.out
  have hFc : Fresh w wc := HF3.out.trans hk4 (fun j h1 h2 => by omega)
  have hof := fun X (hX : Fresh wc X) => Of_err aL aI aS X _ r.err r.n (HV.out.fresh (hFc.tr hX)) (hE.fresh hX)
  have hac := hk4.heap_some HA33.out (by omega)
  have HOF := Lib.hid hof
  have HFC := Lib.hid hFc
  have HAC := Lib.hid hac
  clear hof hFc hac hk4 hE
  go_upto_region 11 with fail
  refine wp_region_K 25 (fun w' => HtS w2.heap.size b (.slice ato ts.length tcap) gv sk r.reads w') (by kernel_rfl) ?_
  have hHeld : HtS w2.heap.size b (.slice ato ts.length tcap) gv sk r.reads wc.drew := hH.fresh ((Keeps.refl _ wc).drew)
  refine K_is [0, 2, 3, 4, 5, 6, 7, 8, 9, 10, 11, 12, 13, 14, 15, 16, 17, 18, 19, 20, 21, 22, 23] ?_
  iterate 23 (refine K_yD (v := ?_) rfl rfl (by kernel_rfl) (fun _ _ _ h => h) (by rfl) ?_ (by assumption) ?_; rotate_left; (· intro _ hSw; (obtain ⟨p8, p5, p6, p7, pb, pc⟩ := hSw.cells); first | (go_simp; done) | (go_simp; with_reducible rfl)); try simp only [List.setIfInBounds_toArray, List.set_cons_zero, List.set_cons_succ])
  refine K_no ?_
  refine K_one (i := 1) (by kernel_rfl) rfl (fun K hK => ?_)
  go_simp
  refine (HOF.out _ ((Keeps.refl _ wc).drew)).mono ?_
  rintro e w5 ⟨rfl, hk5⟩
  refine hK.out _ _ (hHeld.fresh hk5) (fun hHeld2 => ?_)
  clear hK K hHeld
  try simp only [Act.put, List.setIfInBounds_toArray, List.set_cons_zero, List.set_cons_succ]
  refine K_is [24] ?_
  iterate 1 (refine K_yD (v := ?_) rfl rfl (by kernel_rfl) (fun _ _ _ h => h) (by rfl) ?_ (by assumption) ?_; rotate_left; (· intro _ hSw; (obtain ⟨p8, p5, p6, p7, pb, pc⟩ := hSw.cells); first | (go_simp; done) | (go_simp; with_reducible rfl)); try simp only [List.setIfInBounds_toArray, List.set_cons_zero, List.set_cons_succ])
  refine K_no ?_
  have hk05 : Fresh wc w5 := ((Keeps.refl (fun _ => False) wc).drew).tr hk5
  have ha5 := hk05.heap_some HAC.out (fun h => h)
  have x0 : w5.cell? ⟨w.heap.size + 1 + 1, 0, none⟩ = some (.int .i64 0) := by rw [Lib.cell_of_heap ha5]; rfl
  have x1 : w5.cell? ⟨w.heap.size + 1 + 1, 1, none⟩ = some (.int .i64 0) := by rw [Lib.cell_of_heap ha5]; rfl
  have x2 : w5.cell? ⟨w.heap.size + 1 + 1, 2, none⟩ = some (.int .i64 0) := by rw [Lib.cell_of_heap ha5]; rfl
  have x3 : w5.cell? ⟨w.heap.size + 1 + 1, 3, none⟩ = some (.string ⟨#[]⟩) := by rw [Lib.cell_of_heap ha5]; rfl
  have x4 : w5.cell? ⟨w.heap.size + 1 + 1, 4, none⟩ = some (.int .i64 0) := by rw [Lib.cell_of_heap ha5]; rfl
  have x5 : w5.cell? ⟨w.heap.size + 1 + 1, 5, none⟩ = some (.int .i64 0) := by rw [Lib.cell_of_heap ha5]; rfl
  have x6 : w5.cell? ⟨w.heap.size + 1 + 1, 6, none⟩ = some (.bool false) := by rw [Lib.cell_of_heap ha5]; rfl
  have x7 : w5.cell? ⟨w.heap.size + 1 + 1, 7, none⟩ = some (.int .i64 0) := by rw [Lib.cell_of_heap ha5]; rfl
  have xf : ∀ j, w5.frozen? ⟨w.heap.size + 1 + 1, j, none⟩ = false := fun j => Lib.frozen_of_heap ha5 j
  refine K_last (by kernel_rfl) rfl (fun K hK => ?_)
  go_simp
  refine hK.out _ _ ?_
  clear hK K hHeld2
  try simp only [Act.put, List.setIfInBounds_toArray, List.set_cons_zero, List.set_cons_succ]
  refine K_done (by kernel_rfl) ?_ _
  go_wp2
  have hfin : ∀ X, X = (((((((w5.setCell ⟨w.heap.size + 1 + 1, 0, none⟩ (.int .i64 r.err)).setCell ⟨w.heap.size + 1 + 1, 1, none⟩ (.int .i64 r.n)).setCell ⟨w.heap.size + 1 + 1, 2, none⟩ (.int .i64 r.count)).setCell ⟨w.heap.size + 1 + 1, 3, none⟩ (.string ⟨sk.got.toArray⟩)).setCell ⟨w.heap.size + 1 + 1, 4, none⟩ (.int .i64 sk.offers)).setCell ⟨w.heap.size + 1 + 1, 5, none⟩ (.int .i64 sk.most)).setCell ⟨w.heap.size + 1 + 1, 6, none⟩ (.bool sk.none)).setCell ⟨w.heap.size + 1 + 1, 7, none⟩ (.int .i64 r.reads) →
   (loadVar 27 ⟨w.heap.size + 1 + 1, 0, none⟩).run Tryz.prog X = .ok (wrV r) X ∧ Fresh w X := by
   intro X hX
   have hh : X.heap[w.heap.size + 1 + 1]? = some (.cells #[.int .i64 r.err, .int .i64 r.n, .int .i64 r.count, .string ⟨r.got.toArray⟩, .int .i64 r.offers, .int .i64 r.most, .bool r.none, .int .i64 r.reads] 27 (0, 0)) := by
    rw [hX, heap_set (heap_set (heap_set (heap_set (heap_set (heap_set (heap_set (heap_set ha5 _) _) _) _) _) _) _) _, hg1, hg2, hg3, hg4]
    rfl
   refine ⟨?_, ?_⟩
   ·rw [run_loadVar_row X _ _ _ _ _ _ hh Tryz.underlying27 rfl infoWr]
    rfl
   ·have hk : Keeps (fun j => j = w.heap.size + 1 + 1) w5 X := by
     rw [hX]
     exact ((((((((Keeps.refl (fun j => j = w.heap.size + 1 + 1) w5).setCell (p := ⟨w.heap.size + 1 + 1, 0, none⟩) (fun _ => rfl) _).setCell (p := ⟨w.heap.size + 1 + 1, 1, none⟩) (fun _ => rfl) _).setCell (p := ⟨w.heap.size + 1 + 1, 2, none⟩) (fun _ => rfl) _).setCell (p := ⟨w.heap.size + 1 + 1, 3, none⟩) (fun _ => rfl) _).setCell (p := ⟨w.heap.size + 1 + 1, 4, none⟩) (fun _ => rfl) _).setCell (p := ⟨w.heap.size + 1 + 1, 5, none⟩) (fun _ => rfl) _).setCell (p := ⟨w.heap.size + 1 + 1, 6, none⟩) (fun _ => rfl) _).setCell (p := ⟨w.heap.size + 1 + 1, 7, none⟩) (fun _ => rfl) _
    exact (HFC.out.tr hk05).trans hk (fun j h1 h2 => by omega)
  refine bodyPost_ret (v := wrV r) (res_cell1 rfl rfl (hfin _ rfl).1) rfl ⟨rfl, (hfin _ rfl).2⟩
end Go.Proofs.YtbioecifiogffaaGreatDoor
namespace Go.Proofs.YtbioecifiogffaaGreatDoor
open Go.RowKit
theorem ints_nil (w : World) : IntsAt w (.slice none 0 0) [] := ⟨none, 0, rfl, Nat.le_refl _, fun _ => ⟨rfl, rfl⟩, fun h => absurd rfl h⟩
theorem one_row (w : World) : IntsAt (w.alloc (.cells #[.int .i64 1] 3)) (.slice (some ⟨w.heap.size, 0, none⟩) 1 1) [1] := by
 refine ⟨_, 1, rfl, Nat.le_refl _, fun h => (by cases h), fun _ => ⟨w.heap.size, 0, rfl, fun j hj => ?_⟩⟩
 have : j = 0 := by simp at hj; omega
 subst this
 simp
end Go.Proofs.YtbioecifiogffaaGreatDoor
