/- proselaw.All: the walk. Conditions: the listed variables read as the text lays them. -/
import Derived.Test.YtbioecifiogffaaGreatDoorYPulls0
import Derived.Test.YtbioecifiogffaaGreatDoorYWrites0
import Derived.Test.YtbioecifiogffaaGreatDoorYCounted0
import Derived.Test.YtbioecifiogffaaGreatDoorR3
import Derived.Test.YtbioecifiogffaaGreatDoorR12
import Derived.Test.YtbioecifiogffaaGreatDoorR5
set_option linter.unusedVariables false
set_option linter.unusedSimpArgs false
set_option maxHeartbeats 8000000
set_option maxRecDepth 1000000
namespace Go.Proofs.YtbioecifiogffaaGreatDoor
open Go.RowKit
theorem AllLaw_any (aL aI aS : Addr) (w : World) (hV : LaidVars aL aI aS w) (hG : Gl w) (s : ByteArray) (v : Value) (cs : List Int) (fa : Int) (wt : Bool) (hv : IntsAt w v cs) (hm : s.size ≤ maxLen) (hlm : cs.length ≤ maxLen) (hw : ∀ x ∈ cs,-9223372036854775808 ≤ x ∧ x ≤ 9223372036854775807)
 (s' : ByteArray) (v' : Value) (cs' : List Int) (fa' : Int) (wt' : Bool) (hv' : IntsAt w v' cs') (hm' : s'.size ≤ maxLen) (hlm' : cs'.length ≤ maxLen) (hw' : ∀ x ∈ cs',-9223372036854775808 ≤ x ∧ x ≤ 9223372036854775807)
 (sv : Value) (sc : List (Int × Int × Bool)) (hsv : OpsAt w sv sc) (hscm : sc.length ≤ maxLen)
 (tv : Value) (ts : List Int) (fl la lie : Int) (ht : IntsAt w tv ts) (htm : ts.length ≤ maxLen) (k : Int) (hk1 : -9223372036854775808 ≤ k) (hk2 : k ≤ 9223372036854775807) :
 Calls Tryz.prog 4 #[.agg #[.string s,v,.int .i64 fa,.bool wt],.agg #[.string s',v',.int .i64 fa',.bool wt'],sv,.agg #[tv,.int .i64 fl,.int .i64 la,.int .i64 lie],.int .i64 k] w fun e w' => e = .returned (.bool true) ∧ Fresh w w':=by
 have h4 : 4 ≤ w.heap.size:=Nat.le_trans (by decide) hG.2
 have q1:=fun (X : World) (hX : Fresh w X) => Gathers_any aL aI aS s v cs fa wt X (hV.fresh hX) (Nat.le_trans h4 hX.size) (hv.kept hX (fun _ _ h => h)) hm hlm hw
 have q2:=fun (X : World) (hX : Fresh w X) => Blocked_any s X (hG.fresh hX) hm
 have q3:=fun (X : World) (hX : Fresh w X) => Inlined_any s X (hG.fresh hX) hm
 have q4:=fun (X : World) (hX : Fresh w X) => Pulls_any aL aI aS X (hV.fresh hX) (hG.fresh hX) s v cs fa wt (hv.kept hX (fun _ _ h => h)) hm hlm hw s' v' cs' fa' wt' (hv'.kept hX (fun _ _ h => h)) hm' hlm' hw' sv sc (hsv.kept hX (fun _ h => h.elim)) hscm
 have q5:=fun (X : World) (hX : Fresh w X) => Writes_any aL aI aS X (hV.fresh hX) (hG.fresh hX) s v cs fa wt (hv.kept hX (fun _ _ h => h)) hm hlm hw tv ts fl la lie (ht.kept hX (fun _ _ h => h)) htm
 have q6:=fun (X : World) (hX : Fresh w X) => Counted_any aL aI aS X (hV.fresh hX) (hG.fresh hX) s v cs fa wt k (hv.kept hX (fun _ _ h => h)) hm hlm hw hk1 hk2
 obtain ⟨ao,cap,rfl⟩:=hv.form
 obtain ⟨ao',cap',rfl⟩:=hv'.form
 obtain ⟨ato,tcap,rfl⟩:=ht.form
 obtain ⟨so,scap,rfl,hsl,-⟩:=id hsv
 obtain ⟨W1,hW1⟩ : ∃ W,w.alloc (.cells #[.string s,.slice ao cs.length cap,.int .i64 fa,.bool wt] 30) = W:=⟨_,rfl⟩
 obtain ⟨W2,hW2⟩ : ∃ W,W1.alloc (.cells #[.string s',.slice ao' cs'.length cap',.int .i64 fa',.bool wt'] 30) = W:=⟨_,rfl⟩
 obtain ⟨W,hW⟩ : ∃ W,W2.alloc (.cells #[.slice ato ts.length tcap,.int .i64 fl,.int .i64 la,.int .i64 lie] 33) = W:=⟨_,rfl⟩
 have f1 : Fresh w W1:=by rw [← hW1];exact (Keeps.refl _ w).alloc _
 have f2 : Fresh W1 W2:=by rw [← hW2];exact (Keeps.refl _ W1).alloc _
 have f3 : Fresh W2 W:=by rw [← hW];exact (Keeps.refl _ W2).alloc _
 have z1 : W1.heap.size = w.heap.size + 1:=by rw [← hW1];simp
 have z2 : W2.heap.size = w.heap.size + 1 + 1:=by rw [← hW2];simp [z1]
 have r1:=(f2.tr f3).heap_some (show W1.heap[w.heap.size]? = some (.cells #[.string s,.slice ao cs.length cap,.int .i64 fa,.bool wt] 30 (0,0)) from by rw [← hW1];exact heap_alloc_new w _) (fun h => h)
 have r2:=f3.heap_some (show W2.heap[w.heap.size + 1]? = some (.cells #[.string s',.slice ao' cs'.length cap',.int .i64 fa',.bool wt'] 30 (0,0)) from by rw [← hW2,← z1];exact heap_alloc_new W1 _) (fun h => h)
 have r3 : W.heap[w.heap.size + 1 + 1]? = some (.cells #[.slice ato ts.length tcap,.int .i64 fl,.int .i64 la,.int .i64 lie] 33 (0,0)):=by rw [← hW,← z2];exact heap_alloc_new W2 _
 have fW : Fresh w W:=(f1.tr f2).tr f3
 have Q1:=Lib.hid q1
 have Q2:=Lib.hid q2
 have Q3:=Lib.hid q3
 have Q4:=Lib.hid q4
 have Q5:=Lib.hid q5
 have Q6:=Lib.hid q6
 have R1:=Lib.hid r1
 have R2:=Lib.hid r2
 have R3:=Lib.hid r3
 have FW:=Lib.hid fW
 have HW:=Lib.hid (And.intro hW1 (And.intro hW2 (And.intro hW (And.intro z1 z2))))
 clear q1 q2 q3 q4 q5 q6 r1 r2 r3 fW hV hG hv hv' ht hsv hw hw' f1 f2 f3 z1 z2 hW1 hW2 hW
 go_enter Tryz.func4,Tryz.ntmps4
 go_upto_region 1 with fail
 obtain ⟨hW1,hW2,hW,z1,z2⟩:=HW.out
 rw [hW1,hW2,hW]
 clear hW1 hW2 hW z1 z2 HW
 go_wp2
 go_loopw [11] (fun i wr => ∃ j : Nat,i = .int .i64 j ∧ j ≤ 2 ∧ Fresh W wr) (fun i _ => 2 - (intOf i).toNat)
 case atStart => exact ⟨0,rfl,by decide,Keeps.refl _ _⟩
 case round =>
  obtain ⟨j,rfl,hj,hF⟩:=hrel
  by_cases hlt : j < 2
  ·have hi : (j : Int) < 2:=by omega
   have F0:=Lib.hid hF
   clear hF
   obtain ⟨c0,c1,c2,c3⟩:=box4 (Keeps.heap_some F0.out R1.out (fun h => h))
   obtain ⟨d0,d1,d2,d3⟩:=box4 (Keeps.heap_some F0.out R2.out (fun h => h))
   obtain ⟨o0,o1,o2,o3⟩:=box4 (Keeps.heap_some F0.out R3.out (fun h => h))
   go_upto_region 5 with (go_at_call 15;refine (Q1.out _ (FW.out.tr F0.out)).mono ?_;rintro e w1 ⟨rfl,hk⟩)
   have F1:=Lib.hid (Keeps.tr F0.out hk)
   clear hk c0 c1 c2 c3 d0 d1 d2 d3 o0 o1 o2 o3
   obtain ⟨c0,c1,c2,c3⟩:=box4 (Keeps.heap_some F1.out R1.out (fun h => h))
   obtain ⟨d0,d1,d2,d3⟩:=box4 (Keeps.heap_some F1.out R2.out (fun h => h))
   obtain ⟨o0,o1,o2,o3⟩:=box4 (Keeps.heap_some F1.out R3.out (fun h => h))
   go_upto_region 6 with (go_at_call 16;refine (Q2.out _ (FW.out.tr F1.out)).mono ?_;rintro e w2 ⟨rfl,hk⟩)
   have F2:=Lib.hid (Keeps.tr F1.out hk)
   clear hk c0 c1 c2 c3 d0 d1 d2 d3 o0 o1 o2 o3
   obtain ⟨c0,c1,c2,c3⟩:=box4 (Keeps.heap_some F2.out R1.out (fun h => h))
   obtain ⟨d0,d1,d2,d3⟩:=box4 (Keeps.heap_some F2.out R2.out (fun h => h))
   obtain ⟨o0,o1,o2,o3⟩:=box4 (Keeps.heap_some F2.out R3.out (fun h => h))
   go_upto_region 7 with (go_at_call 17;refine (Q3.out _ (FW.out.tr F2.out)).mono ?_;rintro e w3 ⟨rfl,hk⟩)
   have F3:=Lib.hid (Keeps.tr F2.out hk)
   clear hk c0 c1 c2 c3 d0 d1 d2 d3 o0 o1 o2 o3
   obtain ⟨c0,c1,c2,c3⟩:=box4 (Keeps.heap_some F3.out R1.out (fun h => h))
   obtain ⟨d0,d1,d2,d3⟩:=box4 (Keeps.heap_some F3.out R2.out (fun h => h))
   obtain ⟨o0,o1,o2,o3⟩:=box4 (Keeps.heap_some F3.out R3.out (fun h => h))
   go_upto_region 8 with (go_at_call 5;refine (Q4.out _ (FW.out.tr F3.out)).mono ?_;rintro e w4 ⟨rfl,hk⟩)
   have F4:=Lib.hid (Keeps.tr F3.out hk)
   clear hk c0 c1 c2 c3 d0 d1 d2 d3 o0 o1 o2 o3
   obtain ⟨c0,c1,c2,c3⟩:=box4 (Keeps.heap_some F4.out R1.out (fun h => h))
   obtain ⟨d0,d1,d2,d3⟩:=box4 (Keeps.heap_some F4.out R2.out (fun h => h))
   obtain ⟨o0,o1,o2,o3⟩:=box4 (Keeps.heap_some F4.out R3.out (fun h => h))
   go_upto_region 9 with (go_at_call 6;refine (Q5.out _ (FW.out.tr F4.out)).mono ?_;rintro e w5 ⟨rfl,hk⟩)
   have F5:=Lib.hid (Keeps.tr F4.out hk)
   clear hk c0 c1 c2 c3 d0 d1 d2 d3 o0 o1 o2 o3
   obtain ⟨c0,c1,c2,c3⟩:=box4 (Keeps.heap_some F5.out R1.out (fun h => h))
   obtain ⟨d0,d1,d2,d3⟩:=box4 (Keeps.heap_some F5.out R2.out (fun h => h))
   obtain ⟨o0,o1,o2,o3⟩:=box4 (Keeps.heap_some F5.out R3.out (fun h => h))
   go_upto_region 10 with (go_at_call 7;refine (Q6.out _ (FW.out.tr F5.out)).mono ?_;rintro e w6 ⟨rfl,hk⟩)
   have F6:=Lib.hid (Keeps.tr F5.out hk)
   clear hk c0 c1 c2 c3 d0 d1 d2 d3 o0 o1 o2 o3
   go_wp2
   go_roundw
   case rel => exact ⟨j + 1,by go_num,by omega,F6.out⟩
   case measure => simp [intOf];omega
  ·have hi : ¬ (j : Int) < 2:=by omega
   have F0:=Lib.hid hF
   clear hF
   go_wp2
   go_ret
   exact ⟨rfl,FW.out.tr F0.out⟩
end Go.Proofs.YtbioecifiogffaaGreatDoor
