/- The list of asks of law Pulls, opened. No condition. -/
import Derived.Test.YtbioecifiogffaaGreatDoorYPulls0
import Derived.Test.YtbioecifiogffaaGreatDoorR11
import Derived.Deep.Slices
import Derived.Deep.Strs
set_option linter.unusedVariables false
set_option linter.unusedSimpArgs false
set_option maxHeartbeats 8000000
set_option maxRecDepth 1000000
namespace Go.Proofs.YtbioecifiogffaaGreatDoor
open Go.ChangeShapes Go.WideShapes Go.ChangeAt Go.RowKit Go.Joins Go.Deep
theorem op_cells : Tryz.prog.cellsOf 62 = 3:=by kernel_rfl
theorem op_trod {H : Type} {enc : TypeId × Value → H} {w : World} {n : Nat} {cs : List Value} {y : DataW H × List MemPlace} (h : DataW.trod enc Tryz.prog w 0 (fun _ => true) true n 62 cs = some y) :
 ∃ (a b : Int) (c : Bool),cs = [.int .i64 a,.int .i64 b,.bool c]:=by
 obtain ⟨y0,y1,y2,m,-,hl,t0,t1,t2⟩:=trod_struct3 Tryz.underlying62 h
 rw [op_cells] at hl
 match cs,hl with
 | [x0,x1,x2],_ =>
  obtain ⟨a,e0,-,-⟩:=DataW.trod_int Tryz.underlying3 (show DataW.trod enc Tryz.prog w 0 (fun _ => true) true m 3 [x0] = some y0 from t0)
  obtain ⟨b,e1,-,-⟩:=DataW.trod_int Tryz.underlying3 (show DataW.trod enc Tryz.prog w 0 (fun _ => true) true m 3 [x1] = some y1 from t1)
  obtain ⟨c,e2,-⟩:=DataW.trod_bool Tryz.underlying4 (show DataW.trod enc Tryz.prog w 0 (fun _ => true) true m 4 [x2] = some y2 from t2)
  simp only [List.cons.injEq,and_true] at e0 e1 e2
  subst e0 e1 e2
  exact ⟨a,b,c,rfl⟩
theorem ops_open {H : Type} {enc : TypeId × Value → H} {W : World} {base : Nat} {v : Value} {d : DataW H} {p : List MemPlace}
 (hok : Value.okWide Tryz.prog W .any base 40 v) (h : DataW.Trod enc Tryz.prog W 0 (fun _ => true) true 40 v d p) :
 ∃ l : List (Int × Int × Bool),OpsAt W v l ∧ l.length ≤ maxLen:=by
 obtain ⟨a0,len0,cap0,rfl⟩:=okWide_slice Tryz.underlying40 hok
 obtain ⟨fuel,hf⟩:=h
 have hf' : DataW.trod enc Tryz.prog W 0 (fun _ => true) true fuel 40 [.slice a0 len0 cap0] = some (d,p):=hf
 rcases open_slice Tryz.underlying40 hf' with ⟨hcs,-⟩ | ⟨a,len,cap,m,n,D,Pl,hcs,-,hl,hm,hmm,-,hel⟩
 ·simp only [List.cons.injEq,and_true] at hcs
  rw [hcs]
  exact ⟨[],⟨none,0,rfl,Nat.le_refl _,fun h => absurd rfl h⟩,by simp⟩
 ·simp only [List.cons.injEq,and_true] at hcs
  rw [hcs]
  simp only [if_true] at hmm
  subst hmm
  have each : ∀ i,∃ x : Int × Int × Bool,i < len → W.cell? (a.add (i * 3)) = some (.int .i64 x.1) ∧ W.cell? ((a.add (i * 3)).add 1) = some (.int .i64 x.2.1) ∧ W.cell? ((a.add (i * 3)).add 2) = some (.bool x.2.2):=by
   intro i
   by_cases hi : i < len
   ·obtain ⟨cs',h1,h2⟩:=hel i (by omega)
    rw [op_cells] at h1
    obtain ⟨x,y,z,rfl⟩:=op_trod h2
    obtain ⟨-,-,hc⟩:=World.cells?_some h1
    have q0:=hc 0 (by decide)
    have q1:=hc 1 (by decide)
    have q2:=hc 2 (by decide)
    refine ⟨(x,y,z),fun _ => ⟨?_,q1,q2⟩⟩
    simpa [Addr.add] using q0
   ·exact ⟨(0,0,false),fun h => absurd h hi⟩
  obtain ⟨X,hX⟩:=Classical.axiomOfChoice each
  refine ⟨(List.range len).map X,⟨some a,_,by rw [List.length_map,List.length_range],by simpa using hl,fun hne => ?_⟩,by simp;omega⟩
  have hp : 0 < len:=by
   rcases Nat.eq_zero_or_pos len with h0 | h0
   ·subst h0;simp at hne
   ·exact h0
  obtain ⟨b,o,spot⟩:=a
  have h0:=(hX 0 hp).1
  have hspot : spot = none:=by simpa [Addr.add] using World.cell?_spot h0
  subst hspot
  have hblk : b < W.heap.size:=by
   have:=World.block_lt_of_cell? _ _ h0
   simpa [Addr.add] using this
  refine ⟨b,o,rfl,hblk,fun j x hj => ?_⟩
  rw [List.getElem?_map] at hj
  have hjl : j < len:=by
   rcases Nat.lt_or_ge j len with h | h
   ·exact h
   ·rw [List.getElem?_eq_none (by simpa using h)] at hj;simp at hj
  rw [List.getElem?_range hjl] at hj
  simp only [Option.map_some,Option.some.injEq] at hj
  subst hj
  obtain ⟨q0,q1,q2⟩:=hX j hjl
  rw [Addr.add_lit] at q0 q1 q2
  rw [Addr.add_lit] at q1 q2
  exact ⟨q0,q1,q2⟩
end Go.Proofs.YtbioecifiogffaaGreatDoor
