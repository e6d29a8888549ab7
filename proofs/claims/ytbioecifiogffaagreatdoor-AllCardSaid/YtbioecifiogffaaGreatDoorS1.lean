/- Texts of this proof, joined: Base, Laid, Args. Conditions: as each theorem names them. -/
import Derived.Test.YtbioecifiogffaaGreatDoorR1
import Derived.Test.YtbioecifiogffaaGreatDoorR2
import Derived.Test.YtbioecifiogffaaGreatDoorR3
import Derived.Test.YtbioecifiogffaaGreatDoorR4
import Derived.Test.YtbioecifiogffaaGreatDoorR5
import Derived.Test.YtbioecifiogffaaGreatDoorR6
import Derived.Test.YtbioecifiogffaaGreatDoorR7
import Derived.Test.YtbioecifiogffaaGreatDoorR8
import Derived.Test.YtbioecifiogffaaGreatDoorR9
import Derived.Test.YtbioecifiogffaaGreatDoorR10
import Derived.Test.YtbioecifiogffaaGreatDoorR11
import Derived.Test.YtbioecifiogffaaGreatDoorR12
import Derived.Test.YtbioecifiogffaaGreatDoorProg
import Derived.Test.YtbioecifiogffaaGreatDoorRows
import Derived.WalkKit
import Derived.WalkSpells
import Derived.WalkLawsBesides
import Derived.Lib.OthersKept
import Derived.Lib.FrozenHead2
import Derived.Lib.Hide
import Derived.ProofKit
import Derived.LaidMore
import Derived.OpenShut
import Derived.Stop.LaidErr
import Derived.Deep.DeepHandedRow
import Derived.Deep.DeepWitnessRowRef
import Derived.Lib.SmallJoins
import Derived.Shelf.Vars
import Derived.ChangeMaps5
set_option linter.unusedVariables false
set_option linter.unusedSimpArgs false
set_option maxHeartbeats 8000000
set_option maxRecDepth 1000000
namespace Go.Proofs.YtbioecifiogffaaGreatDoor
open Go.RowKit
namespace Keeps
variable {D D' : Nat → Prop} {a b c w w' : World}
end Keeps
theorem Fresh.below {w w' : World} (h : Fresh w w') : Below w.heap.size w w':=Keeps.below h (Nat.le_refl _) (fun _ _ h => h)
end Go.Proofs.YtbioecifiogffaaGreatDoor
namespace Go.Proofs.YtbioecifiogffaaGreatDoor.laidVars
open Go.ChangeShapes Go.WideShapes Go.ChangeAt Go.RowKit
theorem gLong : Tryz.prog.globalNamed "prose/api.ErrLong" = some 1:=by kernel_rfl
theorem gIdle : Tryz.prog.globalNamed "prose/api.ErrIdle" = some 2:=by kernel_rfl
theorem gSink : Tryz.prog.globalNamed "prose/api.ErrSink" = some 0:=by kernel_rfl
theorem tLong : (Tryz.prog.globals[1]?).map (·.type) = some 75:=by kernel_rfl
theorem tIdle : (Tryz.prog.globals[2]?).map (·.type) = some 75:=by kernel_rfl
theorem tSink : (Tryz.prog.globals[0]?).map (·.type) = some 75:=by kernel_rfl
theorem cellsE : Tryz.prog.cellsOf 303 = 1:=by kernel_rfl
theorem cellsS : Tryz.prog.cellsOf 9 = 1:=by kernel_rfl
theorem star : "*" ++ "errors.errorString" = "*errors.errorString":=by decide
theorem rowE (u : TypeId) (h : Tryz.prog.typeName? 3 u = some "*errors.errorString") : u = 283 :=
 typeName_ptr_named (nm:="errors.errorString") (by rw [star];kernel_rfl) (by kernel_rfl) (by decide) u (by rw [star];exact h)
theorem sentinel_blk {P : Program} {n nm : String} {text : List UInt8} {r : List (String × DataW Unit)} {W : World} {g : Nat} {ti tp te ts : TypeId} {ms : Array (String × TypeId)} {f : Field}
 (h : laidMet P ((n,.iface nm (.ptr (.agg [.lit (.string text)]))) :: r) W)
 (hg : P.globalNamed n = some g) (ht : (P.globals[g]?).map (·.type) = some ti) (hi : P.underlying ti = some (.interface ms)) (hrow : ∀ u,P.typeName? 3 u = some nm → u = tp)
 (hp : P.underlying tp = some (.pointer te)) (he : P.underlying te = some (.struct #[f])) (hft : f.type = ts) (hfo : f.offset = 0) (hs : P.underlying ts = some .string) (hc : P.cellsOf te = 1) (hcs : P.cellsOf ts = 1) :
 ∃ (a : Addr) (s : ByteArray) (c : Array Value) (t : TypeId),W.cell? ⟨g,0,none⟩ = some (.iface tp (.pointer (some a))) ∧ W.cell? a = some (.string s) ∧ s.data.toList = text ∧ W.heap[a.block]? = some (.cells c t (0,0)):=by
 obtain ⟨ps,⟨g0,t0,cs0,f0,p0,q0,hg0,ht0,hv0,hd0,_,e0⟩,_,hrows⟩:=h
 obtain rfl:=Option.some.inj (hg.symm.trans hg0)
 obtain rfl:=Option.some.inj (ht.symm.trans ht0)
 subst e0
 obtain ⟨l0⟩:=cs0
 have ok0 : ∀ u v,l0 = [.iface u v] → Value.okWide P W .any 0 u v:=fun u v e => by
  subst e
  exact (hrows g 0 (by simp [MemPlace.row])).2 u v (by simpa using World.var?_cell hg0 hv0 0)
 obtain ⟨a0,s0,rfl,hc0,hs0,hz0,rfl⟩:=errorString_of_trod hi hrow hp he hft hfo hs hc hcs hd0 ok0
 obtain ⟨c0,t0,hb0⟩:=(hrows a0.block a0.off (by simp [MemPlace.row])).1
 exact ⟨a0,s0,c0,t0,by simpa using World.var?_cell hg0 hv0 0,hc0,hs0,hb0⟩
theorem three {n0 n1 n2 : String} {g0 g1 g2 : Nat} {x0 x1 x2 : List UInt8} {W : World} (hne01 : x0 ≠ x1) (hne02 : x0 ≠ x2) (hne12 : x1 ≠ x2)
 (hg0 : Tryz.prog.globalNamed n0 = some g0) (hg1 : Tryz.prog.globalNamed n1 = some g1) (hg2 : Tryz.prog.globalNamed n2 = some g2)
 (ht0 : (Tryz.prog.globals[g0]?).map (·.type) = some 75) (ht1 : (Tryz.prog.globals[g1]?).map (·.type) = some 75) (ht2 : (Tryz.prog.globals[g2]?).map (·.type) = some 75)
 (h : laidMet Tryz.prog [(n0,.iface "*errors.errorString" (.ptr (.agg [.lit (.string x0)]))),(n1,.iface "*errors.errorString" (.ptr (.agg [.lit (.string x1)]))),(n2,.iface "*errors.errorString" (.ptr (.agg [.lit (.string x2)])))] W) :
 ∃ (a0 a1 a2 : Addr) (c0 c1 c2 : Array Value) (t0 t1 t2 : TypeId),
  W.cell? ⟨g0,0,none⟩ = some (.iface 283 (.pointer (some a0))) ∧ W.cell? ⟨g1,0,none⟩ = some (.iface 283 (.pointer (some a1))) ∧ W.cell? ⟨g2,0,none⟩ = some (.iface 283 (.pointer (some a2))) ∧
  a0 ≠ a1 ∧ a0 ≠ a2 ∧ a1 ≠ a2 ∧
  W.heap[a0.block]? = some (.cells c0 t0 (0,0)) ∧ W.heap[a1.block]? = some (.cells c1 t1 (0,0)) ∧ W.heap[a2.block]? = some (.cells c2 t2 (0,0)):=by
 have blk : ∀ {n : String} {g : Nat} {x : List UInt8} {r : List (String × DataW Unit)},laidMet Tryz.prog ((n,.iface "*errors.errorString" (.ptr (.agg [.lit (.string x)]))) :: r) W → Tryz.prog.globalNamed n = some g → (Tryz.prog.globals[g]?).map (·.type) = some 75 →
  ∃ (a : Addr) (s : ByteArray) (c : Array Value) (t : TypeId),W.cell? ⟨g,0,none⟩ = some (.iface 283 (.pointer (some a))) ∧ W.cell? a = some (.string s) ∧ s.data.toList = x ∧ W.heap[a.block]? = some (.cells c t (0,0)):=by
  intro n g x r h hg ht
  exact sentinel_blk h hg ht Tryz.underlying75 rowE Tryz.underlying283 Tryz.underlying303 rfl rfl Tryz.underlying9 cellsE cellsS
 obtain ⟨a0,s0,c0,t0,e0,f0,x0,k0⟩:=blk h hg0 ht0
 obtain ⟨a1,s1,c1,t1,e1,f1,x1,k1⟩:=blk h.tail hg1 ht1
 obtain ⟨a2,s2,c2,t2,e2,f2,x2,k2⟩:=blk h.tail.tail hg2 ht2
 refine ⟨a0,a1,a2,c0,c1,c2,t0,t1,t2,e0,e1,e2,?_,?_,?_,k0,k1,k2⟩
 ·rintro rfl
  rw [f0] at f1
  cases f1
  exact hne01 (x0.symm.trans x1)
 ·rintro rfl
  rw [f0] at f2
  cases f2
  exact hne02 (x0.symm.trans x2)
 ·rintro rfl
  rw [f1] at f2
  cases f2
  exact hne12 (x1.symm.trans x2)
theorem gType : Tryz.prog.globalNamed "errors.errorType" = some 3:=by kernel_rfl
theorem rtypeT : (Tryz.prog.cutTypes.find? (·.1 == "internal/reflectlite.rtype")).map (·.2) = some 193:=by kernel_rfl
theorem oneRow : ((List.range 314).filter fun t => Tryz.prog.rowNamed t [101,114,114,111,114]) = [75]:=by kernel_rfl
theorem typesN : Tryz.prog.types.size = 314:=by kernel_rfl
theorem handle_of {W : World} {x : String × DataW Unit} (h : handlesMet Tryz.prog [x] W) (hx : x = ("errors.errorType",Rows.laid_errors_errorType)) :
 W.cell? ⟨3,0,none⟩ = some (.iface 193 (.agg #[.pointer (some ⟨10,75,none⟩)])):=by
 subst hx
 obtain ⟨name,u,ty,e1,e2,e3,e4,e5⟩:=h _ (List.mem_singleton.2 rfl)
 have en : name = [101,114,114,111,114]:=(Option.some.inj e1).symm
 subst en
 obtain rfl:=Option.some.inj (rtypeT.symm.trans e2)
 have hm : ty ∈ (List.range 314).filter fun t => Tryz.prog.rowNamed t [101,114,114,111,114]:=List.mem_filter.2 ⟨List.mem_range.2 (by rw [← typesN];exact e3),e4⟩
 rw [oneRow] at hm
 obtain rfl:=List.mem_singleton.1 hm
 have hh : typeHandle Tryz.prog 75 = .pointer (some ⟨10,75,none⟩):=by kernel_rfl
 rw [hh] at e5
 simpa using World.var?_cell gType e5 0
theorem vars_of {W : World} (h : laidMet Tryz.prog [("prose/api.ErrLong",Rows.laid_prose_api_ErrLong),("prose/api.ErrIdle",Rows.laid_prose_api_ErrIdle),("prose/api.ErrSink",Rows.laid_prose_api_ErrSink)] W)
 (h2 : handlesMet Tryz.prog [("errors.errorType",Rows.laid_errors_errorType)] W) : ∃ aL aI aS,LaidVars aL aI aS W:=by
 obtain ⟨a0,a1,a2,c0,c1,c2,t0,t1,t2,e0,e1,e2,n01,n02,n12,k0,k1,k2⟩:=three (by decide) (by decide) (by decide) gLong gIdle gSink tLong tIdle tSink h
 exact ⟨a0,a1,a2,e0,e1,e2,handle_of h2 rfl,n01,n02,n12,⟨_,_,k0⟩,⟨_,_,k1⟩,⟨_,_,k2⟩⟩
end Go.Proofs.YtbioecifiogffaaGreatDoor.laidVars
namespace Go.Proofs.YtbioecifiogffaaGreatDoor
open Go.ChangeShapes Go.WideShapes Go.ChangeAt Go.RowKit Go.Joins
theorem ints_trod {H : Type} {enc : TypeId × Value → H} {W : World} {n : Nat} {u : Value} {y : DataW H × List MemPlace} (r1 : DataW.trod enc Tryz.prog W 0 (fun _ => true) true n 22 [u] = some y) :
 ∃ cs : List Int,IntsAt W u cs ∧ cs.length ≤ maxLen ∧ ∀ x ∈ cs,-9223372036854775808 ≤ x ∧ x ≤ 9223372036854775807:=by
 rcases open_ints Tryz.underlying22 Tryz.underlying3 (by kernel_rfl) r1 with ⟨hcs,-⟩ | ⟨a,len,cap,zs,hcs,-,hl,hm,hz,-,hcell,hwz⟩
 ·simp only [List.cons.injEq,and_true] at hcs
  subst hcs
  exact ⟨[],⟨none,0,rfl,Nat.le_refl _,fun _ => ⟨rfl,rfl⟩,fun h => absurd rfl h⟩,by simp [maxLen],fun x hx => by cases hx⟩
 ·simp only [List.cons.injEq,and_true] at hcs
  subst hcs
  simp only [if_true] at hz
  have hlen : (zs.take len).length = len:=by rw [List.length_take,hz];omega
  refine ⟨zs.take len,⟨some a,cap,by rw [hlen],by rw [hlen];exact hl,fun h => (by cases h),fun hne => ?_⟩,by rw [hlen];omega,fun x hx => bounds_i64 (hwz x (List.mem_of_mem_take hx))⟩
  have hp : 0 < zs.length:=by
   rcases Nat.eq_zero_or_pos zs.length with h0 | h0
   ·rw [List.length_eq_zero_iff.1 h0] at hne;simp at hne
   ·exact h0
  obtain ⟨b,off,rfl,hj⟩:=ints_at hcell hp
  refine ⟨b,off,rfl,fun j hjl => ?_⟩
  rw [hlen] at hjl
  rw [hj j (by omega)]
  simp [List.getD,List.getElem?_take,hjl]
theorem int_open {H : Type} {enc : TypeId × Value → H} {W : World} {base : Nat} {v : Value} {d : DataW H} {p : List MemPlace}
 (hok : Value.okWide Tryz.prog W .any base 3 v) (h : DataW.Trod enc Tryz.prog W 0 (fun _ => true) true 3 v d p) : ∃ n : Int,v = .int .i64 n ∧ -9223372036854775808 ≤ n ∧ n ≤ 9223372036854775807:=by
 obtain ⟨n,rfl⟩:=okWide_int Tryz.underlying3 hok
 obtain ⟨fuel,hf⟩:=h
 obtain ⟨n',e,-,hw⟩:=DataW.trod_int Tryz.underlying3 (show DataW.trod enc Tryz.prog W 0 (fun _ => true) true fuel 3 [.int .i64 n] = some (d,p) from hf)
 simp only [List.cons.injEq,and_true] at e
 cases e
 exact ⟨n,rfl,bounds_i64 hw⟩
theorem in_open {H : Type} {enc : TypeId × Value → H} {W : World} {base : Nat} {v : Value} {d : DataW H} {p : List MemPlace}
 (hok : Value.okWide Tryz.prog W .any base 30 v) (h : DataW.Trod enc Tryz.prog W 0 (fun _ => true) true 30 v d p) :
 ∃ (s : ByteArray) (u : Value) (cs : List Int) (fa : Int) (wt : Bool),v = .agg #[.string s,u,.int .i64 fa,.bool wt] ∧ IntsAt W u cs ∧ s.size ≤ maxLen ∧ cs.length ≤ maxLen ∧ ∀ x ∈ cs,-9223372036854775808 ≤ x ∧ x ≤ 9223372036854775807:=by
 obtain ⟨v0,v1,v2,v3,y0,y1,y2,y3,n,rfl,-,-,r0,r1,r2,r3⟩:=open_agg4 Tryz.underlying30 (by kernel_rfl) (by kernel_rfl) hok h
 obtain ⟨s,e0,-,hs⟩:=DataW.trod_string Tryz.underlying9 r0
 obtain ⟨fa,e2,-,-⟩:=DataW.trod_int Tryz.underlying3 r2
 obtain ⟨wt,e3,-⟩:=DataW.trod_bool Tryz.underlying4 r3
 simp only [List.cons.injEq,and_true] at e0 e2 e3
 subst e0 e2 e3
 obtain ⟨cs,h1,h2,h3⟩:=ints_trod r1
 exact ⟨s,_,cs,fa,wt,rfl,h1,hs,h2,h3⟩
theorem out_open {H : Type} {enc : TypeId × Value → H} {W : World} {base : Nat} {v : Value} {d : DataW H} {p : List MemPlace}
 (hok : Value.okWide Tryz.prog W .any base 33 v) (h : DataW.Trod enc Tryz.prog W 0 (fun _ => true) true 33 v d p) :
 ∃ (u : Value) (cs : List Int) (fl la lie : Int),v = .agg #[u,.int .i64 fl,.int .i64 la,.int .i64 lie] ∧ IntsAt W u cs ∧ cs.length ≤ maxLen:=by
 obtain ⟨v0,v1,v2,v3,y0,y1,y2,y3,n,rfl,-,-,r0,r1,r2,r3⟩:=open_agg4 Tryz.underlying33 (by kernel_rfl) (by kernel_rfl) hok h
 obtain ⟨fl,e1,-,-⟩:=DataW.trod_int Tryz.underlying3 r1
 obtain ⟨la,e2,-,-⟩:=DataW.trod_int Tryz.underlying3 r2
 obtain ⟨lie,e3,-,-⟩:=DataW.trod_int Tryz.underlying3 r3
 simp only [List.cons.injEq,and_true] at e1 e2 e3
 subst e1 e2 e3
 obtain ⟨cs,h1,h2,-⟩:=ints_trod r0
 exact ⟨_,cs,fl,la,lie,rfl,h1,h2⟩
theorem globalsN : Tryz.prog.globals.size = 10:=by kernel_rfl
theorem gl_of {W : World} (h : W.ShapedOpen Tryz.prog) : Gl W:=by
 refine ⟨cell_of_shapedOpen_int (t:=3) (zero:=#[.int .i64 0]) h (by rw [globalsN];decide) (by kernel_rfl) rfl (by kernel_rfl) (by kernel_rfl) Tryz.underlying3,?_⟩
 obtain ⟨x,hx⟩:=Option.isSome_iff_exists.1 (show (((begin Tryz.prog (fun _ _ => 0) default).world.heap[10 - 1]?).bind Obj.row?).isSome = true by kernel_rfl)
 obtain ⟨cs,hh,-⟩:=h.1 (10 - 1) x.1 x.2 (by rw [globalsN];decide) hx
 have:=(Array.getElem?_eq_some_iff.1 hh).1
 omega
end Go.Proofs.YtbioecifiogffaaGreatDoor
