/- The law All returns true: all laws, twice. No condition. -/
import Derived.Test.YtbioecifiogffaaGreatDoorS1
import Derived.Test.YtbioecifiogffaaGreatDoorCards
import Derived.Test.YtbioecifiogffaaGreatDoorTie
import Derived.Test.YtbioecifiogffaaGreatDoorR11
import Derived.Test.YtbioecifiogffaaGreatDoorYAll1
import Derived.ProofKit
import Derived.LaidMore
import Derived.LaidSub
import Derived.LaidHandle
import Derived.OpenShut
import Derived.Lib.SmallJoins
import Derived.Shelf.Vars
import Derived.Lay
import Derived.MakeChecks
import Derived.ChangeMaps5
import Derived.Deep.DeepHandedRow
set_option linter.unusedVariables false
set_option linter.unusedSimpArgs false
set_option maxHeartbeats 8000000
set_option maxRecDepth 1000000
namespace Go.Proofs.YtbioecifiogffaaGreatDoor.lawAll
open Go.ChangeShapes Go.WideShapes Go.ChangeAt Go.RowKit Go.Joins
abbrev arg0 : Array Value:=#[.agg #[.string ⟨#[]⟩,.slice none 0 0,.int .i64 0,.bool false],.agg #[.string ⟨#[]⟩,.slice none 0 0,.int .i64 0,.bool false],.slice none 0 0,.agg #[.slice none 0 0,.int .i64 0,.int .i64 0,.int .i64 0],.int .i64 0]
theorem own : ownKnob Tryz.checked.prog.godebug = none:=by kernel_rfl
theorem laidOut : laidOutB Tryz.prog = true:=by kernel_rfl
noncomputable def base (os : Os) : World:=(World.holding Tryz.prog os ⟨#[],#[],[]⟩).setCell ⟨3,0,none⟩ (.iface 193 (.agg #[.pointer (some ⟨10,75,none⟩)]))
noncomputable def plainL : List (String × DataW Unit):=Rows.allRow.laid.filter fun x => x.2.handleName?.isNone
noncomputable def start (os : Os) : World:=(base os).layVars Tryz.prog plainL
theorem start_os (os : Os) : (start os).os = os:=World.layVars_os _ _ _
theorem fits (os : Os) : (base os).layFits Tryz.prog plainL [] = true:=by kernel_rfl
theorem ifaces (os : Os) : (base os).layIfaces Tryz.prog plainL (start os) = true:=by kernel_rfl
theorem plain_met (os : Os) : laidMet Tryz.prog plainL (start os):=by
 have e1 : (plainL.filter fun x => (plainL.map (·.1)).contains x.1) = plainL:=List.filter_eq_self.2 fun x hx => List.contains_iff_mem.2 (List.mem_map.2 ⟨x,hx,rfl⟩)
 have e2 : (plainL.filter fun x => !(plainL.map (·.1)).contains x.1) = []:=List.filter_eq_nil_iff.2 fun x hx => by rw [List.contains_iff_mem.2 (List.mem_map.2 ⟨x,hx,rfl⟩)];simp
 exact laidMet_layVars (w0:=base os) (plainL.map (·.1)) [] (by rw [e1];rfl) (by rw [e1];exact fits os) (by rw [e1];exact ifaces os) (by rw [e2];exact LaidIn.none)
theorem door_met (os : Os) : laidMetH Tryz.prog Rows.allRow.laid ((start os).forCall (fun _ _ => 0) ⟨#[],arg0,[]⟩).memory :=
 laidMetH_of_parts ((plain_met os).of_heap (by simp [World.memory,World.forCall,Input.heap])) (by kernel_rfl)
theorem start_shaped (os : Os) : ((start os).forCall (fun _ _ => 0) ⟨#[],arg0,[]⟩).Shaped Tryz.prog:=World.shaped_of_ZipB (by kernel_rfl) (by kernel_rfl)
theorem start_ok (os : Os) : Input.okWideB Tryz.prog ((start os).forCall (fun _ _ => 0) ⟨#[],arg0,[]⟩) 4 ⟨#[],arg0,[]⟩ = true:=by kernel_rfl
theorem reads (os : Os) {H : Type} (enc : TypeId × Value → H) : ∃ places,DataW.whole enc Tryz.prog ((start os).forCall (fun _ _ => 0) ⟨#[],arg0,[]⟩).memory Tryz.f4.params.toList Rows.allSpec.vars false arg0.toList 8 = some ([.agg [.lit (.string []),.nil,.lit (.int .i64 0),.lit (.bool false)],.agg [.lit (.string []),.nil,.lit (.int .i64 0),.lit (.bool false)],.nil,.agg [.nil,.lit (.int .i64 0),.lit (.int .i64 0),.lit (.int .i64 0)],.lit (.int .i64 0)],[],places) :=
 ⟨[],by kernel_rfl⟩
def wanted (x : String × DataW Unit) : Bool:=x.1 == "errors.errorType" || x.1 == "prose/api.ErrLong" || x.1 == "prose/api.ErrIdle" || x.1 == "prose/api.ErrSink"
theorem wanted_eq : Rows.allRow.laid.filter wanted = [("errors.errorType",Rows.laid_errors_errorType),("prose/api.ErrLong",Rows.laid_prose_api_ErrLong),("prose/api.ErrIdle",Rows.laid_prose_api_ErrIdle),("prose/api.ErrSink",Rows.laid_prose_api_ErrSink)]:=by kernel_rfl
theorem vars_met {W : World} (h : laidMetH Tryz.prog Rows.allRow.laid W) : ∃ aL aI aS,LaidVars aL aI aS W:=by
 have h2:=h.filter wanted
 rw [wanted_eq] at h2
 have h3 : laidMet Tryz.prog [("prose/api.ErrLong",Rows.laid_prose_api_ErrLong),("prose/api.ErrIdle",Rows.laid_prose_api_ErrIdle),("prose/api.ErrSink",Rows.laid_prose_api_ErrSink)] W ∧ handlesMet Tryz.prog [("errors.errorType",Rows.laid_errors_errorType)] W:=h2
 exact laidVars.vars_of h3.1 h3.2
theorem lifted (os : Os) (started : os.Started) (H : Type) (enc : TypeId × Value → H) (F : Stop.Interp) :
 ReturnsInHanded {} Tryz.checked os 4 .any ((OpenSpec.ofChange Rows.allSpec).preRow enc Tryz.prog Tryz.f4 Rows.allRow.domain false Rows.allRow.laid) (((OpenSpec.ofChange Rows.allSpec).at F).post enc Tryz.prog Tryz.f4 false true false false):=by
 obtain ⟨places,hx⟩:=reads os enc
 refine returnsInHanded_of_row (C:=Tryz.checked) (s:=OpenSpec.ofChange Rows.allSpec) own started (by kernel_rfl) Tryz.func4
  ⟨start os,fun _ _ => 0,⟨#[],arg0,[]⟩,start_os _,start_shaped os,(Input.okWide_of_okWideB (base:=0) (start_ok os)).1,(Input.okWide_of_okWideB (start_ok os)).2,
    OpenSpec.preRow_of_cond 8 hx (by kernel_rfl) (fun k hk => by cases hk) (by kernel_rfl) (door_met os),by
     simp only [Assume.holds]
     exact ⟨by simp,by simp,fun _ => Modest.zero,by simp,by simp⟩⟩ ?_
 intro W base args ds gs before hval hW _ _ _ hL hsh _
 have hW':=hW
 obtain ⟨p,q,hA0,hV,rfl,hfz,hnd⟩:=hW
 have hA : DataW.TrodAll enc Tryz.prog W 0 (fun _ => true) true Tryz.f4.params.toList args.toList ds p:=hA0
 rw [Tryz.params4] at hA hval
 obtain ⟨v0,v1,v2,v3,v4,d0,d1,d2,d3,d4,p0,p1,p2,p3,p4,rfl,rfl,rfl,h0,h1,h2,h3,h4⟩:=trodAll_five hA
 obtain ⟨rfl,rfl⟩:=trodVars_none hV
 simp only [List.append_nil] at hW'
 have hlt : ∀ x ∈ p0 ++ p1 ++ p2 ++ p3 ++ p4,x.block < W.heap.size:=fun x hx => by simpa using hW'.lt x hx
 obtain ⟨aL,aI,aS,hLV⟩:=vars_met hL
 obtain ⟨s0,u0,l0,f0,b0,rfl,hv0,hs0,hl0,hw0⟩:=in_open (hval 0 30 v0 rfl rfl) h0
 obtain ⟨s1,u1,l1,f1,b1,rfl,hv1,hs1,hl1,hw1⟩:=in_open (hval 1 30 v1 rfl rfl) h1
 obtain ⟨l2,hv2,hl2⟩:=ops_open (hval 2 40 v2 rfl rfl) h2
 obtain ⟨u3,l3,fl3,la3,lie3,rfl,hv3,hl3⟩:=out_open (hval 3 33 v3 rfl rfl) h3
 obtain ⟨n4,rfl,hn4⟩:=int_open (hval 4 3 v4 rfl rfl) h4
 refine (AllLaw_any aL aI aS W hLV (gl_of hsh) s0 u0 l0 f0 b0 hv0 hs0 hl0 hw0 s1 u1 l1 f1 b1 hv1 hs1 hl1 hw1 v2 l2 hv2 hl2 u3 l3 fl3 la3 lie3 hv3 hl3 n4 hn4.1 hn4.2).mono fun e W' ⟨he,hF⟩ => ?_
 subst he
 exact ⟨_,rfl,_,_,_,[],_,[],hW',trodAll_cons_mk (shut_bool Tryz.underlying4 _) trodAll_mk0,trodAll_cons_mk (Below.trod laidOut (by kernel_rfl) (of_decide_eq_true (by kernel_rfl)) h0 hF.below (fun x hx => hlt x (by simp [hx]))) (trodAll_cons_mk (Below.trod laidOut (by kernel_rfl) (of_decide_eq_true (by kernel_rfl)) h1 hF.below (fun x hx => hlt x (by simp [hx]))) (trodAll_cons_mk (Below.trod laidOut (by kernel_rfl) (of_decide_eq_true (by kernel_rfl)) h2 hF.below (fun x hx => hlt x (by simp [hx]))) (trodAll_cons_mk (Below.trod laidOut (by kernel_rfl) (of_decide_eq_true (by kernel_rfl)) h3 hF.below (fun x hx => hlt x (by simp [hx]))) (trodAll_cons_mk (Below.trod laidOut (by kernel_rfl) (of_decide_eq_true (by kernel_rfl)) h4 hF.below (fun x hx => hlt x (by simp [hx]))) (trodAll_mk0))))),rfl,hF.below.frame _,fun h => by cases h⟩
theorem said : Rows.AllSaid :=
 OpenClaim.holds_of_cond 4 Tryz.f4 rfl rfl rfl rfl rfl rfl rfl ⟨rfl,rfl,rfl,rfl,rfl⟩ rfl rfl rfl rfl rfl (by kernel_rfl) Tryz.func4 (by kernel_rfl)
  (of_decide_eq_true (by kernel_rfl)) (by unfold Func.isWrapper;first | (rw [if_pos (by decide +kernel)];kernel_rfl) | (rw [if_neg (by decide +kernel)];exact ⟨rfl,rfl⟩))
  (fun os started H enc _ F => by rw [OpenClaim.pre_eq_preRow];exact lifted os started H enc F)
theorem plain (f : FuncId) (fn : Func) (hf : Tryz.pinned.checked.prog.funcNamed "prose/proselaw.All" = some f) (hfn : Tryz.pinned.checked.prog.funcs[f]? = some fn) :
 true = Tryz.pinned.checked.prog.looks [] ∧ ∀ (j : Nat) t,fn.params[j]? = some t → Tryz.pinned.checked.prog.wantsStandIn t = false:=by
 obtain rfl : f = 4:=Option.some.inj ((show Tryz.prog.funcNamed "prose/proselaw.All" = some 4 by kernel_rfl).symm.trans hf) |>.symm
 obtain rfl : fn = Tryz.f4:=(Option.some.inj (Tryz.func4.symm.trans hfn)).symm
 refine ⟨by kernel_rfl,fun j t ht => ?_⟩
 rw [Tryz.params4] at ht
 match j,ht with
 | 0,ht => exact Option.some.inj ht ▸ (show Tryz.prog.wantsStandIn 30 = false by kernel_rfl)
 | 1,ht => exact Option.some.inj ht ▸ (show Tryz.prog.wantsStandIn 30 = false by kernel_rfl)
 | 2,ht => exact Option.some.inj ht ▸ (show Tryz.prog.wantsStandIn 40 = false by kernel_rfl)
 | 3,ht => exact Option.some.inj ht ▸ (show Tryz.prog.wantsStandIn 33 = false by kernel_rfl)
 | 4,ht => exact Option.some.inj ht ▸ (show Tryz.prog.wantsStandIn 3 = false by kernel_rfl)
 | j + 5,ht => simp at ht
theorem card : Rows.AllCardSaid :=
 Claim7.holds_tied_plain_at .later [] _ _ _ _ said (fun _ h => by cases h) (by kernel_rfl) (fun _ h => by cases h) all_row_tie rfl ⟨rfl,rfl⟩ (by kernel_rfl) rfl plain (by kernel_rfl)
#print axioms card
end Go.Proofs.YtbioecifiogffaaGreatDoor.lawAll
