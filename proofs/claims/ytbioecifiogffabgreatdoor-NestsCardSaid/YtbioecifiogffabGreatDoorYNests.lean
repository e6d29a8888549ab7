/- The law Nests returns true: of the events of a text what begins ends, the inner first; what stands within what; how deep. No condition. -/
import Derived.Test.YtbioecifiogffabGreatDoorS1
import Derived.Test.YtbioecifiogffabGreatDoorCards
import Derived.Test.YtbioecifiogffabGreatDoorTie
import Derived.Test.YtbioecifiogffabGreatDoorR11
import Derived.Test.YtbioecifiogffabGreatDoorYNests0
import Derived.ProofKit
import Derived.LaidMore
import Derived.LaidSub
import Derived.LaidHandle
import Derived.OpenShut
import Derived.Lib.SmallJoins
import Derived.Shelf.Vars
import Derived.Lay
import Derived.MakeChecks
import Derived.ChangeMaps5
import Derived.Deep.DeepHandedRow
set_option linter.unusedVariables false
set_option linter.unusedSimpArgs false
set_option maxHeartbeats 8000000
set_option maxRecDepth 1000000
namespace Go.Proofs.YtbioecifiogffabGreatDoor.lawNests
open Go.ChangeShapes Go.WideShapes Go.ChangeAt Go.RowKit Go.Joins
abbrev arg0 : Array Value := #[.string ⟨#[]⟩]
theorem own : ownKnob Tryz.checked.prog.godebug = none := by kernel_rfl
theorem laidOut : laidOutB Tryz.prog = true := by kernel_rfl
noncomputable def base (os : Os) : World := (World.holding Tryz.prog os ⟨#[], #[], []⟩).setCell ⟨3, 0, none⟩ (.iface 143 (.agg #[.pointer (some ⟨10, 54, none⟩)]))
noncomputable def plainL : List (String × DataW Unit) := Rows.nestsRow.laid.filter fun x => x.2.handleName?.isNone
noncomputable def start (os : Os) : World := (base os).layVars Tryz.prog plainL
theorem start_os (os : Os) : (start os).os = os := World.layVars_os _ _ _
theorem fits (os : Os) : (base os).layFits Tryz.prog plainL [] = true := by kernel_rfl
theorem ifaces (os : Os) : (base os).layIfaces Tryz.prog plainL (start os) = true := by kernel_rfl
theorem plain_met (os : Os) : laidMet Tryz.prog plainL (start os) := by
 have e1 : (plainL.filter fun x => (plainL.map (·.1)).contains x.1) = plainL := List.filter_eq_self.2 fun x hx => List.contains_iff_mem.2 (List.mem_map.2 ⟨x, hx, rfl⟩)
 have e2 : (plainL.filter fun x => !(plainL.map (·.1)).contains x.1) = [] := List.filter_eq_nil_iff.2 fun x hx => by rw [List.contains_iff_mem.2 (List.mem_map.2 ⟨x, hx, rfl⟩)]; simp
 exact laidMet_layVars (w0 := base os) (plainL.map (·.1)) [] (by rw [e1]; rfl) (by rw [e1]; exact fits os) (by rw [e1]; exact ifaces os) (by rw [e2]; exact LaidIn.none)
theorem door_met (os : Os) : laidMetH Tryz.prog Rows.nestsRow.laid ((start os).forCall (fun _ _ => 0) ⟨#[], arg0, []⟩).memory :=
 laidMetH_of_parts ((plain_met os).of_heap (by simp [World.memory, World.forCall, Input.heap])) (by kernel_rfl)
theorem start_shaped (os : Os) : ((start os).forCall (fun _ _ => 0) ⟨#[], arg0, []⟩).Shaped Tryz.prog := World.shaped_of_ZipB (by kernel_rfl) (by kernel_rfl)
theorem start_ok (os : Os) : Input.okWideB Tryz.prog ((start os).forCall (fun _ _ => 0) ⟨#[], arg0, []⟩) 3 ⟨#[], arg0, []⟩ = true := by kernel_rfl
theorem reads (os : Os) {H : Type} (enc : TypeId × Value → H) : ∃ places, DataW.whole enc Tryz.prog ((start os).forCall (fun _ _ => 0) ⟨#[], arg0, []⟩).memory Tryz.f3.params.toList Rows.nestsSpec.vars false arg0.toList 8 = some ([.lit (.string [])], [], places) :=
 ⟨[], by kernel_rfl⟩
def wanted (x : String × DataW Unit) : Bool := x.1 == "errors.errorType" || x.1 == "prose/api.ErrLong" || x.1 == "prose/api.ErrIdle" || x.1 == "prose/api.ErrSink"
theorem wanted_eq : Rows.nestsRow.laid.filter wanted = [("errors.errorType", Rows.laid_errors_errorType), ("prose/api.ErrLong", Rows.laid_prose_api_ErrLong), ("prose/api.ErrIdle", Rows.laid_prose_api_ErrIdle), ("prose/api.ErrSink", Rows.laid_prose_api_ErrSink)] := by kernel_rfl
theorem vars_met {W : World} (h : laidMetH Tryz.prog Rows.nestsRow.laid W) : ∃ aL aI aS, LaidVars aL aI aS W := by
 have h2 := h.filter wanted
 rw [wanted_eq] at h2
 have h3 : laidMet Tryz.prog [("prose/api.ErrLong", Rows.laid_prose_api_ErrLong), ("prose/api.ErrIdle", Rows.laid_prose_api_ErrIdle), ("prose/api.ErrSink", Rows.laid_prose_api_ErrSink)] W ∧ handlesMet Tryz.prog [("errors.errorType", Rows.laid_errors_errorType)] W := h2
 exact laidVars.vars_of h3.1 h3.2
theorem lifted (os : Os) (started : os.Started) (H : Type) (enc : TypeId × Value → H) (F : Stop.Interp) :
 ReturnsInHanded {} Tryz.checked os 3 .any ((OpenSpec.ofChange Rows.nestsSpec).preRow enc Tryz.prog Tryz.f3 Rows.nestsRow.domain false Rows.nestsRow.laid) (((OpenSpec.ofChange Rows.nestsSpec).at F).post enc Tryz.prog Tryz.f3 false true false false) := by
 obtain ⟨places, hx⟩ := reads os enc
 refine returnsInHanded_of_row (C := Tryz.checked) (s := OpenSpec.ofChange Rows.nestsSpec) own started (by kernel_rfl) Tryz.func3
  ⟨start os, fun _ _ => 0, ⟨#[], arg0, []⟩, start_os _, start_shaped os, (Input.okWide_of_okWideB (base := 0) (start_ok os)).1, (Input.okWide_of_okWideB (start_ok os)).2,
    OpenSpec.preRow_of_cond 8 hx (by kernel_rfl) (fun k hk => by cases hk) (by kernel_rfl) (door_met os), by
     simp only [Assume.holds]
     exact ⟨by simp, by simp, fun _ => Modest.zero, by simp, by simp⟩⟩ ?_
 intro W base args ds gs before hval hW _ _ _ hL hsh _
 have hW' := hW
 obtain ⟨p, q, hA0, hV, rfl, hfz, hnd⟩ := hW
 have hA : DataW.TrodAll enc Tryz.prog W 0 (fun _ => true) true Tryz.f3.params.toList args.toList ds p := hA0
 rw [Tryz.params3] at hA hval
 obtain ⟨v0, d0, rfl, rfl, h0⟩ := trodAll_one hA
 obtain ⟨rfl, rfl⟩ := trodVars_none hV
 simp only [List.append_nil] at hW'
 have hlt : ∀ x ∈ p, x.block < W.heap.size := fun x hx => by simpa using hW'.lt x hx
 obtain ⟨aL, aI, aS, hLV⟩ := vars_met hL
 obtain ⟨s0, rfl, hs0⟩ := str_open (hval 0 9 v0 rfl rfl) h0
 refine (Nests_any aL aI aS W hLV (gl_of hsh) s0 hs0).mono fun e W' ⟨he, hF⟩ => ?_
 subst he
 exact ⟨_, rfl, _, _, _, [], _, [], hW', trodAll_cons_mk (shut_bool Tryz.underlying4 _) trodAll_mk0, trodAll_cons_mk (Below.trod laidOut (by kernel_rfl) (of_decide_eq_true (by kernel_rfl)) h0 hF.below hlt) (trodAll_mk0), rfl, hF.below.frame _, fun h => by cases h⟩
theorem said : Rows.NestsSaid :=
 OpenClaim.holds_of_cond 3 Tryz.f3 rfl rfl rfl rfl rfl rfl rfl ⟨rfl, rfl, rfl, rfl, rfl⟩ rfl rfl rfl rfl rfl (by kernel_rfl) Tryz.func3 (by kernel_rfl)
  (of_decide_eq_true (by kernel_rfl)) (by unfold Func.isWrapper; first | (rw [if_pos (by decide +kernel)]; kernel_rfl) | (rw [if_neg (by decide +kernel)]; exact ⟨rfl, rfl⟩))
  (fun os started H enc _ F => by rw [OpenClaim.pre_eq_preRow]; exact lifted os started H enc F)
theorem plain (f : FuncId) (fn : Func) (hf : Tryz.pinned.checked.prog.funcNamed "prose/prosekeep.Nests" = some f) (hfn : Tryz.pinned.checked.prog.funcs[f]? = some fn) :
 true = Tryz.pinned.checked.prog.looks [] ∧ ∀ (j : Nat) t, fn.params[j]? = some t → Tryz.pinned.checked.prog.wantsStandIn t = false := by
 obtain rfl : f = 3 := Option.some.inj ((show Tryz.prog.funcNamed "prose/prosekeep.Nests" = some 3 by kernel_rfl).symm.trans hf) |>.symm
 obtain rfl : fn = Tryz.f3 := (Option.some.inj (Tryz.func3.symm.trans hfn)).symm
 refine ⟨by kernel_rfl, fun j t ht => ?_⟩
 rw [Tryz.params3] at ht
 match j, ht with
 | 0, ht => exact Option.some.inj ht ▸ (show Tryz.prog.wantsStandIn 9 = false by kernel_rfl)
 | j + 1, ht => simp at ht
theorem card : Rows.NestsCardSaid :=
 Claim7.holds_tied_plain_at .later [] _ _ _ _ said (fun _ h => by cases h) (by kernel_rfl) (fun _ h => by cases h) nests_row_tie rfl ⟨rfl, rfl⟩ (by kernel_rfl) rfl plain (by kernel_rfl)
#print axioms card
end Go.Proofs.YtbioecifiogffabGreatDoor.lawNests
