/- The law Gathers returns true: whatever text, cut to whatever pieces, at whatever place a read fails: plain.Gather answers as proselaw.come says, and without a reader nothing comes. -/
import Derived.Test.YtbioecifiogffaaDoorCards
import Derived.Test.YtbioecifiogffaaDoorTie
import Derived.Test.YtbioecifiogffaaDoorLaid
import Derived.Test.YtbioecifiogffaaDoorGathersW
import Derived.ProofKit
import Derived.LaidMore
import Derived.OpenShut
import Derived.Lib.SmallJoins
import Derived.Deep.DeepHandedRow
import Derived.Deep.DeepWitnessRowRef
namespace Go.Proofs.YtbioecifiogffaaDoor.lawGathers
open Go.ChangeShapes Go.WideShapes Go.ChangeAt Go.RowKit Go.Joins
open laidVars (own)

abbrev arg0 : Array Value := #[.agg #[.string ⟨#[]⟩, .slice none 0 0, .int .i64 0, .bool false]]

set_option maxRecDepth 1000000 in
theorem in_open {H : Type} {enc : TypeId × Value → H} {W : World} {base : Nat} {v : Value} {d : DataW H} {p : List MemPlace}
    (hok : Value.okWide Tryd.prog W .any base 25 v) (h : DataW.Trod enc Tryd.prog W 0 (fun _ => true) true 25 v d p) :
    ∃ (s : ByteArray) (u : Value) (cs : List Int) (fa : Int) (wt : Bool), v = .agg #[.string s, u, .int .i64 fa, .bool wt] ∧ IntsAt W u cs ∧ s.size ≤ maxLen ∧ cs.length ≤ maxLen ∧ ∀ x ∈ cs, -9223372036854775808 ≤ x ∧ x ≤ 9223372036854775807 := by
  obtain ⟨v0, v1, v2, v3, y0, y1, y2, y3, n, rfl, -, -, r0, r1, r2, r3⟩ := open_agg4 Tryd.underlying25 (by kernel_rfl) (by kernel_rfl) hok h
  obtain ⟨s, e0, -, hs⟩ := DataW.trod_string Tryd.underlying9 r0
  obtain ⟨fa, e2, -, -⟩ := DataW.trod_int Tryd.underlying3 r2
  obtain ⟨wt, e3, -⟩ := DataW.trod_bool Tryd.underlying4 r3
  simp only [List.cons.injEq, and_true] at e0 e2 e3
  subst e0 e2 e3
  rcases open_ints Tryd.underlying23 Tryd.underlying3 (by kernel_rfl) r1 with ⟨hcs, -⟩ | ⟨a, len, cap, zs, hcs, -, hl, hm, hz, -, hcell, hwz⟩
  · simp only [List.cons.injEq, and_true] at hcs
    subst hcs
    exact ⟨s, _, [], fa, wt, rfl, ⟨none, 0, rfl, Nat.le_refl _, fun _ => ⟨rfl, rfl⟩, fun h => absurd rfl h⟩, hs, by simp [maxLen], fun x hx => by cases hx⟩
  · simp only [List.cons.injEq, and_true] at hcs
    subst hcs
    simp only [if_true] at hz
    have hlen : (zs.take len).length = len := by rw [List.length_take, hz]; omega
    refine ⟨s, _, zs.take len, fa, wt, rfl, ⟨some a, cap, by rw [hlen], by rw [hlen]; exact hl, fun h => (by cases h), fun hne => ?_⟩, hs, by rw [hlen]; omega, fun x hx => bounds_i64 (hwz x (List.mem_of_mem_take hx))⟩
    have hp : 0 < zs.length := by
      rcases Nat.eq_zero_or_pos zs.length with h0 | h0
      · rw [List.length_eq_zero_iff.1 h0] at hne; simp at hne
      · exact h0
    obtain ⟨b, off, rfl, hj⟩ := ints_at hcell hp
    refine ⟨b, off, rfl, fun j hjl => ?_⟩
    rw [hlen] at hjl
    rw [hj j (by omega)]
    simp [List.getD, List.getElem?_take, hjl]

theorem laidOut : laidOutB Tryd.prog = true := by kernel_rfl
set_option maxRecDepth 1000000 in
theorem door_met (os : Os) : laidMetH Tryd.prog Rows.gathersRow.laid ((World.doorLaid Tryd.prog 400 os).forCall (fun _ _ => 0) ⟨#[], arg0, []⟩).memory :=
  laidMetH_of_parts3 (fuel := 8) (laidMet_of_run' 8 (by kernel_rfl) (by kernel_rfl)) (by kernel_rfl) (by kernel_rfl)
set_option maxRecDepth 1000000 in
theorem reads (os : Os) {H : Type} (enc : TypeId × Value → H) : ∃ places, DataW.whole enc Tryd.prog ((World.doorLaid Tryd.prog 400 os).forCall (fun _ _ => 0) ⟨#[], arg0, []⟩).memory Tryd.f4.params.toList Rows.gathersSpec.vars false arg0.toList 8 = some ([DataW.agg [.lit (.string []), .nil, .lit (.int .i64 0), .lit (.bool false)]], [], places) :=
  ⟨[], by kernel_rfl⟩

set_option maxRecDepth 100000 in
theorem lifted (os : Os) (started : os.Started) (H : Type) (enc : TypeId × Value → H) (F : Stop.Interp) :
    ReturnsInHanded {} Tryd.checked os 4 .any ((OpenSpec.ofChange Rows.gathersSpec).preRow enc Tryd.prog Tryd.f4 Rows.gathersRow.domain false Rows.gathersRow.laid) (((OpenSpec.ofChange Rows.gathersSpec).at F).post enc Tryd.prog Tryd.f4 false true false false) := by
  obtain ⟨places, hx⟩ := reads os enc
  refine returnsInHanded_of_row (C := Tryd.checked) (s := OpenSpec.ofChange Rows.gathersSpec) own started (by kernel_rfl) Tryd.func4
    (witness_row_atRef (enc := enc) (C := Tryd.checked) false (World.doorLaid Tryd.prog 400 os) arg0 rfl (by kernel_rfl) (by kernel_rfl) (by kernel_rfl)
      (OpenSpec.preRow_of_cond 8 hx (by kernel_rfl) (fun k hk => by cases hk) (by kernel_rfl) (door_met os))) ?_
  intro W base args ds gs before hval hW _ _ _ hL _ _
  have hW' := hW
  obtain ⟨p, q, hA0, hV, rfl, hfz, hnd⟩ := hW
  have hA : DataW.TrodAll enc Tryd.prog W 0 (fun _ => true) true Tryd.f4.params.toList args.toList ds p := hA0
  rw [Tryd.params4] at hA hval
  obtain ⟨v0, d0, rfl, rfl, h0⟩ := trodAll_one hA
  obtain ⟨rfl, rfl⟩ := trodVars_none hV
  simp only [List.append_nil] at hW'
  have hlt : ∀ x ∈ p, x.block < W.heap.size := fun x hx => by simpa using hW'.lt x hx
  have hok := hval 0 25 v0 rfl rfl
  have hL' : laidMet Tryd.prog [("prose/api.ErrLong", Rows.laid_prose_api_ErrLong), ("prose/api.ErrIdle", Rows.laid_prose_api_ErrIdle), ("prose/api.ErrSink", Rows.laid_prose_api_ErrSink)] W ∧ handlesMet Tryd.prog [("errors.errorType", Rows.laid_errors_errorType)] W := hL
  obtain ⟨aL, aI, aS, hLV⟩ := laidVars.vars_of hL'.1 hL'.2
  have hgl : 4 ≤ W.heap.size := World.block_lt_of_cell? W _ hLV.etype
  obtain ⟨s, v, cs, fa, wt, rfl, hv, hs, hl, hw⟩ := in_open hok h0
  refine (Gathers_any aL aI aS s v cs fa wt W hLV hgl hv hs hl hw).mono fun e W' ⟨he, hF⟩ => ?_
  subst he
  exact ⟨_, rfl, _, _, _, [], p ++ [], [], hW', trodAll_cons_mk (shut_bool Tryd.underlying4 _) trodAll_mk0,
    trodAll_cons_mk (Below.trod laidOut (by kernel_rfl) (of_decide_eq_true (by kernel_rfl)) h0 hF.below hlt) trodAll_mk0, rfl, hF.below.frame _, fun h => by cases h⟩

theorem said : Rows.GathersSaid :=
  OpenClaim.holds_of_cond 4 Tryd.f4 rfl rfl rfl rfl rfl rfl rfl ⟨rfl, rfl, rfl, rfl, rfl⟩ rfl rfl rfl rfl rfl (by kernel_rfl) Tryd.func4 (by kernel_rfl)
    (of_decide_eq_true (by kernel_rfl)) (by unfold Func.isWrapper; first | (rw [if_pos (by decide +kernel)]; kernel_rfl) | (rw [if_neg (by decide +kernel)]; exact ⟨rfl, rfl⟩))
    (fun os started H enc _ F => by rw [OpenClaim.pre_eq_preRow]; exact lifted os started H enc F)

theorem plain (f : FuncId) (fn : Func) (hf : Tryd.pinned.checked.prog.funcNamed "prose/proselaw.Gathers" = some f) (hfn : Tryd.pinned.checked.prog.funcs[f]? = some fn) :
    true = Tryd.pinned.checked.prog.looks [] ∧ ∀ (j : Nat) t, fn.params[j]? = some t → Tryd.pinned.checked.prog.wantsStandIn t = false := by
  obtain rfl : f = 4 := Option.some.inj ((show Tryd.prog.funcNamed "prose/proselaw.Gathers" = some 4 by kernel_rfl).symm.trans hf) |>.symm
  obtain rfl : fn = Tryd.f4 := (Option.some.inj (Tryd.func4.symm.trans hfn)).symm
  refine ⟨by kernel_rfl, fun j t ht => ?_⟩
  rw [Tryd.params4] at ht
  match j, ht with
  | 0, ht => exact Option.some.inj ht ▸ (show Tryd.prog.wantsStandIn 25 = false by kernel_rfl)
  | j + 1, ht => simp at ht

/-- The card. -/
theorem card : Rows.GathersCardSaid :=
  Claim7.holds_tied_plain_at .later [] _ _ _ _ said (fun _ h => by cases h) (by kernel_rfl) (fun _ h => by cases h) gathers_row_tie rfl ⟨rfl, rfl⟩ (by kernel_rfl) rfl plain (by kernel_rfl)
#print axioms card
end Go.Proofs.YtbioecifiogffaaDoor.lawGathers
