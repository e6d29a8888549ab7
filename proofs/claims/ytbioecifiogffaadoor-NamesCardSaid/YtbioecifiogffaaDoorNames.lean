/- The law Names returns true: the given constants have the given values, and the three sentinel errors of package api are there and different. No condition beyond the row's own: the three variables read as the program's text lays them. -/
import Derived.Test.YtbioecifiogffaaDoorCards
import Derived.Test.YtbioecifiogffaaDoorTie
import Derived.Test.YtbioecifiogffaaDoorSame
import Derived.ProofKit
import Derived.LaidMore
import Derived.OpenShut
import Derived.Stop.LaidErr
import Derived.Deep.DeepHandedRow
import Derived.Deep.DeepWitnessRowRef
namespace Go.Proofs.YtbioecifiogffaaDoor.lawNames
open Go.ChangeShapes Go.WideShapes Go.ChangeAt Go.RowKit

theorem own : ownKnob Tryd.prog.godebug = none := by kernel_rfl

theorem names_any (w : World) (a0 a1 a2 : Addr) (c0 c1 c2 : Array Value) (t0 t1 t2 : TypeId)
    (h0 : w.cell? ⟨0, 0, none⟩ = some (.iface 197 (.pointer (some a0))))
    (h1 : w.cell? ⟨1, 0, none⟩ = some (.iface 197 (.pointer (some a1))))
    (h2 : w.cell? ⟨2, 0, none⟩ = some (.iface 197 (.pointer (some a2))))
    (n01 : a0 ≠ a1) (n02 : a0 ≠ a2) (n12 : a1 ≠ a2)
    (b0 : w.heap[a0.block]? = some (.cells c0 t0 (0, 0))) (b1 : w.heap[a1.block]? = some (.cells c1 t1 (0, 0))) (b2 : w.heap[a2.block]? = some (.cells c2 t2 (0, 0))) :
    Calls Tryd.prog 3 #[] w fun e w' => e = .returned (.bool true) ∧ Below w.heap.size w w' := by
  have hs := same_any w a0 a1 a2 c0 c1 c2 t0 t1 t2 h0 h1 h2 n01 n02 n12 b0 b1 b2
  clear b0 b1 b2 n01 n02 n12 h0 h1 h2
  go_enter Tryd.func3, Tryd.ntmps3
  go_wp2_with (go_at_call 7; refine hs.mono ?_; rintro e w' ⟨rfl, hb⟩)
  go_ret
  exact ⟨rfl, hb⟩

theorem gLong : Tryd.prog.globalNamed "prose/api.ErrLong" = some 0 := by kernel_rfl
theorem gIdle : Tryd.prog.globalNamed "prose/api.ErrIdle" = some 1 := by kernel_rfl
theorem gSink : Tryd.prog.globalNamed "prose/api.ErrSink" = some 2 := by kernel_rfl
theorem tLong : (Tryd.prog.globals[0]?).map (·.type) = some 45 := by kernel_rfl
theorem tIdle : (Tryd.prog.globals[1]?).map (·.type) = some 45 := by kernel_rfl
theorem tSink : (Tryd.prog.globals[2]?).map (·.type) = some 45 := by kernel_rfl
theorem cellsE : Tryd.prog.cellsOf 217 = 1 := by kernel_rfl
theorem cellsS : Tryd.prog.cellsOf 9 = 1 := by kernel_rfl
theorem star : "*" ++ "errors.errorString" = "*errors.errorString" := by decide
theorem rowE (u : TypeId) (h : Tryd.prog.typeName? 3 u = some "*errors.errorString") : u = 197 :=
  typeName_ptr_named (nm := "errors.errorString") (by rw [star]; kernel_rfl) (by kernel_rfl) (by decide) u (by rw [star]; exact h)

/-- Of a listed sentinel: its variable's cell, the text behind its pointer, and the block that this lies in. Over any program. -/
theorem sentinel_blk {P : Program} {n nm : String} {text : List UInt8} {r : List (String × DataW Unit)} {W : World} {g : Nat} {ti tp te ts : TypeId} {ms : Array (String × TypeId)} {f : Field}
    (h : laidMet P ((n, .iface nm (.ptr (.agg [.lit (.string text)]))) :: r) W)
    (hg : P.globalNamed n = some g) (ht : (P.globals[g]?).map (·.type) = some ti) (hi : P.underlying ti = some (.interface ms)) (hrow : ∀ u, P.typeName? 3 u = some nm → u = tp)
    (hp : P.underlying tp = some (.pointer te)) (he : P.underlying te = some (.struct #[f])) (hft : f.type = ts) (hfo : f.offset = 0) (hs : P.underlying ts = some .string) (hc : P.cellsOf te = 1) (hcs : P.cellsOf ts = 1) :
    ∃ (a : Addr) (s : ByteArray) (c : Array Value) (t : TypeId), W.cell? ⟨g, 0, none⟩ = some (.iface tp (.pointer (some a))) ∧ W.cell? a = some (.string s) ∧ s.data.toList = text ∧ W.heap[a.block]? = some (.cells c t (0, 0)) := by
  obtain ⟨ps, ⟨g0, t0, cs0, f0, p0, q0, hg0, ht0, hv0, hd0, _, e0⟩, _, hrows⟩ := h
  obtain rfl := Option.some.inj (hg.symm.trans hg0)
  obtain rfl := Option.some.inj (ht.symm.trans ht0)
  subst e0
  obtain ⟨l0⟩ := cs0
  have ok0 : ∀ u v, l0 = [.iface u v] → Value.okWide P W .any 0 u v := fun u v e => by
    subst e
    exact (hrows g 0 (by simp [MemPlace.row])).2 u v (by simpa using World.var?_cell hg0 hv0 0)
  obtain ⟨a0, s0, rfl, hc0, hs0, hz0, rfl⟩ := errorString_of_trod hi hrow hp he hft hfo hs hc hcs hd0 ok0
  obtain ⟨c0, t0, hb0⟩ := (hrows a0.block a0.off (by simp [MemPlace.row])).1
  exact ⟨a0, s0, c0, t0, by simpa using World.var?_cell hg0 hv0 0, hc0, hs0, hb0⟩

/-- A list of three sentinels gives three cells and that the pointers differ. -/
theorem three {n0 n1 n2 : String} {g0 g1 g2 : Nat} {x0 x1 x2 : List UInt8} {W : World} (hne01 : x0 ≠ x1) (hne02 : x0 ≠ x2) (hne12 : x1 ≠ x2)
    (hg0 : Tryd.prog.globalNamed n0 = some g0) (hg1 : Tryd.prog.globalNamed n1 = some g1) (hg2 : Tryd.prog.globalNamed n2 = some g2)
    (ht0 : (Tryd.prog.globals[g0]?).map (·.type) = some 45) (ht1 : (Tryd.prog.globals[g1]?).map (·.type) = some 45) (ht2 : (Tryd.prog.globals[g2]?).map (·.type) = some 45)
    (h : laidMet Tryd.prog [(n0, .iface "*errors.errorString" (.ptr (.agg [.lit (.string x0)]))), (n1, .iface "*errors.errorString" (.ptr (.agg [.lit (.string x1)]))), (n2, .iface "*errors.errorString" (.ptr (.agg [.lit (.string x2)])))] W) :
    ∃ (a0 a1 a2 : Addr) (c0 c1 c2 : Array Value) (t0 t1 t2 : TypeId),
      W.cell? ⟨g0, 0, none⟩ = some (.iface 197 (.pointer (some a0))) ∧ W.cell? ⟨g1, 0, none⟩ = some (.iface 197 (.pointer (some a1))) ∧ W.cell? ⟨g2, 0, none⟩ = some (.iface 197 (.pointer (some a2))) ∧
      a0 ≠ a1 ∧ a0 ≠ a2 ∧ a1 ≠ a2 ∧
      W.heap[a0.block]? = some (.cells c0 t0 (0, 0)) ∧ W.heap[a1.block]? = some (.cells c1 t1 (0, 0)) ∧ W.heap[a2.block]? = some (.cells c2 t2 (0, 0)) := by
  have blk : ∀ {n : String} {g : Nat} {x : List UInt8} {r : List (String × DataW Unit)}, laidMet Tryd.prog ((n, .iface "*errors.errorString" (.ptr (.agg [.lit (.string x)]))) :: r) W → Tryd.prog.globalNamed n = some g → (Tryd.prog.globals[g]?).map (·.type) = some 45 →
      ∃ (a : Addr) (s : ByteArray) (c : Array Value) (t : TypeId), W.cell? ⟨g, 0, none⟩ = some (.iface 197 (.pointer (some a))) ∧ W.cell? a = some (.string s) ∧ s.data.toList = x ∧ W.heap[a.block]? = some (.cells c t (0, 0)) := by
    intro n g x r h hg ht
    exact sentinel_blk h hg ht Tryd.underlying45 rowE Tryd.underlying197 Tryd.underlying217 rfl rfl Tryd.underlying9 cellsE cellsS
  obtain ⟨a0, s0, c0, t0, e0, f0, x0, k0⟩ := blk h hg0 ht0
  obtain ⟨a1, s1, c1, t1, e1, f1, x1, k1⟩ := blk h.tail hg1 ht1
  obtain ⟨a2, s2, c2, t2, e2, f2, x2, k2⟩ := blk h.tail.tail hg2 ht2
  refine ⟨a0, a1, a2, c0, c1, c2, t0, t1, t2, e0, e1, e2, ?_, ?_, ?_, k0, k1, k2⟩
  · rintro rfl
    rw [f0] at f1
    cases f1
    exact hne01 (x0.symm.trans x1)
  · rintro rfl
    rw [f0] at f2
    cases f2
    exact hne02 (x0.symm.trans x2)
  · rintro rfl
    rw [f1] at f2
    cases f2
    exact hne12 (x1.symm.trans x2)

set_option maxRecDepth 1000000 in
theorem door_met (os : Os) : laidMetH Tryd.prog Rows.namesRow.laid ((World.doorLaid Tryd.prog 400 os).forCall (fun _ _ => 0) ⟨#[], #[], []⟩).memory :=
  laidMetH_of_parts3 (fuel := 8) (laidMet_of_run' 8 (by kernel_rfl) (by kernel_rfl)) (by kernel_rfl) (by kernel_rfl)
set_option maxRecDepth 1000000 in
theorem reads (os : Os) {H : Type} (enc : TypeId × Value → H) : ∃ places, DataW.whole enc Tryd.prog ((World.doorLaid Tryd.prog 400 os).forCall (fun _ _ => 0) ⟨#[], #[], []⟩).memory Tryd.f3.params.toList Rows.namesSpec.vars false (#[] : Array Value).toList 8 = some ([], [], places) :=
  ⟨[], by kernel_rfl⟩

set_option maxRecDepth 100000 in
theorem lifted (os : Os) (started : os.Started) (H : Type) (enc : TypeId × Value → H) (F : Stop.Interp) :
    ReturnsInHanded {} Tryd.checked os 3 .any ((OpenSpec.ofChange Rows.namesSpec).preRow enc Tryd.prog Tryd.f3 Rows.namesRow.domain false Rows.namesRow.laid) (((OpenSpec.ofChange Rows.namesSpec).at F).post enc Tryd.prog Tryd.f3 false true false false) := by
  obtain ⟨places, hx⟩ := reads os enc
  refine returnsInHanded_of_row (C := Tryd.checked) (s := OpenSpec.ofChange Rows.namesSpec) own started (by kernel_rfl) Tryd.func3
    (witness_row_atRef (enc := enc) (C := Tryd.checked) false (World.doorLaid Tryd.prog 400 os) #[] rfl (by kernel_rfl) (by kernel_rfl) (by kernel_rfl)
      (OpenSpec.preRow_of_cond 8 hx (by kernel_rfl) (fun k hk => by cases hk) (by kernel_rfl) (door_met os))) ?_
  intro W base args ds gs before hval hW _ _ _ hL _ _
  have hW' := hW
  obtain ⟨p, q, hA0, hV, rfl, hfz, hnd⟩ := hW
  have hA : DataW.TrodAll enc Tryd.prog W 0 (fun _ => true) true Tryd.f3.params.toList args.toList ds p := hA0
  rw [Tryd.params3] at hA
  obtain ⟨hargs, rfl, rfl⟩ := trodAll_nil hA
  obtain rfl : args = #[] := by cases args; simp_all
  obtain ⟨rfl, rfl⟩ := trodVars_none hV
  simp only [List.append_nil] at hW'
  obtain ⟨a0, a1, a2, c0, c1, c2, t0, t1, t2, e0, e1, e2, n01, n02, n12, k0, k1, k2⟩ := three (by decide) (by decide) (by decide) gLong gIdle gSink tLong tIdle tSink hL
  refine (names_any W a0 a1 a2 c0 c1 c2 t0 t1 t2 e0 e1 e2 n01 n02 n12 k0 k1 k2).mono fun e W' ⟨he, hb⟩ => ?_
  subst he
  exact ⟨_, rfl, _, _, _, [], [], [], hW', trodAll_cons_mk (shut_bool Tryd.underlying4 _) trodAll_mk0, trodAll_mk0, rfl, hb.frame _, fun h => by cases h⟩

theorem said : Rows.NamesSaid :=
  OpenClaim.holds_of_cond 3 Tryd.f3 rfl rfl rfl rfl rfl rfl rfl ⟨rfl, rfl, rfl, rfl, rfl⟩ rfl rfl rfl rfl rfl (by kernel_rfl) Tryd.func3 (by kernel_rfl)
    (of_decide_eq_true (by kernel_rfl)) (by unfold Func.isWrapper; first | (rw [if_pos (by decide +kernel)]; kernel_rfl) | (rw [if_neg (by decide +kernel)]; exact ⟨rfl, rfl⟩))
    (fun os started H enc _ F => by rw [OpenClaim.pre_eq_preRow]; exact lifted os started H enc F)

theorem plain (f : FuncId) (fn : Func) (hf : Tryd.pinned.checked.prog.funcNamed "prose/proselaw.Names" = some f) (hfn : Tryd.pinned.checked.prog.funcs[f]? = some fn) :
    true = Tryd.pinned.checked.prog.looks [] ∧ ∀ (j : Nat) t, fn.params[j]? = some t → Tryd.pinned.checked.prog.wantsStandIn t = false := by
  obtain rfl : f = 3 := Option.some.inj ((show Tryd.prog.funcNamed "prose/proselaw.Names" = some 3 by kernel_rfl).symm.trans hf) |>.symm
  obtain rfl : fn = Tryd.f3 := (Option.some.inj (Tryd.func3.symm.trans hfn)).symm
  refine ⟨by kernel_rfl, fun j t ht => ?_⟩
  rw [Tryd.params3] at ht
  simp at ht

/-- The card. -/
theorem card : Rows.NamesCardSaid :=
  Claim7.holds_tied_plain_at .later [] _ _ _ _ said (fun _ h => by cases h) (by kernel_rfl) (fun _ h => by cases h) names_row_tie rfl ⟨rfl, rfl⟩ (by kernel_rfl) rfl plain (by kernel_rfl)
#print axioms card
end Go.Proofs.YtbioecifiogffaaDoor.lawNames
