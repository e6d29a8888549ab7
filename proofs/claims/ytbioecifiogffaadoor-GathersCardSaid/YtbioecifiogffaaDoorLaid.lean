/- What the laid variables of a row give a walk: the three sentinel errors of package api and the type's handle of package errors. -/
import Derived.Test.YtbioecifiogffaaDoorRows
import Derived.Test.YtbioecifiogffaaDoorOf
import Derived.ProofKit
import Derived.LaidMore
import Derived.OpenShut
import Derived.Stop.LaidErr
import Derived.Deep.DeepHandedRow
import Derived.Deep.DeepWitnessRowRef
namespace Go.Proofs.YtbioecifiogffaaDoor.laidVars
open Go.ChangeShapes Go.WideShapes Go.ChangeAt Go.RowKit

theorem own : ownKnob Tryd.prog.godebug = none := by kernel_rfl
theorem gLong : Tryd.prog.globalNamed "prose/api.ErrLong" = some 0 := by kernel_rfl
theorem gIdle : Tryd.prog.globalNamed "prose/api.ErrIdle" = some 1 := by kernel_rfl
theorem gSink : Tryd.prog.globalNamed "prose/api.ErrSink" = some 2 := by kernel_rfl
theorem tLong : (Tryd.prog.globals[0]?).map (·.type) = some 45 := by kernel_rfl
theorem tIdle : (Tryd.prog.globals[1]?).map (·.type) = some 45 := by kernel_rfl
theorem tSink : (Tryd.prog.globals[2]?).map (·.type) = some 45 := by kernel_rfl
theorem cellsE : Tryd.prog.cellsOf 217 = 1 := by kernel_rfl
theorem cellsS : Tryd.prog.cellsOf 9 = 1 := by kernel_rfl
theorem star : "*" ++ "errors.errorString" = "*errors.errorString" := by decide
theorem rowE (u : TypeId) (h : Tryd.prog.typeName? 3 u = some "*errors.errorString") : u = 197 :=
  typeName_ptr_named (nm := "errors.errorString") (by rw [star]; kernel_rfl) (by kernel_rfl) (by decide) u (by rw [star]; exact h)

/-- Of a listed sentinel: its variable's cell, the text behind its pointer, and the block that this lies in. Over any program. -/
theorem sentinel_blk {P : Program} {n nm : String} {text : List UInt8} {r : List (String × DataW Unit)} {W : World} {g : Nat} {ti tp te ts : TypeId} {ms : Array (String × TypeId)} {f : Field}
    (h : laidMet P ((n, .iface nm (.ptr (.agg [.lit (.string text)]))) :: r) W)
    (hg : P.globalNamed n = some g) (ht : (P.globals[g]?).map (·.type) = some ti) (hi : P.underlying ti = some (.interface ms)) (hrow : ∀ u, P.typeName? 3 u = some nm → u = tp)
    (hp : P.underlying tp = some (.pointer te)) (he : P.underlying te = some (.struct #[f])) (hft : f.type = ts) (hfo : f.offset = 0) (hs : P.underlying ts = some .string) (hc : P.cellsOf te = 1) (hcs : P.cellsOf ts = 1) :
    ∃ (a : Addr) (s : ByteArray) (c : Array Value) (t : TypeId), W.cell? ⟨g, 0, none⟩ = some (.iface tp (.pointer (some a))) ∧ W.cell? a = some (.string s) ∧ s.data.toList = text ∧ W.heap[a.block]? = some (.cells c t (0, 0)) := by
  obtain ⟨ps, ⟨g0, t0, cs0, f0, p0, q0, hg0, ht0, hv0, hd0, _, e0⟩, _, hrows⟩ := h
  obtain rfl := Option.some.inj (hg.symm.trans hg0)
  obtain rfl := Option.some.inj (ht.symm.trans ht0)
  subst e0
  obtain ⟨l0⟩ := cs0
  have ok0 : ∀ u v, l0 = [.iface u v] → Value.okWide P W .any 0 u v := fun u v e => by
    subst e
    exact (hrows g 0 (by simp [MemPlace.row])).2 u v (by simpa using World.var?_cell hg0 hv0 0)
  obtain ⟨a0, s0, rfl, hc0, hs0, hz0, rfl⟩ := errorString_of_trod hi hrow hp he hft hfo hs hc hcs hd0 ok0
  obtain ⟨c0, t0, hb0⟩ := (hrows a0.block a0.off (by simp [MemPlace.row])).1
  exact ⟨a0, s0, c0, t0, by simpa using World.var?_cell hg0 hv0 0, hc0, hs0, hb0⟩

/-- A list of three sentinels gives three cells and that the pointers differ. -/
theorem three {n0 n1 n2 : String} {g0 g1 g2 : Nat} {x0 x1 x2 : List UInt8} {W : World} (hne01 : x0 ≠ x1) (hne02 : x0 ≠ x2) (hne12 : x1 ≠ x2)
    (hg0 : Tryd.prog.globalNamed n0 = some g0) (hg1 : Tryd.prog.globalNamed n1 = some g1) (hg2 : Tryd.prog.globalNamed n2 = some g2)
    (ht0 : (Tryd.prog.globals[g0]?).map (·.type) = some 45) (ht1 : (Tryd.prog.globals[g1]?).map (·.type) = some 45) (ht2 : (Tryd.prog.globals[g2]?).map (·.type) = some 45)
    (h : laidMet Tryd.prog [(n0, .iface "*errors.errorString" (.ptr (.agg [.lit (.string x0)]))), (n1, .iface "*errors.errorString" (.ptr (.agg [.lit (.string x1)]))), (n2, .iface "*errors.errorString" (.ptr (.agg [.lit (.string x2)])))] W) :
    ∃ (a0 a1 a2 : Addr) (c0 c1 c2 : Array Value) (t0 t1 t2 : TypeId),
      W.cell? ⟨g0, 0, none⟩ = some (.iface 197 (.pointer (some a0))) ∧ W.cell? ⟨g1, 0, none⟩ = some (.iface 197 (.pointer (some a1))) ∧ W.cell? ⟨g2, 0, none⟩ = some (.iface 197 (.pointer (some a2))) ∧
      a0 ≠ a1 ∧ a0 ≠ a2 ∧ a1 ≠ a2 ∧
      W.heap[a0.block]? = some (.cells c0 t0 (0, 0)) ∧ W.heap[a1.block]? = some (.cells c1 t1 (0, 0)) ∧ W.heap[a2.block]? = some (.cells c2 t2 (0, 0)) := by
  have blk : ∀ {n : String} {g : Nat} {x : List UInt8} {r : List (String × DataW Unit)}, laidMet Tryd.prog ((n, .iface "*errors.errorString" (.ptr (.agg [.lit (.string x)]))) :: r) W → Tryd.prog.globalNamed n = some g → (Tryd.prog.globals[g]?).map (·.type) = some 45 →
      ∃ (a : Addr) (s : ByteArray) (c : Array Value) (t : TypeId), W.cell? ⟨g, 0, none⟩ = some (.iface 197 (.pointer (some a))) ∧ W.cell? a = some (.string s) ∧ s.data.toList = x ∧ W.heap[a.block]? = some (.cells c t (0, 0)) := by
    intro n g x r h hg ht
    exact sentinel_blk h hg ht Tryd.underlying45 rowE Tryd.underlying197 Tryd.underlying217 rfl rfl Tryd.underlying9 cellsE cellsS
  obtain ⟨a0, s0, c0, t0, e0, f0, x0, k0⟩ := blk h hg0 ht0
  obtain ⟨a1, s1, c1, t1, e1, f1, x1, k1⟩ := blk h.tail hg1 ht1
  obtain ⟨a2, s2, c2, t2, e2, f2, x2, k2⟩ := blk h.tail.tail hg2 ht2
  refine ⟨a0, a1, a2, c0, c1, c2, t0, t1, t2, e0, e1, e2, ?_, ?_, ?_, k0, k1, k2⟩
  · rintro rfl
    rw [f0] at f1
    cases f1
    exact hne01 (x0.symm.trans x1)
  · rintro rfl
    rw [f0] at f2
    cases f2
    exact hne02 (x0.symm.trans x2)
  · rintro rfl
    rw [f1] at f2
    cases f2
    exact hne12 (x1.symm.trans x2)


theorem gType : Tryd.prog.globalNamed "errors.errorType" = some 3 := by kernel_rfl
theorem rtypeT : (Tryd.prog.cutTypes.find? (·.1 == "internal/reflectlite.rtype")).map (·.2) = some 128 := by kernel_rfl
theorem oneRow : ((List.range 229).filter fun t => Tryd.prog.rowNamed t [101, 114, 114, 111, 114]) = [45] := by kernel_rfl
theorem typesN : Tryd.prog.types.size = 229 := by kernel_rfl

theorem handle_of {W : World} {x : String × DataW Unit} (h : handlesMet Tryd.prog [x] W) (hx : x = ("errors.errorType", Rows.laid_errors_errorType)) :
    W.cell? ⟨3, 0, none⟩ = some (.iface 128 (.agg #[.pointer (some ⟨7, 45, none⟩)])) := by
  subst hx
  obtain ⟨name, u, ty, e1, e2, e3, e4, e5⟩ := h _ (List.mem_singleton.2 rfl)
  have en : name = [101, 114, 114, 111, 114] := (Option.some.inj e1).symm
  subst en
  obtain rfl := Option.some.inj (rtypeT.symm.trans e2)
  have hm : ty ∈ (List.range 229).filter fun t => Tryd.prog.rowNamed t [101, 114, 114, 111, 114] := List.mem_filter.2 ⟨List.mem_range.2 (by rw [← typesN]; exact e3), e4⟩
  rw [oneRow] at hm
  obtain rfl := List.mem_singleton.1 hm
  have hh : typeHandle Tryd.prog 45 = .pointer (some ⟨7, 45, none⟩) := by kernel_rfl
  rw [hh] at e5
  simpa using World.var?_cell gType e5 0

/-- Of the row's own list (in the order of package api's text): all that the walks need. -/
theorem vars_of {W : World} (h : laidMet Tryd.prog [("prose/api.ErrLong", Rows.laid_prose_api_ErrLong), ("prose/api.ErrIdle", Rows.laid_prose_api_ErrIdle), ("prose/api.ErrSink", Rows.laid_prose_api_ErrSink)] W)
    (h2 : handlesMet Tryd.prog [("errors.errorType", Rows.laid_errors_errorType)] W) : ∃ aL aI aS, LaidVars aL aI aS W := by
  obtain ⟨a0, a1, a2, c0, c1, c2, t0, t1, t2, e0, e1, e2, n01, n02, n12, k0, k1, k2⟩ := three (by decide) (by decide) (by decide) gLong gIdle gSink tLong tIdle tSink h
  exact ⟨a0, a1, a2, e0, e1, e2, handle_of h2 rfl, n01, n02, n12, ⟨_, _, k0⟩, ⟨_, _, k1⟩, ⟨_, _, k2⟩⟩
end Go.Proofs.YtbioecifiogffaaDoor.laidVars
