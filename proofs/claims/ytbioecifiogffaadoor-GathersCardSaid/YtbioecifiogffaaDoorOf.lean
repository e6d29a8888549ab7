/- plain.Of tells an error of this program's: nil, the two sentinels of reading, a *ReadError of the source's own error. Conditions: the sentinels and errors.errorType read as the text lays them. -/
import Derived.Test.YtbioecifiogffaaDoorAll
import Derived.Test.YtbioecifiogffaaDoorErrsAs
import Derived.Deep.RegionWith
import Derived.Deep.DeepCutAuto
namespace Go.Proofs.YtbioecifiogffaaDoor
open Go.RowKit

/-- What the listed variables give. -/
structure LaidVars (aL aI aS : Addr) (w : World) : Prop where
  long : w.cell? ⟨0, 0, none⟩ = some (.iface 197 (.pointer (some aL)))
  idle : w.cell? ⟨1, 0, none⟩ = some (.iface 197 (.pointer (some aI)))
  sink : w.cell? ⟨2, 0, none⟩ = some (.iface 197 (.pointer (some aS)))
  etype : w.cell? ⟨3, 0, none⟩ = some (.iface 128 (.agg #[.pointer (some ⟨7, 45, none⟩)]))
  n01 : aL ≠ aI
  n02 : aL ≠ aS
  n12 : aI ≠ aS
  b0 : ∃ c t, w.heap[aL.block]? = some (.cells c t (0, 0))
  b1 : ∃ c t, w.heap[aI.block]? = some (.cells c t (0, 0))
  b2 : ∃ c t, w.heap[aS.block]? = some (.cells c t (0, 0))

theorem LaidVars.kept {aL aI aS : Addr} {D : Nat → Prop} {w w' : World} (h : LaidVars aL aI aS w) (hk : Keeps D w w') (hD : ∀ j, j < 4 → ¬ D j) (h0 : ¬ D aL.block) (h1 : ¬ D aI.block) (h2 : ¬ D aS.block) : LaidVars aL aI aS w' where
  long := hk.cell_some h.long (hD _ (by simp))
  idle := hk.cell_some h.idle (hD _ (by simp))
  sink := hk.cell_some h.sink (hD _ (by simp))
  etype := hk.cell_some h.etype (hD _ (by simp))
  n01 := h.n01
  n02 := h.n02
  n12 := h.n12
  b0 := by obtain ⟨c, t, hc⟩ := h.b0; exact ⟨c, t, hk.heap_some hc h0⟩
  b1 := by obtain ⟨c, t, hc⟩ := h.b1; exact ⟨c, t, hk.heap_some hc h1⟩
  b2 := by obtain ⟨c, t, hc⟩ := h.b2; exact ⟨c, t, hk.heap_some hc h2⟩
theorem LaidVars.fresh {aL aI aS : Addr} {w w' : World} (h : LaidVars aL aI aS w) (hk : Fresh w w') : LaidVars aL aI aS w' := h.kept hk (fun _ _ h => h) (fun h => h) (fun h => h) (fun h => h)

theorem eql_same (W : World) (a : Addr) : (binOp .eql 45 (.iface 197 (.pointer (some a))) (.iface 197 (.pointer (some a)))).run Tryd.prog W = .ok (.bool true) W := by
  obtain ⟨i, hi, hc⟩ := Option.map_eq_some_iff.1 (show (Tryd.prog.info? 197).map (·.comparable) = some true by kernel_rfl)
  obtain ⟨j, hj, hs⟩ := Option.map_eq_some_iff.1 (show (Tryd.prog.info? 217).map (·.size) = some 1 by kernel_rfl)
  exact run_eql_iface_ptr_same (te := 217) W a Tryd.underlying45 Tryd.underlying197 hi hc hj
theorem eql_other (W : World) (a b : Addr) (ca cb : Array Value) (ta tb : TypeId) (hne : a ≠ b) (ha : W.heap[a.block]? = some (.cells ca ta (0, 0))) (hb : W.heap[b.block]? = some (.cells cb tb (0, 0))) :
    (binOp .eql 45 (.iface 197 (.pointer (some a))) (.iface 197 (.pointer (some b)))).run Tryd.prog W = .ok (.bool false) W := by
  obtain ⟨i, hi, hc⟩ := Option.map_eq_some_iff.1 (show (Tryd.prog.info? 197).map (·.comparable) = some true by kernel_rfl)
  obtain ⟨j, hj, hs⟩ := Option.map_eq_some_iff.1 (show (Tryd.prog.info? 217).map (·.size) = some 1 by kernel_rfl)
  exact run_eql_iface_ptr_other (te := 217) W Tryd.underlying45 Tryd.underlying197 hi hc hj (by rw [hs]; decide) hne ha hb
theorem eql_own (W : World) (a : Addr) : (binOp .eql 45 (.iface 70 (.pointer (some a))) (.iface 70 (.pointer (some a)))).run Tryd.prog W = .ok (.bool true) W := by
  obtain ⟨i, hi, hc⟩ := Option.map_eq_some_iff.1 (show (Tryd.prog.info? 70).map (·.comparable) = some true by kernel_rfl)
  obtain ⟨j, hj, hs⟩ := Option.map_eq_some_iff.1 (show (Tryd.prog.info? 211).map (·.size) = some 1 by kernel_rfl)
  exact run_eql_iface_ptr_same (te := 211) W a Tryd.underlying45 Tryd.underlying70 hi hc hj

theorem Tryd.toldNoR (a : Addr) (w : World) : (Instr.typeAssert (.iface 197 (.pointer (some a))) 45 71 true).run Tryd.prog w = .ok (.tuple #[.pointer none, .bool false]) w := by kernel_rfl
theorem Tryd.toldNoW (a : Addr) (w : World) : (Instr.typeAssert (.iface 197 (.pointer (some a))) 45 78 true).run Tryd.prog w = .ok (.tuple #[.pointer none, .bool false]) w := by kernel_rfl
theorem Tryd.toldR (a : Addr) (w : World) : (Instr.typeAssert (.iface 71 (.pointer (some a))) 45 71 true).run Tryd.prog w = .ok (.tuple #[.pointer (some a), .bool true]) w := by kernel_rfl
theorem Tryd.toldWR (a : Addr) (w : World) : (Instr.typeAssert (.iface 78 (.pointer (some a))) 45 71 true).run Tryd.prog w = .ok (.tuple #[.pointer none, .bool false]) w := by kernel_rfl
theorem Tryd.toldW (a : Addr) (w : World) : (Instr.typeAssert (.iface 78 (.pointer (some a))) 45 78 true).run Tryd.prog w = .ok (.tuple #[.pointer (some a), .bool true]) w := by kernel_rfl

set_option maxHeartbeats 4000000 in
set_option maxRecDepth 1000000 in
theorem Of_nil (w : World) :
    Calls Tryd.prog 19 #[.nilIface] w fun e w' => e = .returned (.agg #[.int .i64 0, .int .i64 0]) ∧ Fresh w w' := by
  go_enter Tryd.func19, Tryd.ntmps19
  go_wp2_with fail
  refine bodyPost_ret (v := .agg #[.int .i64 0, .int .i64 0]) (by simp [results, Tryd.results19, go_sem]) rfl ⟨rfl, ((Keeps.refl _ w).alloc _).alloc _⟩

set_option maxHeartbeats 4000000 in
set_option maxRecDepth 1000000 in
theorem Of_long (aL aI aS : Addr) (w : World) (h : LaidVars aL aI aS w) :
    Calls Tryd.prog 19 #[.iface 197 (.pointer (some aL))] w fun e w' => e = .returned (.agg #[.int .i64 1, .int .i64 0]) ∧ Fresh w w' := by
  have t1 := Tryd.toldNoR aL
  have t2 := Tryd.toldNoW aL
  have e1 := fun W => eql_same W aL
  have hg : ∀ o p, ((w.alloc o).alloc p).cell? ⟨0, 0, none⟩ = some (.iface 197 (.pointer (some aL))) := fun o p => (h.fresh (((Keeps.refl _ w).alloc o).alloc p)).long
  clear h
  go_enter Tryd.func19, Tryd.ntmps19
  go_wp2_with fail
  refine bodyPost_ret (v := .agg #[.int .i64 1, .int .i64 0]) (by simp [results, Tryd.results19, go_sem]) rfl ⟨rfl, ?_⟩
  exact (((Keeps.refl _ w).alloc _).alloc _)

set_option maxHeartbeats 4000000 in
set_option maxRecDepth 1000000 in
theorem Of_idle (aL aI aS : Addr) (w : World) (h : LaidVars aL aI aS w) :
    Calls Tryd.prog 19 #[.iface 197 (.pointer (some aI))] w fun e w' => e = .returned (.agg #[.int .i64 2, .int .i64 0]) ∧ Fresh w w' := by
  have t1 := Tryd.toldNoR aI
  have t2 := Tryd.toldNoW aI
  have e1 := fun W => eql_same W aI
  have e2 : ∀ o p, (binOp .eql 45 (.iface 197 (.pointer (some aI))) (.iface 197 (.pointer (some aL)))).run Tryd.prog ((w.alloc o).alloc p) = .ok (.bool false) ((w.alloc o).alloc p) := fun o p => by
    have h2 := h.fresh (((Keeps.refl _ w).alloc o).alloc p)
    obtain ⟨c0, t0, b0⟩ := h2.b0
    obtain ⟨c1, t1, b1⟩ := h2.b1
    exact eql_other _ _ _ _ _ _ _ (Ne.symm h.n01) b1 b0
  have hg : ∀ o p, ((w.alloc o).alloc p).cell? ⟨0, 0, none⟩ = some (.iface 197 (.pointer (some aL))) := fun o p => (h.fresh (((Keeps.refl _ w).alloc o).alloc p)).long
  have hg2 : ∀ o p, ((w.alloc o).alloc p).cell? ⟨1, 0, none⟩ = some (.iface 197 (.pointer (some aI))) := fun o p => (h.fresh (((Keeps.refl _ w).alloc o).alloc p)).idle
  clear h
  go_enter Tryd.func19, Tryd.ntmps19
  go_wp2_with fail
  refine bodyPost_ret (v := .agg #[.int .i64 2, .int .i64 0]) (by simp [results, Tryd.results19, go_sem]) rfl ⟨rfl, ?_⟩
  exact (((Keeps.refl _ w).alloc _).alloc _)

set_option maxHeartbeats 4000000 in
set_option maxRecDepth 1000000 in
/-- A *ReadError of the source's own error. -/
theorem Of_read (aL aI aS : Addr) (a c : Nat) (n : Int) (w : World) (h : LaidVars aL aI aS w)
    (ha : w.heap[a]? = some (.cells #[.int .i64 n, .iface 70 (.pointer (some ⟨c, 0, none⟩))] 77 (0, 0))) :
    Calls Tryd.prog 19 #[.iface 71 (.pointer (some ⟨a, 0, none⟩))] w fun e w' => e = .returned (.agg #[.int .i64 4, .int .i64 n]) ∧ Fresh w w' := by
  have t1 := Tryd.toldR ⟨a, 0, none⟩
  have e1 := fun W => eql_own W ⟨c, 0, none⟩
  have hal : a < w.heap.size := (Array.getElem?_eq_some_iff.1 ha).1
  obtain ⟨W, hW⟩ : ∃ W, W = (w.alloc (.cells #[.int .i64 0, .int .i64 0] 28)).alloc (.cells #[.pointer none] 70) := ⟨_, rfl⟩
  have hF : Fresh w W := by rw [hW]; exact ((Keeps.refl _ w).alloc _).alloc _
  have hsz : W.heap.size = w.heap.size + 2 := by rw [hW]; simp
  have o0 : W.cell? ⟨w.heap.size + 1, 0, none⟩ = some (.pointer none) := by rw [hW]; simp
  have of0 : W.frozen? ⟨w.heap.size + 1, 0, none⟩ = false := by rw [hW]; simp
  have r0 : W.cell? ⟨w.heap.size, 0, none⟩ = some (.int .i64 0) := by rw [hW]; simp
  have r1 : W.cell? ⟨w.heap.size, 1, none⟩ = some (.int .i64 0) := by rw [hW]; simp
  have f0 : W.frozen? ⟨w.heap.size, 0, none⟩ = false := by rw [hW]; simp
  have f1 : W.frozen? ⟨w.heap.size, 1, none⟩ = false := by rw [hW]; simp
  have ha2 := hF.heap_some ha (fun h => h)
  have a0 : W.cell? ⟨a, 0, none⟩ = some (.int .i64 n) := by rw [Lib.cell_of_heap ha2]; rfl
  have a1 : W.cell? ⟨a, 1, none⟩ = some (.iface 70 (.pointer (some ⟨c, 0, none⟩))) := by rw [Lib.cell_of_heap ha2]; rfl
  have hAs : ∀ X : World, X = W.drew → Calls Tryd.prog 36 #[.iface 71 (.pointer (some ⟨a, 0, none⟩)), .iface 73 (.pointer (some ⟨w.heap.size + 1, 0, none⟩))] X fun ev w' =>
      ev = .returned (.bool true) ∧ w'.cell? ⟨w.heap.size + 1, 0, none⟩ = some (.pointer (some ⟨c, 0, none⟩)) ∧ w'.cell? ⟨a, 1, none⟩ = some (.iface 70 (.pointer (some ⟨c, 0, none⟩))) ∧ Keeps (fun k => k = w.heap.size + 1) W w' := by
    intro X hX
    subst hX
    refine (As_own_R a c ⟨w.heap.size + 1, 0, none⟩ (.pointer none) W.drew (h.fresh hF).etype a1 o0 of0).mono ?_
    rintro e w' ⟨rfl, h1, h2⟩
    refine ⟨rfl, h1, h2.cell_some a1 (by simp; omega), ⟨h2.os, h2.tape, h2.output, h2.size, h2.block⟩⟩
  have HAS := Lib.hid hAs
  have HF := Lib.hid hF
  have HS := Lib.hid hsz
  clear hAs hF hsz h ha ha2 o0 of0
  go_enter Tryd.func19, Tryd.ntmps19
  go_upto_region 14 with fail
  rw [← hW]
  clear hW
  go_cut [34] (fun v wx => v = .bool true ∧ Keeps (fun k => k = w.heap.size + 1) W wx)
  case first =>
    go_region_with (go_at_call 36; refine (HAS.out _ rfl).mono ?_; rintro e w' ⟨rfl, hcl, hx, hk⟩)
    all_goals (go_wp2_with fail; go_meet; exact ⟨rfl, by repeat (first | exact hk | refine Keeps.drew ?_ | refine Keeps.drewN ?_ _)⟩)
  case rest =>
    obtain ⟨rfl, hk⟩ := hcut
    have q0 := hk.cell_some r0 (by simp)
    have q1 := hk.cell_some r1 (by simp)
    have b0 := hk.cell_some a0 (by simp; omega)
    have g0 := (hk.frozen (p := ⟨w.heap.size, 0, none⟩) (by rw [HS.out]; simp) (by simp)).trans f0
    have g1 := (hk.frozen (p := ⟨w.heap.size, 1, none⟩) (by rw [HS.out]; simp) (by simp)).trans f1
    have hfin := HF.out.trans hk (fun j h1 h2 => by omega)
    have HFIN := Lib.hid hfin
    clear r0 r1 a0 a1 f0 f1 hfin hk
    go_wp2_with fail
    refine bodyPost_ret (v := .agg #[.int .i64 4, .int .i64 n]) (by simp [results, Tryd.results19, go_sem, *]) rfl ⟨rfl, ?_⟩
    exact (HFIN.out.setCell (p := ⟨w.heap.size, 0, none⟩) (fun h => by simp at h) _).setCell (p := ⟨w.heap.size, 1, none⟩) (fun h => by simp at h) _
end Go.Proofs.YtbioecifiogffaaDoor
