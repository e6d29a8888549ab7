/- plain.Same returns true where the three sentinels are there and different. -/
import Derived.Test.YtbioecifiogffaaDoorRows
import Derived.WalkKit
import Derived.WalkSpells
import Derived.WalkLawsBesides
import Derived.LaidEql
import Derived.BigQuiet
import Derived.Deep.QuietTactic
namespace Go.Proofs.YtbioecifiogffaaDoor
open Go.RowKit

theorem same_any (w : World) (a0 a1 a2 : Addr) (c0 c1 c2 : Array Value) (t0 t1 t2 : TypeId)
    (h0 : w.cell? ⟨0, 0, none⟩ = some (.iface 197 (.pointer (some a0))))
    (h1 : w.cell? ⟨1, 0, none⟩ = some (.iface 197 (.pointer (some a1))))
    (h2 : w.cell? ⟨2, 0, none⟩ = some (.iface 197 (.pointer (some a2))))
    (n01 : a0 ≠ a1) (n02 : a0 ≠ a2) (n12 : a1 ≠ a2)
    (b0 : w.heap[a0.block]? = some (.cells c0 t0 (0, 0))) (b1 : w.heap[a1.block]? = some (.cells c1 t1 (0, 0))) (b2 : w.heap[a2.block]? = some (.cells c2 t2 (0, 0))) :
    Calls Tryd.prog 7 #[] w fun e w' => e = .returned (.bool true) ∧ Below w.heap.size w w' := by
  have hcmp : ∀ (W : World) (a b : Addr) (ca cb : Array Value) (ta tb : TypeId), a ≠ b → W.heap[a.block]? = some (.cells ca ta (0, 0)) → W.heap[b.block]? = some (.cells cb tb (0, 0)) →
      (binOp .eql 45 (.iface 197 (.pointer (some a))) (.iface 197 (.pointer (some b)))).run Tryd.prog W = .ok (.bool false) W := by
    intro W a b ca cb ta tb hne ha hb
    obtain ⟨i, hi, hc⟩ := Option.map_eq_some_iff.1 (show (Tryd.prog.info? 197).map (·.comparable) = some true by kernel_rfl)
    obtain ⟨j, hj, hs⟩ := Option.map_eq_some_iff.1 (show (Tryd.prog.info? 217).map (·.size) = some 1 by kernel_rfl)
    exact run_eql_iface_ptr_other (te := 217) W Tryd.underlying45 Tryd.underlying197 hi hc hj (by rw [hs]; decide) hne ha hb
  have hnil : ∀ (W : World) (a : Addr), (binOp .eql 45 (.iface 197 (.pointer (some a))) .nilIface).run Tryd.prog W = .ok (.bool false) W := by
    intro W a
    kernel_rfl
  have k0 : a0.block < w.heap.size := (Array.getElem?_eq_some_iff.1 b0).1
  have k1 : a1.block < w.heap.size := (Array.getElem?_eq_some_iff.1 b1).1
  have k2 : a2.block < w.heap.size := (Array.getElem?_eq_some_iff.1 b2).1
  have g0 : ∀ o, (w.alloc o).heap[a0.block]? = some (.cells c0 t0 (0, 0)) := fun o => (Below.heap_alloc w o _ k0).trans b0
  have g1 : ∀ o, (w.alloc o).heap[a1.block]? = some (.cells c1 t1 (0, 0)) := fun o => (Below.heap_alloc w o _ k1).trans b1
  have g2 : ∀ o, (w.alloc o).heap[a2.block]? = some (.cells c2 t2 (0, 0)) := fun o => (Below.heap_alloc w o _ k2).trans b2
  have e10 : ∀ o n, (binOp .eql 45 (.iface 197 (.pointer (some a1))) (.iface 197 (.pointer (some a0)))).run Tryd.prog ((w.alloc o).drewN n) = .ok (.bool false) ((w.alloc o).drewN n) := fun o n => hcmp _ _ _ _ _ _ _ (Ne.symm n01) (g1 o) (g0 o)
  have e20 : ∀ o n, (binOp .eql 45 (.iface 197 (.pointer (some a2))) (.iface 197 (.pointer (some a0)))).run Tryd.prog ((w.alloc o).drewN n) = .ok (.bool false) ((w.alloc o).drewN n) := fun o n => hcmp _ _ _ _ _ _ _ (Ne.symm n02) (g2 o) (g0 o)
  have e21 : ∀ o n, (binOp .eql 45 (.iface 197 (.pointer (some a2))) (.iface 197 (.pointer (some a1)))).run Tryd.prog ((w.alloc o).drewN n) = .ok (.bool false) ((w.alloc o).drewN n) := fun o n => hcmp _ _ _ _ _ _ _ (Ne.symm n12) (g2 o) (g1 o)
  clear hcmp g0 g1 g2 b0 b1 b2 n01 n02 n12 k0 k1 k2
  go_enter Tryd.func7, Tryd.ntmps7
  go_wp2
  refine wp_loop_rounds 4 ?_
  rw [rounds_succ]
  go_wp2
  refine wp_loop_rounds 1 ?_
  rw [rounds_succ]
  go_wp2
  rw [rounds_succ]
  go_wp2
  refine wp_loop_rounds 2 ?_
  rw [rounds_succ]
  go_wp2
  go_quiet (fail)
  go_wp2
  rw [rounds_succ]
  go_wp2
  rw [rounds_succ]
  go_wp2
  refine wp_loop_rounds 3 ?_
  rw [rounds_succ]
  go_wp2
  go_quiet (fail)
  go_wp2
  rw [rounds_succ]
  go_wp2
  go_quiet (fail)
  go_wp2
  rw [rounds_succ]
  go_wp2
  rw [rounds_succ]
  go_wp2
  go_ret
  exact ⟨rfl, ((Below.refl _ _).alloc (Nat.le_refl _) _).trans ⟨rfl, rfl, rfl, Nat.le_refl _, fun _ _ => rfl⟩⟩
end Go.Proofs.YtbioecifiogffaaDoor
