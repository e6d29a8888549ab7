/- prosekeep.same: true at rows that read alike. Condition: no more than 10^9 events. -/
import Derived.Test.YtbioecifiogffaaGreatDoorM9
set_option linter.unusedVariables false
set_option linter.unusedSimpArgs false
namespace Go.Proofs.YtbioecifiogffaaGreatDoor
open Go.RowKit
set_option maxHeartbeats 4000000 in
set_option maxRecDepth 100000 in
theorem sameK_sl (v u : Value) (g g2 : Nat) (L : List Ev) (w : World) (h : EvSl w g v L) (h2 : EvSl w g2 u L) (hL : L.length ≤ 1000000000) :
    Calls Tryz.prog 27 #[v, u] w fun r w' => r = .returned (.bool true) ∧ Fresh w w' := by
  obtain ⟨q, c, rfl, -⟩ := h.form
  obtain ⟨q2, c2, rfl, -⟩ := h2.form
  have H := Lib.hid h
  have H2 := Lib.hid h2
  clear h h2
  go_enter Tryz.func27, Tryz.ntmps27
  go_wp2
  go_loopw [5] (fun i wr => ∃ j : Nat, j ≤ L.length ∧ i = .int .i64 j ∧ Fresh w wr) (fun i _ => L.length - (intOf i).toNat)
  case atStart => exact ⟨0, Nat.zero_le _, rfl, Keeps.refl _ _⟩
  case round =>
    obtain ⟨j, hj, rfl, hF⟩ := hrel
    by_cases hlt : j < L.length
    · obtain ⟨e, he⟩ : ∃ e, L[j]? = some e := ⟨L[j], List.getElem?_eq_getElem hlt⟩
      obtain ⟨off, hqe, -, hgl, x0, x1, x2, x3⟩ := EvSl.at (H.out.fresh hF) he
      obtain ⟨off2, hqe2, -, hgl2, z0, z1, z2, z3⟩ := EvSl.at (H2.out.fresh hF) he
      subst hqe hqe2
      have b0 : (0 : Int) ≤ (j : Int) := by omega
      have b1 : (j : Int) < (L.length : Int) := by omega
      have HF := Lib.hid hF
      clear he hF
      go_wp2
      go_quiet (fail)
      trace_state
      go_wp2
      go_roundw
      case rel => exact ⟨j + 1, by omega, by go_num, HF.out.drewN _⟩
      case measure => simp [intOf]; omega
    · obtain rfl : j = L.length := by omega
      clear hlt hj
      go_wp2
      go_ret
      exact ⟨rfl, hF⟩
end Go.Proofs.YtbioecifiogffaaGreatDoor
