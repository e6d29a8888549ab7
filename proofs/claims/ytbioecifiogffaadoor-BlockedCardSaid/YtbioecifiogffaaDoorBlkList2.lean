/- (*finder).list: the whole list. Condition: no more than 2^24 bytes. -/
import Derived.Test.YtbioecifiogffaaDoorBlkList
namespace Go.Proofs.YtbioecifiogffaaDoor
open Go.RowKit

section
variable {k : Nat} {caps : Array Value} {R : List EvL} {F : World → List EvL → (Nat → Prop) → Prop}

set_option maxHeartbeats 4000000 in
set_option maxRecDepth 100000 in
theorem list_any (E : EmitOK k caps R F) (n : Nat) (IH : AllOK k caps R F n) (C d g f0 : Nat) (v : Value) (l : List Ln) (w : World) (L : List EvL) (o : Nat → Prop) (h : Fnd w C (fnV k caps) d) (hv : LnAt w g v l) (hF : F w L o) (hC : ¬ o C) (hg : ¬ o g ∧ g ≠ C)
    (hL : tot l ≤ 16777216) (hn : tot l ≤ n) (hd : d < 3) (hf0 : l.length ≤ f0) (hl0 : l ≠ []) (hR : ∃ rest, L ++ (bgE 3 :: ((lst f0 l).1.flatMap (itE n d) ++ [fnE 3])) ++ rest = R) :
    Calls Tryd.prog 92 #[.pointer (some ⟨C, 0, none⟩), v] w (StepOK F g L (bgE 3 :: ((lst f0 l).1.flatMap (itE n d) ++ [fnE 3])) (lst f0 l).2 o w) := by
  obtain ⟨rest, hR⟩ := hR
  obtain ⟨a, cap, rfl⟩ := hv.form
  have hgw : g < w.heap.size := hv.lt hl0
  have hCw : C < w.heap.size := World.block_lt_of_cell? w ⟨C, 0, none⟩ h.cells.1
  have hmf : ∀ (fn : Fn) (first cap : Array Value) (w : World), (Instr.makeFunc fn first cap).run Tryd.prog w = .ok (.func fn first cap) w := fun _ _ _ _ => rfl
  obtain ⟨W, hW⟩ : ∃ W, (w.alloc (.cells #[.pointer (some ⟨C, 0, none⟩)] 122)).alloc (.cells #[.slice a l.length cap] 41) = W := ⟨_, rfl⟩
  have hFW : Fresh w W := by rw [← hW]; exact ((Keeps.refl _ _).alloc _).alloc _
  have hz : w.heap.size + 1 < W.heap.size := by rw [← hW]; simp
  have hlt := E.lt hF
  have t2 : W.heap[w.heap.size]? = some (.cells #[.pointer (some ⟨C, 0, none⟩)] 122 (0, 0)) := by
    rw [← hW, Below.heap_alloc _ _ _ (by simp)]
    exact heap_alloc_new w _
  have t3 : W.heap[w.heap.size + 1]? = some (.cells #[.slice a l.length cap] 41 (0, 0)) := by
    rw [← hW]
    have := heap_alloc_new (w.alloc (.cells #[.pointer (some ⟨C, 0, none⟩)] 122)) (.cells #[.slice a l.length cap] 41)
    simpa using this
  have hfW := h.fresh hFW
  have hvW := hv.fresh hFW
  have hFo := E.fresh hF hFW
  have c2 : W.cell? ⟨w.heap.size, 0, none⟩ = some (.pointer (some ⟨C, 0, none⟩)) := by rw [Lib.cell_of_heap t2]; rfl
  have n2 : ¬ o w.heap.size := fun h => by have := hlt _ h; omega
  have n3 : ¬ o (w.heap.size + 1) := fun h => by have := hlt _ h; omega
  have hdo : ∀ (w1 : World) (o1 : Nat → Prop), F w1 (L ++ [((⟨3, false, 0, []⟩, false) : EvL)]) o1 → Mv o o1 W w1 → Calls Tryd.prog 117 #[.pointer (some ⟨w.heap.size + 1, 0, none⟩), .pointer (some ⟨w.heap.size, 0, none⟩)] w1 (DoOK F (fun j => j = w.heap.size + 1) (LstQ (w.heap.size + 1) g (lst f0 l).2) (L ++ [((⟨3, false, 0, []⟩, false) : EvL)]) ((lst f0 l).1.flatMap (itE n d)) w1 o1) := fun w1 o1 hF1 hm1 => by
    have hs1 := hm1.1.size
    refine list1_any E n IH C d g w.heap.size (w.heap.size + 1) f0 _ l w1 (L ++ [((⟨3, false, 0, []⟩, false) : EvL)]) o1 (hm1.heap hfW hC) (hvW.mv hm1 (fun _ => hg.1)) hF1 (hm1.not (by omega) hC) ⟨hm1.not (by omega) hg.1, hg.2⟩ hL hn hd hf0 ⟨fnE 3 :: rest, by rw [← hR]; simp [bgE]⟩ (hm1.heap t2 n2) (hm1.heap t3 n3) (hm1.not (by omega) n2) (hm1.not (by omega) n3) (by omega) (by omega)
  have hwi := within_any E (fun j => j = w.heap.size + 1) (LstQ (w.heap.size + 1) g (lst f0 l).2) C d ⟨3, false, 0, []⟩ 117 #[.pointer (some ⟨w.heap.size + 1, 0, none⟩), .pointer (some ⟨w.heap.size, 0, none⟩)] ((lst f0 l).1.flatMap (itE n d)) W L o hfW hFo hC (fun j h => ⟨by omega, by omega⟩) ⟨rest, by rw [← hR]; simp [bgE, fnE]⟩ (enters_of Tryd.func117 (by kernel_rfl) rfl) hdo
  unfold evV fnV at hwi
  have HWI := Lib.hid hwi
  have HFW := Lib.hid hFW
  clear hwi hdo hFW t2 t3 hfW hvW hFo hlt hF hv h IH E hR
  go_enter Tryd.func92, Tryd.ntmps92
  go_wp2_with fail
  refine HWI.out.mono ?_
  rintro e w4 ⟨rfl, w2', o2, o', ⟨v', hb, hv', nB, ng⟩, hm24, hF4, hm4⟩
  have hs := HFW.out.size
  have hB3 : w.heap.size + 1 < w2'.heap.size := (Array.getElem?_eq_some_iff.1 hb).1
  have hb4 := hm24.heap hb nB (fun h => by omega)
  have hgw2 : ¬ g = W.heap.size + 1 := by omega
  have hv4 : LnAt w4 g v' (lst f0 l).2 := hv'.keeps hm24.1 (fun _ h => by
    rcases h with h | h
    · exact ng h
    · exact hgw2 h)
  have c4 : w4.cell? ⟨w.heap.size + 1, 0, none⟩ = some v' := by rw [Lib.cell_of_heap hb4]; rfl
  have hm5 : Mv o o' w w4 := by
    refine ⟨(HFW.out.mono (fun _ _ h => h.elim) : Keeps o w W).trans hm4.1 (fun j hj hd => hd.resolve_right (fun h => by omega)), fun j hj => ?_⟩
    rcases hm4.2 j hj with h1 | h1
    · exact .inl h1
    · exact .inr (Nat.le_trans hs h1)
  have HV4 := Lib.hid hv4
  have HM5 := Lib.hid hm5
  clear hb hv' hm24 hm4 hb4 hv4 hm5 hW
  go_wp2
  go_ret
  exact ⟨_, o', rfl, HV4.out, hF4, HM5.out⟩
end
end Go.Proofs.YtbioecifiogffaaDoor
