/- (*finder).deeper, by what all does with fewer lines. Condition: no more than 2^24 bytes. -/
import Derived.Test.YtbioecifiogffaaDoorBlkEmit
namespace Go.Proofs.YtbioecifiogffaaDoor
open Go.RowKit

/-- all tells the blocks of lines that come to less than n. -/
def AllOK (k : Nat) (caps : Array Value) (R : List EvL) (F : World → List EvL → (Nat → Prop) → Prop) (n : Nat) : Prop :=
  ∀ (C d g : Nat) (v : Value) (l : List Ln) (w : World) (L : List EvL) (o : Nat → Prop), Fnd w C (fnV k caps) d → LnAt w g v l → F w L o → ¬ o C → (l ≠ [] → ¬ o g ∧ g ≠ C) → tot l < n → tot l ≤ 16777216 → d ≤ 3 → (∃ rest, L ++ blkF n d l ++ rest = R) →
    Calls Tryd.prog 64 #[.pointer (some ⟨C, 0, none⟩), v] w fun e w' => e = .returned (.tuple #[]) ∧ ∃ o', F w' (L ++ blkF n d l) o' ∧ Mv o o' w w'

theorem LnAt.mv {o o' : Nat → Prop} {w w' : World} {g : Nat} {v : Value} {l : List Ln} (h : LnAt w g v l) (hm : Mv o o' w w') (hg : l ≠ [] → ¬ o g) : LnAt w' g v l := by
  obtain ⟨a, cap, off, h1, h2, h3, h4⟩ := h
  exact ⟨a, cap, off, h1, h2, h3, fun hne => ⟨(h4 hne).1, fun j s hj => hm.1.cell_some ((h4 hne).2 j s hj) (hg hne)⟩⟩
theorem LnAt.keeps {D : Nat → Prop} {w w' : World} {g : Nat} {v : Value} {l : List Ln} (h : LnAt w g v l) (hm : Keeps D w w') (hg : l ≠ [] → ¬ D g) : LnAt w' g v l := by
  obtain ⟨a, cap, off, h1, h2, h3, h4⟩ := h
  exact ⟨a, cap, off, h1, h2, h3, fun hne => ⟨(h4 hne).1, fun j s hj => hm.cell_some ((h4 hne).2 j s hj) (hg hne)⟩⟩
theorem LnAt.lt {w : World} {g : Nat} {v : Value} {l : List Ln} (h : LnAt w g v l) (hne : l ≠ []) : g < w.heap.size := by
  obtain ⟨a, cap, off, h1, h2, h3, h4⟩ := h
  cases l with
  | nil => exact absurd rfl hne
  | cons s t => exact World.block_lt_of_cell? w _ ((h4 hne).2 0 s rfl)

/-- The depth is stored, and stored back. -/
theorem Fnd.set {w : World} {C d : Nat} {fv : Value} (h : Fnd w C fv d) (e : Nat) : Fnd (w.setCell ⟨C, 1, none⟩ (.int .i64 e)) C fv e ∧ Keeps (fun j => j = C) w (w.setCell ⟨C, 1, none⟩ (.int .i64 e)) := by
  refine ⟨?_, Keeps.setCell (D := fun j => j = C) (Keeps.refl _ w) (p := ⟨C, 1, none⟩) (fun _ => rfl) _⟩
  unfold Fnd at h ⊢
  simp [World.setCell, Array.getElem?_modify, h]
theorem back {o o' : Nat → Prop} {a b c e : World} {C d d' : Nat} {fv : Value} (h1 : Fnd a C fv d) (k1 : Keeps (fun j => j = C) a b) (m : Mv o o' b c) (k2 : Keeps (fun j => j = C) c e) (h2 : Fnd e C fv d) (_ : d' = d) : Mv o o' a e := by
  refine ⟨⟨k2.os.trans (m.1.os.trans k1.os), k2.tape.trans (m.1.tape.trans k1.tape), k2.output.trans (m.1.output.trans k1.output), Nat.le_trans k1.size (Nat.le_trans m.1.size k2.size), fun j hj hn => ?_⟩, fun j hj => ?_⟩
  · by_cases hjC : j = C
    · subst hjC; exact h2.trans h1.symm
    · have s1 := k1.size
      have s2 := m.1.size
      exact (k2.block j (by omega) hjC).trans ((m.1.block j (by omega) hn).trans (k1.block j hj hjC))
  · rcases m.2 j hj with h | h
    · exact .inl h
    · exact .inr (Nat.le_trans k1.size h)

section
variable {k : Nat} {caps : Array Value} {R : List EvL} {F : World → List EvL → (Nat → Prop) → Prop}

set_option maxHeartbeats 1000000 in
set_option maxRecDepth 100000 in
theorem lessD (C B3 d : Nat) (fv : Value) (u : FrameMode) (w : World) (h : Fnd w C fv (d + 1)) (hd : d ≤ 1000) (h3 : w.heap[B3]? = some (.cells #[.pointer (some ⟨C, 0, none⟩)] 122 (0, 0))) :
    CallsD Tryd.prog 135 #[.pointer (some ⟨B3, 0, none⟩)] u w fun e u' w' => u' = u ∧ e = .returned (.tuple #[]) ∧ w.setCell ⟨C, 1, none⟩ (.int .i64 d) = w' := by
  have c3 : w.cell? ⟨B3, 0, none⟩ = some (.pointer (some ⟨C, 0, none⟩)) := by rw [Lib.cell_of_heap h3]; rfl
  have c1 : w.cell? ⟨C, 1, none⟩ = some (.int .i64 ((d : Int) + 1)) := h.cells.2
  have f1 : w.frozen? ⟨C, 1, none⟩ = false := Lib.frozen_of_heap h 1
  clear h h3
  go_enter_d Tryd.func135, Tryd.ntmps135
  go_wp2
  go_end0
  refine ⟨rfl, ?_⟩
  simp

set_option maxHeartbeats 4000000 in
set_option maxRecDepth 100000 in
theorem deeper1_any (E : EmitOK k caps R F) (n : Nat) (IH : AllOK k caps R F n) (C d g B3 B5 : Nat) (v : Value) (l : List Ln) (w : World) (L : List EvL) (o : Nat → Prop) (h : Fnd w C (fnV k caps) d) (hv : LnAt w g v l) (hF : F w L o) (hC : ¬ o C) (hg : l ≠ [] → ¬ o g ∧ g ≠ C)
    (hn : tot l < n) (hL : tot l ≤ 16777216) (hd : d < 3) (hR : ∃ rest, L ++ blkF n (d + 1) l ++ rest = R) (h3 : w.heap[B3]? = some (.cells #[.pointer (some ⟨C, 0, none⟩)] 122 (0, 0))) (h5 : w.heap[B5]? = some (.cells #[v] 41 (0, 0))) (n3 : ¬ o B3) :
    Calls Tryd.prog 134 #[.pointer (some ⟨B3, 0, none⟩), .pointer (some ⟨B5, 0, none⟩)] w (DoOK F (fun _ => False) (fun _ _ => True) L (blkF n (d + 1) l) w o) := by
  obtain ⟨hfd1, hk1⟩ := h.set (d + 1)
  have n3C : B3 ≠ C := by rintro rfl; have := h.symm.trans h3; cases this
  have n5C : B5 ≠ C := by rintro rfl; have := h.symm.trans h5; cases this
  obtain ⟨W, hW⟩ : ∃ W, w.setCell ⟨C, 1, none⟩ (.int .i64 ((d : Int) + 1)) = W := ⟨_, rfl⟩
  have hfd1' : Fnd W C (fnV k caps) (d + 1) := by rw [← hW]; exact hfd1
  have hk1' : Keeps (fun j => j = C) w W := by rw [← hW]; exact hk1
  have hmf : ∀ (fn : Fn) (first cap : Array Value) (w : World), (Instr.makeFunc fn first cap).run Tryd.prog w = .ok (.func fn first cap) w := fun _ _ _ _ => rfl
  have c3 : w.cell? ⟨B3, 0, none⟩ = some (.pointer (some ⟨C, 0, none⟩)) := by rw [Lib.cell_of_heap h3]; rfl
  have c1 : w.cell? ⟨C, 1, none⟩ = some (.int .i64 d) := h.cells.2
  have f1 : w.frozen? ⟨C, 1, none⟩ = false := Lib.frozen_of_heap h 1
  have t3 := hk1'.heap_some h3 n3C
  have t5 := hk1'.heap_some h5 n5C
  have d3 : W.cell? ⟨B3, 0, none⟩ = some (.pointer (some ⟨C, 0, none⟩)) := by rw [Lib.cell_of_heap t3]; rfl
  have d5 : W.cell? ⟨B5, 0, none⟩ = some v := by rw [Lib.cell_of_heap t5]; rfl
  have hih := IH C (d + 1) g v l W L o hfd1' (hv.keeps hk1' (fun hne => (hg hne).2)) (E.keep hF hk1' (fun b hb => by rw [hb]; exact hC)) hC hg hn hL (by omega) hR
  have HIH := Lib.hid hih
  have HK := Lib.hid hk1'
  have H0 := Lib.hid h
  have HT3 := Lib.hid t3
  have HFD := Lib.hid hfd1'
  have HE := Lib.hid E
  clear hih hk1 hk1' hfd1 hfd1' h h3 h5 t3 t5 hF hv hg E IH hR
  go_enter_defers Tryd.func134, Tryd.ntmps134
  go_wp2_with fail
  refine HIH.out.mono ?_
  rintro e w2 ⟨rfl, o2, hF2, hm2⟩
  have HF2 := Lib.hid hF2
  have HM2 := Lib.hid hm2
  clear hF2 hm2 hW
  go_wp2
  refine leaves_cons (f := 135) (args := #[.pointer (some ⟨B3, 0, none⟩)]) (by simp) (by simp [go_sem]) ?_
  refine (lessD C B3 d (fnV k caps) .returning w2 (HM2.out.heap HFD.out hC) (by omega) (HM2.out.heap HT3.out n3)).mono ?_
  rintro e u' w3 ⟨rfl, rfl, rfl⟩
  have hfd2 : Fnd w2 C (fnV k caps) (d + 1) := HM2.out.heap HFD.out hC
  have hb := hfd2.set d
  have hm := back H0.out HK.out HM2.out hb.2 hb.1 rfl
  refine ⟨_, results_none rfl _ _ _, rfl, o2, ?_, MvX.of hm, trivial⟩
  exact HE.out.keep HF2.out hb.2 (fun b hb => by rw [hb]; exact HM2.out.not (World.block_lt_of_cell? W ⟨C, 0, none⟩ HFD.out.cells.1) hC)

set_option maxHeartbeats 4000000 in
set_option maxRecDepth 100000 in
theorem deeper_any (E : EmitOK k caps R F) (n : Nat) (IH : AllOK k caps R F n) (C d g : Nat) (kd : Int) (v : Value) (l : List Ln) (w : World) (L : List EvL) (o : Nat → Prop) (h : Fnd w C (fnV k caps) d) (hv : LnAt w g v l) (hF : F w L o) (hC : ¬ o C) (hg : l ≠ [] → ¬ o g ∧ g ≠ C)
    (hn : tot l < n) (hL : tot l ≤ 16777216) (hd : d < 3) (hR : ∃ rest, L ++ (bgE kd :: (blkF n (d + 1) l ++ [fnE kd])) ++ rest = R) :
    Calls Tryd.prog 116 #[.pointer (some ⟨C, 0, none⟩), .int .i64 kd, v] w fun e w' => e = .returned (.tuple #[]) ∧ ∃ o', F w' (L ++ (bgE kd :: (blkF n (d + 1) l ++ [fnE kd]))) o' ∧ Mv o o' w w' := by
  obtain ⟨rest, hR⟩ := hR
  obtain ⟨a, cap, rfl⟩ := hv.form
  have hmf : ∀ (fn : Fn) (first cap : Array Value) (w : World), (Instr.makeFunc fn first cap).run Tryd.prog w = .ok (.func fn first cap) w := fun _ _ _ _ => rfl
  obtain ⟨W, hW⟩ : ∃ W, (w.alloc (.cells #[.pointer (some ⟨C, 0, none⟩)] 122)).alloc (.cells #[.slice a l.length cap] 41) = W := ⟨_, rfl⟩
  have hFW : Fresh w W := by rw [← hW]; exact ((Keeps.refl _ _).alloc _).alloc _
  have hz : w.heap.size + 1 < W.heap.size := by rw [← hW]; simp
  have hlt := E.lt hF
  have t3 : W.heap[w.heap.size]? = some (.cells #[.pointer (some ⟨C, 0, none⟩)] 122 (0, 0)) := by
    rw [← hW, Below.heap_alloc _ _ _ (by simp)]
    exact heap_alloc_new w _
  have t5 : W.heap[w.heap.size + 1]? = some (.cells #[.slice a l.length cap] 41 (0, 0)) := by
    rw [← hW]
    have := heap_alloc_new (w.alloc (.cells #[.pointer (some ⟨C, 0, none⟩)] 122)) (.cells #[.slice a l.length cap] 41)
    simpa using this
  have hfW := h.fresh hFW
  have hvW := hv.fresh hFW
  have hFo := E.fresh hF hFW
  have c3 : W.cell? ⟨w.heap.size, 0, none⟩ = some (.pointer (some ⟨C, 0, none⟩)) := by rw [Lib.cell_of_heap t3]; rfl
  have n3 : ¬ o w.heap.size := fun h => by have := hlt _ h; omega
  have n5 : ¬ o (w.heap.size + 1) := fun h => by have := hlt _ h; omega
  have hC2 : C < W.heap.size := World.block_lt_of_cell? W ⟨C, 0, none⟩ hfW.cells.1
  have hdo : ∀ (w1 : World) (o1 : Nat → Prop), F w1 (L ++ [bgE kd]) o1 → Mv o o1 W w1 → Calls Tryd.prog 134 #[.pointer (some ⟨w.heap.size, 0, none⟩), .pointer (some ⟨w.heap.size + 1, 0, none⟩)] w1 (DoOK F (fun _ => False) (fun _ _ => True) (L ++ [bgE kd]) (blkF n (d + 1) l) w1 o1) := fun w1 o1 hF1 hm1 => by
    refine deeper1_any E n IH C d g w.heap.size (w.heap.size + 1) _ l w1 (L ++ [bgE kd]) o1 (hm1.heap hfW hC) (hvW.mv hm1 (fun hne => (hg hne).1)) hF1 (hm1.not hC2 hC) (fun hne => ⟨hm1.not (hvW.lt hne) (hg hne).1, (hg hne).2⟩) hn hL hd ⟨fnE kd :: rest, by rw [← hR]; simp⟩ (hm1.heap t3 n3) (hm1.heap t5 n5) (hm1.not (by omega) n3)
  have hwi := within_any E (fun _ => False) (fun _ _ => True) C d ⟨kd, false, 0, []⟩ 134 #[.pointer (some ⟨w.heap.size, 0, none⟩), .pointer (some ⟨w.heap.size + 1, 0, none⟩)] (blkF n (d + 1) l) W L o hfW hFo hC (fun _ h => h.elim) ⟨rest, by rw [← hR]; simp [bgE, fnE]⟩ (enters_of Tryd.func134 (by kernel_rfl) rfl) hdo
  unfold evV fnV at hwi
  have HWI := Lib.hid hwi
  have HFW := Lib.hid hFW
  clear hwi hdo hFW t3 t5 hfW hvW hFo hlt hF hv h hg IH E hR
  go_enter Tryd.func116, Tryd.ntmps116
  go_wp2_with fail
  refine HWI.out.mono ?_
  rintro e w2 ⟨rfl, _, _, o', -, -, hF2, hm2⟩
  clear hW
  go_wp2
  go_end0
  refine ⟨rfl, o', hF2, (Mv.fresh HFW.out).trans ⟨hm2.1.mono (fun j _ h => h.resolve_right (fun h => h)), hm2.2⟩⟩
end
end Go.Proofs.YtbioecifiogffaaDoor
