/- Texts of this proof, joined: BlkDeep, BlkLeaf, BlkQuote, BlkCode, BlkPar, BlkList, BlkList2, BlkAll, BlkTop. Conditions: as each theorem names them. -/
import Derived.Test.YtbioecifiogffabGreatDoorR6
import Derived.Test.YtbioecifiogffabGreatDoorR1
import Derived.Test.YtbioecifiogffabGreatDoorR4
import Derived.ScopeJumps
import Derived.WalkMore
import Derived.Deep.RegionHeld3
set_option linter.unusedVariables false
set_option linter.unusedSimpArgs false
set_option maxHeartbeats 8000000
set_option maxRecDepth 1000000
namespace Go.Proofs.YtbioecifiogffabGreatDoor
open Go.RowKit
def AllOK (k : Nat) (caps : Array Value) (R : List EvL) (F : World → List EvL → (Nat → Prop) → Prop) (n : Nat) : Prop :=
 ∀ (C d g : Nat) (v : Value) (l : List Ln) (w : World) (L : List EvL) (o : Nat → Prop), Fnd w C (fnV k caps) d → LnAt w g v l → F w L o → ¬ o C → (l ≠ [] → ¬ o g ∧ g ≠ C) → tot l < n → tot l ≤ 16777216 → d ≤ 3 → (∃ rest, L ++ blkF n d l ++ rest = R) →
  Calls Tryz.prog 57 #[.pointer (some ⟨C, 0, none⟩), v] w fun e w' => e = .returned (.tuple #[]) ∧ ∃ o', F w' (L ++ blkF n d l) o' ∧ Mv o o' w w'
theorem LnAt.mv {o o' : Nat → Prop} {w w' : World} {g : Nat} {v : Value} {l : List Ln} (h : LnAt w g v l) (hm : Mv o o' w w') (hg : l ≠ [] → ¬ o g) : LnAt w' g v l := by
 obtain ⟨a, cap, off, h1, h2, h3, h4⟩ := h
 exact ⟨a, cap, off, h1, h2, h3, fun hne => ⟨(h4 hne).1, fun j s hj => hm.1.cell_some ((h4 hne).2 j s hj) (hg hne)⟩⟩
theorem LnAt.keeps {D : Nat → Prop} {w w' : World} {g : Nat} {v : Value} {l : List Ln} (h : LnAt w g v l) (hm : Keeps D w w') (hg : l ≠ [] → ¬ D g) : LnAt w' g v l := by
 obtain ⟨a, cap, off, h1, h2, h3, h4⟩ := h
 exact ⟨a, cap, off, h1, h2, h3, fun hne => ⟨(h4 hne).1, fun j s hj => hm.cell_some ((h4 hne).2 j s hj) (hg hne)⟩⟩
theorem LnAt.lt {w : World} {g : Nat} {v : Value} {l : List Ln} (h : LnAt w g v l) (hne : l ≠ []) : g < w.heap.size := by
 obtain ⟨a, cap, off, h1, h2, h3, h4⟩ := h
 cases l with
 | nil => exact absurd rfl hne
 | cons s t => exact World.block_lt_of_cell? w _ ((h4 hne).2 0 s rfl)
theorem Fnd.set {w : World} {C d : Nat} {fv : Value} (h : Fnd w C fv d) (e : Nat) : Fnd (w.setCell ⟨C, 1, none⟩ (.int .i64 e)) C fv e ∧ Keeps (fun j => j = C) w (w.setCell ⟨C, 1, none⟩ (.int .i64 e)) := by
 refine ⟨?_, Keeps.setCell (D := fun j => j = C) (Keeps.refl _ w) (p := ⟨C, 1, none⟩) (fun _ => rfl) _⟩
 unfold Fnd at h ⊢
 simp [World.setCell, Array.getElem?_modify, h]
theorem back {o o' : Nat → Prop} {a b c e : World} {C d d' : Nat} {fv : Value} (h1 : Fnd a C fv d) (k1 : Keeps (fun j => j = C) a b) (m : Mv o o' b c) (k2 : Keeps (fun j => j = C) c e) (h2 : Fnd e C fv d) (_ : d' = d) : Mv o o' a e := by
 refine ⟨⟨k2.os.trans (m.1.os.trans k1.os), k2.tape.trans (m.1.tape.trans k1.tape), k2.output.trans (m.1.output.trans k1.output), Nat.le_trans k1.size (Nat.le_trans m.1.size k2.size), fun j hj hn => ?_⟩, fun j hj => ?_⟩
 ·by_cases hjC : j = C
  ·subst hjC; exact h2.trans h1.symm
  ·have s1 := k1.size
   have s2 := m.1.size
   exact (k2.block j (by omega) hjC).trans ((m.1.block j (by omega) hn).trans (k1.block j hj hjC))
 ·rcases m.2 j hj with h | h
  ·exact .inl h
  ·exact .inr (Nat.le_trans k1.size h)
section
variable {k : Nat} {caps : Array Value} {R : List EvL} {F : World → List EvL → (Nat → Prop) → Prop}
theorem lessD (C B3 d : Nat) (fv : Value) (u : FrameMode) (w : World) (h : Fnd w C fv (d + 1)) (hd : d ≤ 1000) (h3 : w.heap[B3]? = some (.cells #[.pointer (some ⟨C, 0, none⟩)] 163 (0, 0))) :
 CallsD Tryz.prog 144 #[.pointer (some ⟨B3, 0, none⟩)] u w fun e u' w' => u' = u ∧ e = .returned (.tuple #[]) ∧ w.setCell ⟨C, 1, none⟩ (.int .i64 d) = w' := by
 have c3 : w.cell? ⟨B3, 0, none⟩ = some (.pointer (some ⟨C, 0, none⟩)) := by rw [Lib.cell_of_heap h3]; rfl
 have c1 : w.cell? ⟨C, 1, none⟩ = some (.int .i64 ((d : Int) + 1)) := h.cells.2
 have f1 : w.frozen? ⟨C, 1, none⟩ = false := Lib.frozen_of_heap h 1
 clear h h3
 go_enter_d Tryz.func144, Tryz.ntmps144
 go_wp2
 go_end0
 refine ⟨rfl, ?_⟩
 simp
theorem deeper1_any (E : EmitOK k caps R F) (n : Nat) (IH : AllOK k caps R F n) (C d g B3 B5 : Nat) (v : Value) (l : List Ln) (w : World) (L : List EvL) (o : Nat → Prop) (h : Fnd w C (fnV k caps) d) (hv : LnAt w g v l) (hF : F w L o) (hC : ¬ o C) (hg : l ≠ [] → ¬ o g ∧ g ≠ C)
 (hn : tot l < n) (hL : tot l ≤ 16777216) (hd : d < 3) (hR : ∃ rest, L ++ blkF n (d + 1) l ++ rest = R) (h3 : w.heap[B3]? = some (.cells #[.pointer (some ⟨C, 0, none⟩)] 163 (0, 0))) (h5 : w.heap[B5]? = some (.cells #[v] 167 (0, 0))) (n3 : ¬ o B3) :
 Calls Tryz.prog 143 #[.pointer (some ⟨B3, 0, none⟩), .pointer (some ⟨B5, 0, none⟩)] w (DoOK F (fun _ => False) (fun _ _ => True) L (blkF n (d + 1) l) w o) := by
 obtain ⟨hfd1, hk1⟩ := h.set (d + 1)
 have n3C : B3 ≠ C := by rintro rfl; have := h.symm.trans h3; cases this
 have n5C : B5 ≠ C := by rintro rfl; have := h.symm.trans h5; cases this
 obtain ⟨W, hW⟩ : ∃ W, w.setCell ⟨C, 1, none⟩ (.int .i64 ((d : Int) + 1)) = W := ⟨_, rfl⟩
 have hfd1' : Fnd W C (fnV k caps) (d + 1) := by rw [← hW]; exact hfd1
 have hk1' : Keeps (fun j => j = C) w W := by rw [← hW]; exact hk1
 have hmf : ∀ (fn : Fn) (first cap : Array Value) (w : World), (Instr.makeFunc fn first cap).run Tryz.prog w = .ok (.func fn first cap) w := fun _ _ _ _ => rfl
 have c3 : w.cell? ⟨B3, 0, none⟩ = some (.pointer (some ⟨C, 0, none⟩)) := by rw [Lib.cell_of_heap h3]; rfl
 have c1 : w.cell? ⟨C, 1, none⟩ = some (.int .i64 d) := h.cells.2
 have f1 : w.frozen? ⟨C, 1, none⟩ = false := Lib.frozen_of_heap h 1
 have t3 := hk1'.heap_some h3 n3C
 have t5 := hk1'.heap_some h5 n5C
 have d3 : W.cell? ⟨B3, 0, none⟩ = some (.pointer (some ⟨C, 0, none⟩)) := by rw [Lib.cell_of_heap t3]; rfl
 have d5 : W.cell? ⟨B5, 0, none⟩ = some v := by rw [Lib.cell_of_heap t5]; rfl
 have hih := IH C (d + 1) g v l W L o hfd1' (hv.keeps hk1' (fun hne => (hg hne).2)) (E.keep hF hk1' (fun b hb => by rw [hb]; exact hC)) hC hg hn hL (by omega) hR
 have HIH := Lib.hid hih
 have HK := Lib.hid hk1'
 have H0 := Lib.hid h
 have HT3 := Lib.hid t3
 have HFD := Lib.hid hfd1'
 have HE := Lib.hid E
 clear hih hk1 hk1' hfd1 hfd1' h h3 h5 t3 t5 hF hv hg E IH hR
 go_enter_defers Tryz.func143, Tryz.ntmps143
 go_wp2_with fail
 refine HIH.out.mono ?_
 rintro e w2 ⟨rfl, o2, hF2, hm2⟩
 have HF2 := Lib.hid hF2
 have HM2 := Lib.hid hm2
 clear hF2 hm2 hW
 go_wp2
 refine leaves_cons (f := 144) (args := #[.pointer (some ⟨B3, 0, none⟩)]) (by simp) (by simp [go_sem]) ?_
 refine (lessD C B3 d (fnV k caps) .returning w2 (HM2.out.heap HFD.out hC) (by omega) (HM2.out.heap HT3.out n3)).mono ?_
 rintro e u' w3 ⟨rfl, rfl, rfl⟩
 have hfd2 : Fnd w2 C (fnV k caps) (d + 1) := HM2.out.heap HFD.out hC
 have hb := hfd2.set d
 have hm := back H0.out HK.out HM2.out hb.2 hb.1 rfl
 refine ⟨_, results_none rfl _ _ _, rfl, o2, ?_, MvX.of hm, trivial⟩
 exact HE.out.keep HF2.out hb.2 (fun b hb => by rw [hb]; exact HM2.out.not (World.block_lt_of_cell? W ⟨C, 0, none⟩ HFD.out.cells.1) hC)
theorem deeper_any (E : EmitOK k caps R F) (n : Nat) (IH : AllOK k caps R F n) (C d g : Nat) (kd : Int) (v : Value) (l : List Ln) (w : World) (L : List EvL) (o : Nat → Prop) (h : Fnd w C (fnV k caps) d) (hv : LnAt w g v l) (hF : F w L o) (hC : ¬ o C) (hg : l ≠ [] → ¬ o g ∧ g ≠ C)
 (hn : tot l < n) (hL : tot l ≤ 16777216) (hd : d < 3) (hR : ∃ rest, L ++ (bgE kd :: (blkF n (d + 1) l ++ [fnE kd])) ++ rest = R) :
 Calls Tryz.prog 121 #[.pointer (some ⟨C, 0, none⟩), .int .i64 kd, v] w fun e w' => e = .returned (.tuple #[]) ∧ ∃ o', F w' (L ++ (bgE kd :: (blkF n (d + 1) l ++ [fnE kd]))) o' ∧ Mv o o' w w' := by
 obtain ⟨rest, hR⟩ := hR
 obtain ⟨a, cap, rfl⟩ := hv.form
 have hmf : ∀ (fn : Fn) (first cap : Array Value) (w : World), (Instr.makeFunc fn first cap).run Tryz.prog w = .ok (.func fn first cap) w := fun _ _ _ _ => rfl
 obtain ⟨W, hW⟩ : ∃ W, (w.alloc (.cells #[.pointer (some ⟨C, 0, none⟩)] 163)).alloc (.cells #[.slice a l.length cap] 167) = W := ⟨_, rfl⟩
 have hFW : Fresh w W := by rw [← hW]; exact ((Keeps.refl _ _).alloc _).alloc _
 have hz : w.heap.size + 1 < W.heap.size := by rw [← hW]; simp
 have hlt := E.lt hF
 have t3 : W.heap[w.heap.size]? = some (.cells #[.pointer (some ⟨C, 0, none⟩)] 163 (0, 0)) := by
  rw [← hW, Below.heap_alloc _ _ _ (by simp)]
  exact heap_alloc_new w _
 have t5 : W.heap[w.heap.size + 1]? = some (.cells #[.slice a l.length cap] 167 (0, 0)) := by
  rw [← hW]
  have := heap_alloc_new (w.alloc (.cells #[.pointer (some ⟨C, 0, none⟩)] 163)) (.cells #[.slice a l.length cap] 167)
  simpa using this
 have hfW := h.fresh hFW
 have hvW := hv.fresh hFW
 have hFo := E.fresh hF hFW
 have c3 : W.cell? ⟨w.heap.size, 0, none⟩ = some (.pointer (some ⟨C, 0, none⟩)) := by rw [Lib.cell_of_heap t3]; rfl
 have n3 : ¬ o w.heap.size := fun h => by have := hlt _ h; omega
 have n5 : ¬ o (w.heap.size + 1) := fun h => by have := hlt _ h; omega
 have hC2 : C < W.heap.size := World.block_lt_of_cell? W ⟨C, 0, none⟩ hfW.cells.1
 have hdo : ∀ (w1 : World) (o1 : Nat → Prop), F w1 (L ++ [bgE kd]) o1 → Mv o o1 W w1 → Calls Tryz.prog 143 #[.pointer (some ⟨w.heap.size, 0, none⟩), .pointer (some ⟨w.heap.size + 1, 0, none⟩)] w1 (DoOK F (fun _ => False) (fun _ _ => True) (L ++ [bgE kd]) (blkF n (d + 1) l) w1 o1) := fun w1 o1 hF1 hm1 => by
  refine deeper1_any E n IH C d g w.heap.size (w.heap.size + 1) _ l w1 (L ++ [bgE kd]) o1 (hm1.heap hfW hC) (hvW.mv hm1 (fun hne => (hg hne).1)) hF1 (hm1.not hC2 hC) (fun hne => ⟨hm1.not (hvW.lt hne) (hg hne).1, (hg hne).2⟩) hn hL hd ⟨fnE kd :: rest, by rw [← hR]; simp⟩ (hm1.heap t3 n3) (hm1.heap t5 n5) (hm1.not (by omega) n3)
 have hwi := within_any E (fun _ => False) (fun _ _ => True) C d ⟨kd, false, 0, []⟩ 143 #[.pointer (some ⟨w.heap.size, 0, none⟩), .pointer (some ⟨w.heap.size + 1, 0, none⟩)] (blkF n (d + 1) l) W L o hfW hFo hC (fun _ h => h.elim) ⟨rest, by rw [← hR]; simp [bgE, fnE]⟩ (enters_of Tryz.func143 (by kernel_rfl) rfl) hdo
 unfold evV fnV at hwi
 have HWI := Lib.hid hwi
 have HFW := Lib.hid hFW
 clear hwi hdo hFW t3 t5 hfW hvW hFo hlt hF hv h hg IH E hR
 go_enter Tryz.func121, Tryz.ntmps121
 go_wp2_with fail
 refine HWI.out.mono ?_
 rintro e w2 ⟨rfl, _, _, o', -, -, hF2, hm2⟩
 clear hW
 go_wp2
 go_end0
 refine ⟨rfl, o', hF2, (Mv.fresh HFW.out).trans ⟨hm2.1.mono (fun j _ h => h.resolve_right (fun h => h)), hm2.2⟩⟩
end
end Go.Proofs.YtbioecifiogffabGreatDoor
namespace Go.Proofs.YtbioecifiogffabGreatDoor
open Go.RowKit
theorem MvX.none {o o' : Nat → Prop} {w w' : World} (h : MvX (fun _ => False) o o' w w') : Mv o o' w w' := ⟨h.1.mono (fun j _ h => h.resolve_right (fun h => h)), h.2⟩
def StepOK (F : World → List EvL → (Nat → Prop) → Prop) (g : Nat) (L M : List EvL) (Z : List Ln) (o : Nat → Prop) (w : World) (e : Ending) (w' : World) : Prop :=
 ∃ v' o', e = .returned v' ∧ LnAt w' g v' Z ∧ F w' (L ++ M) o' ∧ Mv o o' w w'
section
variable {k : Nat} {caps : Array Value} {R : List EvL} {F : World → List EvL → (Nat → Prop) → Prop}
theorem heading1_any (E : EmitOK k caps R F) (C d B2 B6 : Nat) (s : ByteArray) (w : World) (L : List EvL) (o : Nat → Prop) (h : Fnd w C (fnV k caps) d) (hF : F w L o) (hR : ∃ rest, L ++ txE s.data.toList true ++ rest = R)
 (h2 : w.heap[B2]? = some (.cells #[.pointer (some ⟨C, 0, none⟩)] 163 (0, 0))) (h6 : w.heap[B6]? = some (.cells #[.string s] 9 (0, 0))) :
 Calls Tryz.prog 119 #[.pointer (some ⟨B2, 0, none⟩), .pointer (some ⟨B6, 0, none⟩)] w (DoOK F (fun _ => False) (fun _ _ => True) L (txE s.data.toList true) w o) := by
 have c2 : w.cell? ⟨B2, 0, none⟩ = some (.pointer (some ⟨C, 0, none⟩)) := by rw [Lib.cell_of_heap h2]; rfl
 have c6 : w.cell? ⟨B6, 0, none⟩ = some (.string s) := by rw [Lib.cell_of_heap h6]; rfl
 have htx := text_any E C d s true w L o h hF hR
 have HTX := Lib.hid htx
 clear htx h2 h6 hF hR h E
 go_enter Tryz.func119, Tryz.ntmps119
 go_wp2_with fail
 refine HTX.out.mono ?_
 rintro e w2 ⟨rfl, o2, hF2, hm2⟩
 go_wp2
 go_end0
 exact ⟨rfl, o2, hF2, MvX.of hm2, trivial⟩
theorem hdg_any (E : EmitOK k caps R F) (C d g : Nat) (v : Value) (s : Ln) (t : List Ln) (w : World) (L : List EvL) (o : Nat → Prop) (h : Fnd w C (fnV k caps) d) (hv : LnAt w g v (s :: t)) (hF : F w L o) (hC : ¬ o C) (hg : ¬ o g ∧ g ≠ C)
 (hL : tot (s :: t) ≤ 16777216) (hl : 1 ≤ lvl s) (hR : ∃ rest, L ++ leafE 1 (lvl s) (trm (s.drop (lvl s))) true ++ rest = R) :
 Calls Tryz.prog 83 #[.pointer (some ⟨C, 0, none⟩), v] w (StepOK F g L (leafE 1 (lvl s) (trm (s.drop (lvl s))) true) t o w) := by
 obtain ⟨rest, hR⟩ := hR
 rw [tot_cons] at hL
 have hmf : ∀ (fn : Fn) (first cap : Array Value) (w : World), (Instr.makeFunc fn first cap).run Tryz.prog w = .ok (.func fn first cap) w := fun _ _ _ _ => rfl
 obtain ⟨cap, off, rfl, h1, h2, hcell⟩ := hv.line (j := 0) (s := s) rfl
 rw [Nat.add_zero] at hcell
 obtain ⟨S, hS, hSl, hSs⟩ := mk_of s
 rw [hS] at hcell
 have hlv := (lvl_le s).2 (by omega)
 have hl3 := (lvl_le s).1
 have hhd := fun W : World => heading_any S W (by omega)
 rw [hSl, ← hlv] at hhd
 have hdl : decide (0 < lvl s) = true := by simp; omega
 rw [hdl] at hhd
 obtain ⟨T, hT, hTl, hTs⟩ := mk_of (trm (s.drop (lvl s)))
 rw [hT] at hhd
 rw [← hTl] at hR ⊢
 generalize lvl s = n at *
 obtain ⟨W, hW⟩ : ∃ W, w.alloc (.cells #[.pointer (some ⟨C, 0, none⟩)] 163) = W := ⟨_, rfl⟩
 have hFW : Fresh w W := by rw [← hW]; exact (Keeps.refl _ _).alloc _
 have hz : w.heap.size < W.heap.size := by rw [← hW]; simp
 have t2 : W.heap[w.heap.size]? = some (.cells #[.pointer (some ⟨C, 0, none⟩)] 163 (0, 0)) := by rw [← hW]; exact heap_alloc_new w _
 have hlt := E.lt hF
 have hcW := hFW.cell_some hcell (fun h => h)
 have HHD := Lib.hid hhd
 have HFW := Lib.hid hFW
 have HT2 := Lib.hid t2
 have HV := Lib.hid hv
 have HF := Lib.hid hF
 have HE := Lib.hid E
 have HR := Lib.hid hR
 have HLT := Lib.hid hlt
 have H := Lib.hid h
 clear hhd hFW t2 hv hF E hR hlt h hlv hdl hT hTs hTl hS hSl hSs hcell
 go_enter Tryz.func83, Tryz.ntmps83
 go_wp2_with fail
 refine (HHD.out _).mono ?_
 rintro e w2 ⟨rfl, hk2⟩
 obtain ⟨W3, hW3⟩ : ∃ W3, w2.alloc (.cells #[.string T] 9) = W3 := ⟨_, rfl⟩
 have hk3 : Fresh W W3 := by rw [← hW3]; exact hk2.alloc _
 have hk30 : Fresh w W3 := HFW.out.tr hk3
 have t2 := hk3.heap_some HT2.out (fun h => h)
 have t6 : W3.heap[w2.heap.size]? = some (.cells #[.string T] 9 (0, 0)) := by rw [← hW3]; exact heap_alloc_new w2 _
 have hz2 := hk2.size
 have hz3 : w2.heap.size < W3.heap.size := by rw [← hW3]; simp
 have c2 : W3.cell? ⟨w.heap.size, 0, none⟩ = some (.pointer (some ⟨C, 0, none⟩)) := by rw [Lib.cell_of_heap t2]; rfl
 have n2 : ¬ o w.heap.size := fun h => by have := HLT.out _ h; omega
 have n6 : ¬ o w2.heap.size := fun h => by have := HLT.out _ h; omega
 have hfd := H.out.fresh hk30
 have hdo : ∀ (w1 : World) (o1 : Nat → Prop), F w1 (L ++ [((⟨1, false, n, []⟩, false) : EvL)]) o1 → Mv o o1 W3 w1 → Calls Tryz.prog 119 #[.pointer (some ⟨w.heap.size, 0, none⟩), .pointer (some ⟨w2.heap.size, 0, none⟩)] w1 (DoOK F (fun _ => False) (fun _ _ => True) (L ++ [((⟨1, false, n, []⟩, false) : EvL)]) (txE T.data.toList true) w1 o1) := fun w1 o1 hF1 hm1 =>
  heading1_any HE.out C d w.heap.size w2.heap.size T w1 _ o1 (hm1.heap hfd hC) hF1 ⟨_, by rw [← HR.out]; unfold leafE; simp only [List.append_assoc, List.cons_append, List.nil_append]; rfl⟩ (hm1.heap t2 n2) (hm1.heap t6 n6)
 have hwi := within_any HE.out (fun _ => False) (fun _ _ => True) C d ⟨1, false, n, []⟩ 119 #[.pointer (some ⟨w.heap.size, 0, none⟩), .pointer (some ⟨w2.heap.size, 0, none⟩)] (txE T.data.toList true) W3 L o hfd (HE.out.fresh HF.out hk30) hC (fun _ h => h.elim) ⟨rest, by rw [← HR.out]; simp [leafE]⟩ (enters_of Tryz.func119 (by kernel_rfl) rfl) hdo
 unfold evV fnV at hwi
 have hv3 := HV.out.fresh hk30
 have HWI := Lib.hid hwi
 have HV3 := Lib.hid hv3
 have HK3 := Lib.hid hk30
 clear hwi hdo hk2 hk3 hk30 t2 t6 hfd hv3 hW
 go_wp2_with fail
 refine HWI.out.mono ?_
 rintro e w4 ⟨rfl, _, _, o', -, -, hF4, hm4⟩
 have hm5 : Mv o o' w w4 := (Mv.fresh HK3.out).trans hm4.none
 have hv40 : LnAt w4 g _ (s :: t) := HV3.out.mv hm4.none (fun _ => hg.1)
 have hv4 := hv40.cutv 1 (by simp) (m := t.length) (by simp)
 have HM5 := Lib.hid hm5
 clear hm4 hv40 hm5 hW3
 by_cases hcap : cap = 1
 ·subst hcap
  rw [if_pos rfl] at hv4
  have HV4 := Lib.hid hv4
  clear hv4
  go_wp2
  go_ret
  exact ⟨_, o', rfl, HV4.out, hF4, HM5.out⟩
 ·rw [if_neg hcap] at hv4
  have HV4 := Lib.hid hv4
  clear hv4
  go_wp2
  go_ret
  exact ⟨_, o', rfl, HV4.out, hF4, HM5.out⟩
end
end Go.Proofs.YtbioecifiogffabGreatDoor
namespace Go.Proofs.YtbioecifiogffabGreatDoor
open Go.RowKit
theorem quo_rest {s : Ln} (h : isQuo s = true) : Lib.trimPrefix s [62] = s.drop 1 := by
 unfold Lib.trimPrefix
 rw [isQuo_pre, h]
 rfl
theorem quo_unq {s : Ln} : Lib.trimPrefix (s.drop 1) [32] = unq s := by
 unfold unq Lib.trimPrefix
 generalize s.drop 1 = t
 cases t with
 | nil => rfl
 | cons c r =>
  unfold Lib.hasPrefix
  by_cases hc : c = 32
  ·subst hc; rfl
  ·have h2 : ¬ 32 = c := fun e => hc e.symm
   have hp : ([32] : List UInt8).isPrefixOf (c :: r) = false := by simp [List.isPrefixOf, h2]
   rw [hp]
   simp only [Bool.false_eq_true, if_false]
   split
   ·rename_i h; injection h with h _; exact absurd h hc
   ·rfl
theorem Lns.atB {w : World} {v : Value} {l : List Ln} (h : Lns w v l) : ∃ g, LnAt w g v l ∧ (l ≠ [] → v.ownBlock = some g) := by
 refine ⟨(v.ownBlock).getD 0, h.at, fun hne => ?_⟩
 rcases h.2 with ⟨rfl, h0⟩ | ⟨g, cap, cur, rfl, hb, hg, hc, hm, _⟩
 ·exact absurd (List.eq_nil_of_length_eq_zero h0) hne
 ·rfl
section
variable {k : Nat} {caps : Array Value} {R : List EvL} {F : World → List EvL → (Nat → Prop) → Prop}
theorem quote_any (E : EmitOK k caps R F) (n : Nat) (IH : AllOK k caps R F n) (C d g : Nat) (v : Value) (l : List Ln) (w : World) (L : List EvL) (o : Nat → Prop) (h : Fnd w C (fnV k caps) d) (hv : LnAt w g v l) (hF : F w L o) (hC : ¬ o C) (hg : ¬ o g ∧ g ≠ C)
 (hL : tot l ≤ 16777216) (hn : tot (qtd l).1 < n) (hd : d < 3) (hR : ∃ rest, L ++ (bgE 2 :: (blkF n (d + 1) (qtd l).1 ++ [fnE 2])) ++ rest = R) :
 Calls Tryz.prog 84 #[.pointer (some ⟨C, 0, none⟩), v] w (StepOK F g L (bgE 2 :: (blkF n (d + 1) (qtd l).1 ++ [fnE 2])) (qtd l).2 o w) := by
 have hqt := qtd_tot l
 have hlen := tot_len l
 have h0 : ([] : List Ln) ++ (qtd l).1 = (qtd l).1 ∧ (qtd l).2 = (qtd l).2 := ⟨rfl, rfl⟩
 obtain ⟨X, hX⟩ : ∃ X, (qtd l).1 = X := ⟨_, rfl⟩
 obtain ⟨Y, hY⟩ : ∃ Y, (qtd l).2 = Y := ⟨_, rfl⟩
 have h0 : ([] : List Ln) ++ (qtd l).1 = X ∧ (qtd l).2 = Y := ⟨hX, hY⟩
 rw [hX] at hn hR hqt ⊢
 rw [hY] at hqt ⊢
 have hlt := E.lt hF
 have hCw : C < w.heap.size := World.block_lt_of_cell? w ⟨C, 0, none⟩ h.cells.1
 have HI := Lib.hid Tryz.infoStr
 have H0 := Lib.hid h0
 have HV := Lib.hid hv
 have HF := Lib.hid hF
 have HE := Lib.hid E
 have HR := Lib.hid hR
 have HLT := Lib.hid hlt
 have H := Lib.hid h
 have HIH := Lib.hid IH
 have HG := Lib.hid hg
 clear h0 hv hF E hR hlt h hX hY IH hg
 go_enter Tryz.func84, Tryz.ntmps84
 go_upto_block 0 with fail
 go_cut [1, 5] (fun v i wr => LnAt wr g v Y ∧ Lns wr i X ∧ (∀ b, i.ownBlock = some b → w.heap.size ≤ b) ∧ Fresh w wr)
 case first =>
  go_wp2_with fail
  go_loopw [1, 5] (fun v i wr => ∃ (cur done : List Ln), LnAt wr g v cur ∧ tot cur ≤ tot l ∧ Lns wr i done ∧ (done ++ (qtd cur).1 = X ∧ (qtd cur).2 = Y) ∧ (∀ b, i.ownBlock = some b → w.heap.size ≤ b) ∧ Fresh w wr) (fun v _ _ => slen v)
  case atStart => exact ⟨l, [], HV.out, Nat.le_refl _, Lns.nil _, H0.out, (fun b h => by cases h), Keeps.refl _ _⟩
  case round =>
   obtain ⟨cur, done, hv, hct, hi, ⟨hx, hy⟩, ho, hFr⟩ := hrel
   cases cur with
   | nil =>
    obtain ⟨a, cap, rfl⟩ := hv.form
    have hx2 : done = X := by simpa [qtd] using hx
    have hy2 : ([] : List Ln) = Y := hy
    subst hx2 hy2
    have HVV := Lib.hid hv
    have HII := Lib.hid hi
    have HOO := Lib.hid ho
    have HFR := Lib.hid hFr
    clear hx hy hv hi ho hFr
    go_wp2
    go_meet
    exact ⟨HVV.out, HII.out, HOO.out, HFR.out⟩
   | cons s t =>
    have htc : tot (s :: t) = s.length + 1 + tot t := tot_cons s t
    obtain ⟨cap, off, rfl, h1, h2, hcell⟩ := hv.line (j := 0) (s := s) rfl
    rw [Nat.add_zero] at hcell
    obtain ⟨S, hS, hSl, hSs⟩ := mk_of s
    rw [hS] at hcell
    have hcp := fun W : World => Tryz.strings_CutPrefix S ⟨#[62]⟩ W
    rw [hSl, show (⟨#[62]⟩ : ByteArray).data.toList = [62] from rfl, isQuo_pre] at hcp
    obtain ⟨T, hT, hTl, hTs⟩ := mk_of (Lib.trimPrefix s [62])
    rw [hT] at hcp
    have hll : ((s :: t).length : Int) = (t.length : Int) + 1 := by simp
    cases hq : isQuo s with
    | false =>
     have e : qtd (s :: t) = ([], s :: t) := by simp [qtd, hq]
     rw [e] at hx hy
     have hx2 : done = X := by simpa using hx
     have hy2 : s :: t = Y := hy
     rw [hq] at hcp
     have HCP := Lib.hid hcp
     have HVV := Lib.hid hv
     have HII := Lib.hid hi
     have HOO := Lib.hid ho
     have HFR := Lib.hid hFr
     have HX := Lib.hid hx2
     have HY := Lib.hid hy2
     clear hx hy hx2 hy2 hv hi ho hFr hcp hS hSl hSs hT hTl hTs e hq htc hll
     go_wp2_with fail
     refine (HCP.out _).mono ?_
     rintro e w5 ⟨rfl, rfl⟩
     go_wp2
     go_meet
     exact ⟨by rw [← HY.out]; exact HVV.out, by rw [← HX.out]; exact HII.out, HOO.out, HFR.out⟩
    | true =>
     have e : qtd (s :: t) = (unq s :: (qtd t).1, (qtd t).2) := by simp [qtd, hq]
     rw [e] at hx hy
     have hx2 : (done ++ [unq s]) ++ (qtd t).1 = X := by rw [← hx]; simp
     have htp := fun W : World => Tryz.strings_TrimPrefix T ⟨#[32]⟩ W
     rw [hTl, show (⟨#[32]⟩ : ByteArray).data.toList = [32] from rfl, quo_rest hq, quo_unq] at htp
     obtain ⟨U, hU, hUl, hUs⟩ := mk_of (unq s)
     rw [hU] at htp
     rw [hq] at hcp
     obtain ⟨q5, c5, rfl, -, -, -⟩ := own_form hi
     have hdl : done.length ≤ X.length := by rw [← hx]; simp
     have hXt := tot_len X
     have hil : wr.ownsRow 0 9 1 (.slice q5 done.length c5) done.length (lnCells done) := hi
     have hvc := hv.cutv 1 (by simp) (m := t.length) (by simp)
     have HVC := Lib.hid hvc
     have HCP := Lib.hid hcp
     have HTP := Lib.hid htp
     have HL5 := Lib.hid (ln_add wr U 9 hil)
     have HOO := Lib.hid ho
     have HFR := Lib.hid hFr
     have HX := Lib.hid hx2
     have HY := Lib.hid hy
     have HUL := Lib.hid hUl
     have hgr : g < wr.heap.size := hv.lt (by simp)
     have hg0 : g < w.heap.size := HV.out.lt (by intro e0; rw [e0] at hct; simp [tot] at hct)
     clear hx hy hx2 hv hi hil ho hFr hcp htp hS hSl hSs hT hTl hTs e hq hvc hU hUl hUs hll
     go_wp2_with fail
     refine (HCP.out _).mono ?_
     rintro e w5 ⟨rfl, rfl⟩
     go_wp2_with fail
     refine (HTP.out _).mono ?_
     rintro e w6 ⟨rfl, rfl⟩
     go_wp2_with (at_builtin; refine wpList_append_mine _ rfl _ _ 167 rfl 9 _ 1 16 Tryz.underlying167 HI.out rfl (by decide) _ _ _ rfl HL5.out _ 1 1 [.string U] rfl rfl (fun h => (by cases h)) (ln_at _ U 9 _ (by simp)) (str_one _) (by unfold maxLen; omega) (by omega) ?_)
     intro p7 c7 w7 hr7 hg7 hk7
     obtain ⟨ho7, hF7⟩ := own_grow (HFR.out.alloc _) HOO.out hg7 hk7
     have hv7 := HVC.out.keeps (((Keeps.refl (fun k => (Value.slice q5 done.length c5).ownBlock = some k) w6).alloc _).tr hk7) (fun _ h => by have := HOO.out g h; omega)
     have HV7 := Lib.hid hv7
     have HR7 := Lib.hid (Lns.snoc (s := U.data.toList) hr7)
     have HO7 := Lib.hid ho7
     have HF7 := Lib.hid hF7
     clear hr7 hg7 hk7 ho7 hF7 hv7
     go_wp2
     go_roundw
     case rel => exact ⟨t, done ++ [unq s], HV7.out, by omega, by rw [← HUL.out]; exact HR7.out, ⟨HX.out, HY.out⟩, HO7.out, HF7.out⟩
     case measure => simp [slen]
 case rest =>
  obtain ⟨hv, hi, ho, hFr⟩ := hcut
  obtain ⟨gv, hat, hgv⟩ := hi.atB
  have hfd := H.out.fresh hFr
  have hdp := deeper_any HE.out n HIH.out C d gv 2 _ X wc L o hfd hat (HE.out.fresh HF.out hFr) hC (fun hne => by
    have := ho gv (hgv hne)
    exact ⟨fun h => by have := HLT.out _ h; omega, by omega⟩) hn (by omega) hd HR.out
  have HDP := Lib.hid hdp
  have HV2 := Lib.hid hv
  have HFR := Lib.hid hFr
  clear hdp hv hi ho hFr hat hgv hfd
  go_wp2_with fail
  refine HDP.out.mono ?_
  rintro e w2 ⟨rfl, o2, hF2, hm2⟩
  have hv2 := HV2.out.mv hm2 (fun _ => HG.out.1)
  have HV3 := Lib.hid hv2
  have HM := Lib.hid ((Mv.fresh HFR.out).trans hm2)
  clear hv2 hm2
  go_wp2
  go_ret
  exact ⟨_, o2, rfl, HV3.out, hF2, HM.out⟩
end
end Go.Proofs.YtbioecifiogffabGreatDoor
namespace Go.Proofs.YtbioecifiogffabGreatDoor
open Go.RowKit
theorem wp_scope_once {P : Program} {a : Act} {w : World} {Q : Exit → Act → World → Prop} {c tail : Code} (l : Nat) (J : Act → World → Prop) (hf : findLabel c l = some (.seq .skip tail))
 (pass : ∀ a w, J a w → tail.wp P (Exit.jump l (fun _ _ => False) Q) a w)
 (first : (∀ a w, J a w → tail.wp P (Exit.jump l J Q) a w) → c.wp P (Exit.jump l J Q) a w) : (Code.scope c).wp P Q a w := by
 have hm : ∀ (J' : Act → World → Prop) a w, J a w → tail.wp P (Exit.jump l J' Q) a w := fun J' a w h => wp_mono (pass a w h) (by
   intro e a' w' hq
   cases e with
   | goto l' => exact hq.2.elim
   | normal => exact hq
   | exit id => exact hq
   | ret => exact hq
   | panic ch => exact hq
   | outgrown => exact hq)
 exact wp_scope_jumps l J (fun _ _ => 0) hf (first (hm J)) (fun a w h => wp_seq (wp_skip (hm _ a w h)))
theorem BIs.low {w : World} {b g : Nat} {bs : List Value} (h : BIs w b g bs) : ∃ g', BIs w b g' bs ∧ g' < w.heap.size ∧ (g' = g ∨ g' = b) := by
 have hlt := h.lt
 obtain ⟨p, v, hb, hp, hr⟩ := h
 rcases hr.1.2 with ⟨h0, h1⟩ | ⟨g', cap, cur, hv, hbg, hgg, rest⟩
 ·exact ⟨b, ⟨p, v, hb, hp, hr.1, fun k hk => by rw [h0] at hk; cases hk⟩, hlt, .inr rfl⟩
 ·have e1 : g' = g := hr.2 g' (by rw [hv]; rfl)
  subst e1
  exact ⟨g', ⟨p, v, hb, hp, hr⟩, (Array.getElem?_eq_some_iff.1 hgg).1, .inl rfl⟩
theorem Keeps.after {D : Nat → Prop} {a b c : World} (h : Fresh a b) (hk : Keeps D b c) : Keeps D a c := (h.mono (fun _ _ h => h.elim) : Keeps D a b).tr hk
theorem mvx_of {D o o' : Nat → Prop} {a b c : World} (h : Keeps D a b) (m : Mv o o' b c) : MvX D o o' a c :=
 ⟨(h.mono (fun _ _ h => .inr h)).tr (m.1.mono (fun _ _ h => .inl h)), fun j hj => by
   rcases m.2 j hj with h1 | h1
   ·exact .inl h1
   ·exact .inr (Nat.le_trans h.size h1)⟩
section
variable {k : Nat} {caps : Array Value} {R : List EvL} {F : World → List EvL → (Nat → Prop) → Prop}
theorem code1_any (E : EmitOK k caps R F) (C d B2 B5 gb : Nat) (s : List UInt8) (w : World) (L : List EvL) (o : Nat → Prop) (h : Fnd w C (fnV k caps) d) (hF : F w L o) (hR : ∃ rest, L ++ txE s false ++ rest = R)
 (h2 : w.heap[B2]? = some (.cells #[.pointer (some ⟨C, 0, none⟩)] 163 (0, 0))) (h5 : BIs w B5 gb (Lib.byteCells s)) (ng : ¬ o gb) (nC : gb ≠ C) (n2 : gb ≠ B2) :
 Calls Tryz.prog 117 #[.pointer (some ⟨B2, 0, none⟩), .pointer (some ⟨B5, 0, none⟩)] w (DoOK F (fun j => j = gb) (fun _ _ => True) L (txE s false) w o) := by
 have c2 : w.cell? ⟨B2, 0, none⟩ = some (.pointer (some ⟨C, 0, none⟩)) := by rw [Lib.cell_of_heap h2]; rfl
 have hst := fun (W : World) (hW : Fresh w W) => Builder_String B5 gb s W (h5.kept hW (fun h => h) (fun _ h => h))
 have htx := fun (W : World) (hW : Keeps (fun j => j = gb) w W) => text_any E C d ⟨s.toArray⟩ false W L o (hW.heap_some h (fun e => nC e.symm)) (E.keep hF hW (fun b hb => by rw [hb]; exact ng)) hR
 have c2k := fun (W : World) (hW : Keeps (fun j => j = gb) w W) => (hW.cell_some c2 (fun e => n2 e.symm) : W.cell? ⟨B2, 0, none⟩ = some (.pointer (some ⟨C, 0, none⟩)))
 have HST := Lib.hid hst
 have HTX := Lib.hid htx
 have HCK := Lib.hid c2k
 clear hst htx c2k h2 h5 hF hR h E
 go_enter Tryz.func117, Tryz.ntmps117
 refine wp_last (fun a wx => a.defers = [] ∧ ∃ o1, F wx (L ++ txE s false) o1 ∧ MvX (fun j => j = gb) o o1 w wx) ?_ ?_
 ·go_region_with (first
    | (go_at_call 46; refine (HST.out _ (by repeat (first | exact Keeps.refl _ _ | refine Keeps.drew ?_ | refine Keeps.drewN ?_ _))).mono ?_; rintro e w' ⟨rfl, hk1⟩; have hk2 : Keeps (fun j => j = gb) w w' := Keeps.after (by repeat (first | exact Keeps.refl _ _ | refine Keeps.drew ?_ | refine Keeps.drewN ?_ _)) hk1; have c2' := HCK.out _ hk2)
    | (go_at_call 89; refine (HTX.out _ (by first | assumption | exact Keeps.drew (by assumption) | exact Keeps.drewN (by assumption) _)).mono ?_; rintro e w3 ⟨rfl, o1, hF1, hm1⟩))
  all_goals exact ⟨rfl, o1, hF1, mvx_of (by first | assumption | exact Keeps.drew (by assumption) | exact Keeps.drewN (by assumption) _) hm1⟩
 ·rintro a' w' ⟨hd, o1, hF1, hm1⟩
  exact ⟨hd, .tuple #[], results_none rfl _ _ _, rfl, o1, hF1, hm1, trivial⟩
def ShutAt (w : World) (C : Nat) (vl : Value) (l : List Ln) (X : List UInt8) (Y : List Ln) (a : Act) (wx : World) : Prop :=
 ∃ (N gb : Nat) (x0 x3 x4 u7 u8 u9 u10 u11 u12 u13 u14 u15 u16 u17 u18 u19 u20 u21 u22 u23 u24 u25 u26 u27 u28 u29 u30 u31 u32 u33 u34 u35 u36 u37 u38 u39 u40 u41 u42 : Value), a = { tmps := #[x0, vl, .pointer (some ⟨w.heap.size, 0, none⟩), x3, x4, .pointer (some ⟨w.heap.size + 1, 0, none⟩), .int .i64 N, u7, u8, u9, u10, u11, u12, u13, u14, u15, u16, u17, u18, u19, u20, u21, u22, u23, u24, u25, u26, u27, u28, u29, u30, u31, u32, u33, u34, u35, u36, u37, u38, u39, u40, u41, u42], defers := [] } ∧
  1 ≤ N ∧ N ≤ l.length ∧ l.drop N = Y ∧ BIs wx (w.heap.size + 1) gb (Lib.byteCells X) ∧ w.heap.size + 1 ≤ gb ∧ Fresh w wx ∧ wx.heap[w.heap.size]? = some (.cells #[.pointer (some ⟨C, 0, none⟩)] 163 (0, 0))
theorem byteCells_len (l : List UInt8) : (Lib.byteCells l).length = l.length := by simp [Lib.byteCells]
theorem code_any (E : EmitOK k caps R F) (C d g : Nat) (v : Value) (s0 : Ln) (t : List Ln) (w : World) (L : List EvL) (o : Nat → Prop) (h : Fnd w C (fnV k caps) d) (hv : LnAt w g v (s0 :: t)) (hF : F w L o) (hC : ¬ o C) (hg : ¬ o g ∧ g ≠ C)
 (hL : tot (s0 :: t) ≤ 16777216) (hR : ∃ rest, L ++ leafE 5 0 (fnc t).1 false ++ rest = R) :
 Calls Tryz.prog 81 #[.pointer (some ⟨C, 0, none⟩), v] w (StepOK F g L (leafE 5 0 (fnc t).1 false) (fnc t).2 o w) := by
 obtain ⟨rest, hR⟩ := hR
 have hmf : ∀ (fn : Fn) (first cap : Array Value) (w : World), (Instr.makeFunc fn first cap).run Tryz.prog w = .ok (.func fn first cap) w := fun _ _ _ _ => rfl
 obtain ⟨cap, off, rfl, h1, h2, -⟩ := hv.line (j := 0) (s := s0) rfl
 have hft := fnc_tot t
 have htc := tot_cons s0 t
 have hlen := tot_len (s0 :: t)
 have h0 : ([] : List UInt8) ++ (fnc ((s0 :: t).drop 1)).1 = (fnc t).1 ∧ (fnc ((s0 :: t).drop 1)).2 = (fnc t).2 := ⟨rfl, rfl⟩
 obtain ⟨X, hX⟩ : ∃ X, (fnc t).1 = X := ⟨_, rfl⟩
 obtain ⟨Y, hY⟩ : ∃ Y, (fnc t).2 = Y := ⟨_, rfl⟩
 rw [hX, hY] at h0 hft
 have hXb : X.length ≤ 16777216 := by omega
 rw [hX] at hR ⊢
 rw [hY]
 obtain ⟨W, hW⟩ : ∃ W, (w.alloc (.cells #[.pointer (some ⟨C, 0, none⟩)] 163)).alloc (.cells #[.pointer none, .slice none 0 0] 128) = W := ⟨_, rfl⟩
 have hFW : Fresh w W := by rw [← hW]; exact ((Keeps.refl _ _).alloc _).alloc _
 have t2 : W.heap[w.heap.size]? = some (.cells #[.pointer (some ⟨C, 0, none⟩)] 163 (0, 0)) := by
  rw [← hW, Below.heap_alloc _ _ _ (by simp)]
  exact heap_alloc_new w _
 have t5 : BIs W (w.heap.size + 1) (w.heap.size + 1) (Lib.byteCells []) := by
  rw [← hW]
  have := BIs.fresh (w.alloc (.cells #[.pointer (some ⟨C, 0, none⟩)] 163)) (w.heap.size + 1)
  rw [show (w.alloc (.cells #[.pointer (some ⟨C, 0, none⟩)] 163)).heap.size = w.heap.size + 1 by simp] at this
  exact this
 have hlt := E.lt hF
 have hCw : C < w.heap.size := World.block_lt_of_cell? w ⟨C, 0, none⟩ h.cells.1
 have H0 := Lib.hid h0
 have HV := Lib.hid hv
 have HF := Lib.hid hF
 have HE := Lib.hid E
 have HR := Lib.hid hR
 have HLT := Lib.hid hlt
 have H := Lib.hid h
 have HFW := Lib.hid hFW
 have HT2 := Lib.hid t2
 have HT5 := Lib.hid t5
 clear h0 hv hF E hR hlt h hX hY hFW t2 t5 htc
 generalize hl : s0 :: t = l at *
 have hl1 : 1 ≤ l.length := by rw [← hl]; simp
 clear hl
 go_enter Tryz.func81, Tryz.ntmps81
 go_wp2
 refine wp_scope_once 0 (ShutAt w C (.slice (some ⟨g, off, none⟩) l.length cap) l X Y) rfl ?_ ?_
 ·clear hW
  rintro a2 wx ⟨N, gb0, x0, x3, x4, u7, u8, u9, u10, u11, u12, u13, u14, u15, u16, u17, u18, u19, u20, u21, u22, u23, u24, u25, u26, u27, u28, u29, u30, u31, u32, u33, u34, u35, u36, u37, u38, u39, u40, u41, u42, rfl, hN1, hN, hNY, hB, hgb, hFx, t2⟩
  obtain ⟨gb, hB, hgl, hgc⟩ := hB.low
  have hgb1 : w.heap.size + 1 ≤ gb := by omega
  have c2 : wx.cell? ⟨w.heap.size, 0, none⟩ = some (.pointer (some ⟨C, 0, none⟩)) := by rw [Lib.cell_of_heap t2]; rfl
  have n2 : ¬ o w.heap.size := fun h => by have := HLT.out _ h; omega
  have ngb : ¬ o gb := fun h => by have := HLT.out _ h; omega
  have hfd := H.out.fresh hFx
  have n5 : ¬ o (w.heap.size + 1) := fun h => by have := HLT.out _ h; omega
  have hdo : ∀ (w1 : World) (o1 : Nat → Prop), F w1 (L ++ [((⟨5, false, 0, []⟩, false) : EvL)]) o1 → Mv o o1 wx w1 → Calls Tryz.prog 117 #[.pointer (some ⟨w.heap.size, 0, none⟩), .pointer (some ⟨w.heap.size + 1, 0, none⟩)] w1 (DoOK F (fun j => j = gb) (fun _ _ => True) (L ++ [((⟨5, false, 0, []⟩, false) : EvL)]) (txE X false) w1 o1) := fun w1 o1 hF1 hm1 =>
   code1_any HE.out C d w.heap.size (w.heap.size + 1) gb X w1 _ o1 (hm1.heap hfd hC) hF1 ⟨_, by rw [← HR.out]; unfold leafE; simp only [List.append_assoc, List.cons_append, List.nil_append]; rfl⟩ (hm1.heap t2 n2) (hB.kept hm1.1 n5 (fun _ => ngb)) (hm1.not hgl ngb) (by omega) (by omega)
  have hwi := within_any HE.out (fun j => j = gb) (fun _ _ => True) C d ⟨5, false, 0, []⟩ 117 #[.pointer (some ⟨w.heap.size, 0, none⟩), .pointer (some ⟨w.heap.size + 1, 0, none⟩)] (txE X false) wx L o hfd (HE.out.fresh HF.out hFx) hC (fun j h => ⟨by omega, by omega⟩) ⟨rest, by rw [← HR.out]; simp [leafE]⟩ (enters_of Tryz.func117 (by kernel_rfl) rfl) hdo
  unfold evV fnV at hwi
  have hvx := HV.out.fresh hFx
  have HWI := Lib.hid hwi
  have HVX := Lib.hid hvx
  have HFX := Lib.hid hFx
  have HNY := Lib.hid hNY
  clear hwi hdo t2 hfd hvx hFx hNY hB hgc
  have hN2 : (N : Int) ≤ (l.length : Int) := by omega
  go_wp2_with fail
  refine HWI.out.mono ?_
  rintro e w4 ⟨rfl, _, _, o', -, -, hF4, hm4⟩
  have hm5 : Mv o o' w w4 := by
   refine ⟨(HFX.out.mono (fun _ _ h => h.elim) : Keeps o w wx).trans hm4.1 (fun j hj hd => hd.resolve_right (fun h => by omega)), fun j hj => ?_⟩
   ·rcases hm4.2 j hj with h1 | h1
    ·exact .inl h1
    ·exact .inr (Nat.le_trans HFX.out.size h1)
  have hv4 : LnAt w4 g _ l := HVX.out.keeps hm4.1 (fun hne => by
    have := HV.out.lt hne
    rintro (h | h)
    ·exact hg.1 h
    ·omega)
  have hv5 := hv4.cutv N hN (m := l.length - N) rfl
  rw [HNY.out] at hv5
  have HM5 := Lib.hid hm5
  clear hm4 hv4 hm5
  by_cases hcap : cap = N
  ·subst hcap
   rw [if_pos rfl, Nat.sub_self, show l.length - cap = 0 by omega] at hv5
   have HV5 := Lib.hid hv5
   clear hv5
   go_wp2
   simp only [Exit.jump]
   go_ret
   exact ⟨_, o', rfl, HV5.out, hF4, HM5.out⟩
  ·rw [if_neg hcap] at hv5
   have HV5 := Lib.hid hv5
   clear hv5
   go_wp2
   simp only [Exit.jump]
   go_ret
   exact ⟨_, o', rfl, HV5.out, hF4, HM5.out⟩
 ·intro hT
  have HT := Lib.hid hT
  clear hT
  go_wp2
  clear hW
  go_loopw [6] (fun n wr => ∃ (j gb : Nat) (acc : List UInt8), n = .int .i64 j ∧ 1 ≤ j ∧ j ≤ l.length ∧ BIs wr (w.heap.size + 1) gb (Lib.byteCells acc) ∧ w.heap.size + 1 ≤ gb ∧ Fresh w wr ∧ wr.heap[w.heap.size]? = some (.cells #[.pointer (some ⟨C, 0, none⟩)] 163 (0, 0)) ∧ acc ++ (fnc (l.drop j)).1 = X ∧ (fnc (l.drop j)).2 = Y) (fun n _ => l.length - (intOf n).toNat)
  case atStart => exact ⟨1, _, [], rfl, Nat.le_refl _, hl1, HT5.out, Nat.le_refl _, HFW.out, HT2.out, H0.out.1, H0.out.2⟩
  case round =>
   obtain ⟨j, gb, acc, rfl, hj1, hj, hB, hgb, hFr, t2, hx, hy⟩ := hrel
   by_cases hlt : j < l.length
   ·obtain ⟨s, hs, hd⟩ := line_at hlt
    obtain ⟨cap', off', he, -, -, hcell⟩ := (HV.out.fresh hFr).line hs
    cases he
    obtain ⟨S, hS, hSl, hSs⟩ := mk_of s
    rw [hS] at hcell
    have hst : s.length ≤ 16777216 := by have := tot_drop l j; rw [hd, tot_cons] at this; omega
    have hcp := fun W : World => Tryz.strings_CutPrefix S ⟨#[96, 96, 96]⟩ W
    rw [hSl, show (⟨#[96, 96, 96]⟩ : ByteArray).data.toList = [96, 96, 96] from rfl, isFen_pre] at hcp
    rw [hd] at hx hy
    have hacc : acc.length + s.length + 1 ≤ X.length ∨ (isFen s && blank (s.drop 3)) = true := by
     cases hb : (isFen s && blank (s.drop 3)) with
     | true => exact .inr rfl
     | false =>
      left
      rw [← hx]
      unfold fnc
      rw [hb]
      simp
      omega
    unfold fnc at hx hy
    obtain ⟨A, hA, hAl, hAs⟩ := mk_of (Lib.trimPrefix s [96, 96, 96])
    rw [hA] at hcp
    have hAe : isFen s = true → A.data.toList = s.drop 3 := fun h => by
     rw [hAl]
     unfold Lib.trimPrefix
     rw [isFen_pre, h]
     rfl
    have hAsz : A.size ≤ s.length := by
     rw [hAs]
     unfold Lib.trimPrefix
     split <;> simp
    have hem := fun W : World => empty_any A W (by omega)
    have HCP := Lib.hid hcp
    have HEM := Lib.hid hem
    have HFR := Lib.hid hFr
    have HT2 := Lib.hid t2
    have HB := Lib.hid hB
    have HSL := Lib.hid hSl
    have HSS := Lib.hid hSs
    clear hcp hem hFr t2 hB hA hAl hAs hS hs hd
    by_cases hend : (isFen s && blank (s.drop 3)) = true
    ·rw [if_pos hend] at hx hy
     obtain ⟨hf, hbk⟩ := Bool.and_eq_true_iff.1 hend
     rw [hAe hf, hbk] at HEM
     rw [hf] at HCP
     have HX := Lib.hid hx
     have HY := Lib.hid hy
     clear hx hy hend hf hbk hAe hacc hSs hSl
     go_wp2_with fail
     refine (HCP.out _).mono ?_
     rintro e w5 ⟨rfl, rfl⟩
     go_wp2_with fail
     refine (HEM.out _).mono ?_
     rintro e w6 ⟨rfl, hk6⟩
     have HK6 := Lib.hid hk6
     clear hk6
     go_wp2
     go_step3
     refine ⟨rfl, j + 1, gb, _, _, _, _, _, _, _, _, _, _, _, _, _, _, _, _, _, _, _, _, _, _, _, _, _, _, _, _, _, _, _, _, _, _, _, _, _, _, _, rfl, by omega, by omega, HY.out, ?_, hgb, HFR.out.tr HK6.out, HK6.out.heap_some HT2.out (fun h => h)⟩
     have := HX.out
     rw [List.append_nil] at this
     rw [← this]
     exact HB.out.kept HK6.out (fun h => h) (fun _ h => h)
    ·rw [if_neg hend] at hx hy
     have hwi := Builder_WriteString (w.heap.size + 1) gb (Lib.byteCells acc) S
     have hacc2 : acc.length + s.length + 1 ≤ X.length := hacc.resolve_right hend
     have hx2 : (acc ++ s ++ [10]) ++ (fnc (l.drop (j + 1))).1 = X := by rw [← hx]; simp
     have HX := Lib.hid hx2
     have HY := Lib.hid hy
     have HWI := Lib.hid hwi
     clear hx hx2 hy hacc hwi
     have hacl : acc.length + S.size + 1 ≤ 33554432 := by have := HSS.out; omega
     cases hf : isFen s with
     | true =>
      rw [hf, Bool.true_and] at hend
      have hbk : blank (s.drop 3) = false := by simpa using hend
      rw [hAe hf, hbk] at HEM
      rw [hf] at HCP
      clear hend hf hbk hAe hSs hSl hAsz hst
      go_wp2_with fail
      refine (HCP.out _).mono ?_
      rintro e w5 ⟨rfl, rfl⟩
      go_wp2_with fail
      refine (HEM.out _).mono ?_
      rintro e w6 ⟨rfl, hk6⟩
      have hcell6 := hk6.cell_some hcell (fun h => h)
      have HK6 := Lib.hid hk6
      have hB6 := HB.out.kept hk6 (fun h => h) (fun _ h => h)
      have hwi := HWI.out w6 hB6 (by rw [byteCells_len]; omega)
      have HWI6 := Lib.hid hwi
      clear hk6 hB6 hwi hcell
      go_wp2_with fail
      refine HWI6.out.mono ?_
      rintro e w7 ⟨rfl, gb7, hB7, hg7, hk7⟩
      have hs6 := HK6.out.size
      have hs7 := hk7.size
      have hsr := HFR.out.size
      have hsr2 := HB.out.lt
      have hB7' : BIs w7 (w.heap.size + 1) gb7 (Lib.byteCells (acc ++ s)) := by
       have e1 : Lib.byteCells (acc ++ s) = Lib.byteCells acc ++ Lib.strCells S := by rw [Lib.byteCells_append, ← HSL.out]; rfl
       rw [e1]
       exact hB7
      have hF7 : Fresh w w7 := (HFR.out.tr HK6.out).trans hk7 (fun j hj hd => by omega)
      have ht7 := hk7.heap_some (HK6.out.heap_some HT2.out (fun h => h)) (fun hd => by omega)
      have hwb := Builder_WriteByte (w.heap.size + 1) gb7 _ 10 w7 hB7' (by rw [byteCells_len, List.length_append]; have := HSS.out; omega)
      have HWB := Lib.hid hwb
      have HF7 := Lib.hid hF7
      have HT7 := Lib.hid ht7
      clear hB7 hk7 hB7' hF7 ht7 hwb hcell6
      go_wp2_with fail
      refine HWB.out.mono ?_
      rintro e w8 ⟨rfl, gb8, hB8, hg8, hk8⟩
      have hs7' := HF7.out.size
      have hB8' : BIs w8 (w.heap.size + 1) gb8 (Lib.byteCells (acc ++ s ++ [10])) := by rw [Lib.byteCells_append]; exact hB8
      have hF8 : Fresh w w8 := HF7.out.trans hk8 (fun j hj hd => by omega)
      have ht8 := hk8.heap_some HT7.out (fun hd => by omega)
      have HB8 := Lib.hid hB8'
      have HF8 := Lib.hid hF8
      have HT8 := Lib.hid ht8
      have hg9 : w.heap.size + 1 ≤ gb8 := by omega
      clear hB8 hk8 hB8' hF8 ht8
      go_wp2
      go_roundw
      case rel => exact ⟨j + 1, gb8, _, by go_num, by omega, by omega, HB8.out, hg9, HF8.out, HT8.out, HX.out, HY.out⟩
      case measure => simp [intOf]; omega
     | false =>
      rw [hf] at HCP
      clear hend hf hAe hSs hSl hAsz hst
      go_wp2_with fail
      refine (HCP.out _).mono ?_
      rintro e w5 ⟨rfl, rfl⟩
      have hwi := HWI.out w5 HB.out (by rw [byteCells_len]; omega)
      have HWI6 := Lib.hid hwi
      clear hwi
      go_wp2_with fail
      refine HWI6.out.mono ?_
      rintro e w7 ⟨rfl, gb7, hB7, hg7, hk7⟩
      have hs7 := hk7.size
      have hsr := HFR.out.size
      have hsr2 := HB.out.lt
      have hB7' : BIs w7 (w.heap.size + 1) gb7 (Lib.byteCells (acc ++ s)) := by
       have e1 : Lib.byteCells (acc ++ s) = Lib.byteCells acc ++ Lib.strCells S := by rw [Lib.byteCells_append, ← HSL.out]; rfl
       rw [e1]
       exact hB7
      have hF7 : Fresh w w7 := HFR.out.trans hk7 (fun j hj hd => by omega)
      have ht7 := hk7.heap_some HT2.out (fun hd => by omega)
      have hwb := Builder_WriteByte (w.heap.size + 1) gb7 _ 10 w7 hB7' (by rw [byteCells_len, List.length_append]; have := HSS.out; omega)
      have HWB := Lib.hid hwb
      have HF7 := Lib.hid hF7
      have HT7 := Lib.hid ht7
      clear hB7 hk7 hB7' hF7 ht7 hwb hcell
      go_wp2_with fail
      refine HWB.out.mono ?_
      rintro e w8 ⟨rfl, gb8, hB8, hg8, hk8⟩
      have hs7' := HF7.out.size
      have hB8' : BIs w8 (w.heap.size + 1) gb8 (Lib.byteCells (acc ++ s ++ [10])) := by rw [Lib.byteCells_append]; exact hB8
      have hF8 : Fresh w w8 := HF7.out.trans hk8 (fun j hj hd => by omega)
      have ht8 := hk8.heap_some HT7.out (fun hd => by omega)
      have HB8 := Lib.hid hB8'
      have HF8 := Lib.hid hF8
      have HT8 := Lib.hid ht8
      have hg9 : w.heap.size + 1 ≤ gb8 := by omega
      clear hB8 hk8 hB8' hF8 ht8
      go_wp2
      go_roundw
      case rel => exact ⟨j + 1, gb8, _, by go_num, by omega, by omega, HB8.out, hg9, HF8.out, HT8.out, HX.out, HY.out⟩
      case measure => simp [intOf]; omega
   ·have hje : j = l.length := by omega
    rw [hje, List.drop_length] at hx hy
    have hx2 : acc = X := by simpa [fnc] using hx
    have hy2 : ([] : List Ln) = Y := hy
    have HX := Lib.hid hx2
    have HY := Lib.hid hy2
    have HB := Lib.hid hB
    have HFR := Lib.hid hFr
    have HT2 := Lib.hid t2
    clear hx hy hx2 hy2 hB hFr t2
    go_wp2
    go_step3
    go_step
    go_step
    refine HT.out _ _ ⟨j, gb, _, _, _, _, _, _, _, _, _, _, _, _, _, _, _, _, _, _, _, _, _, _, _, _, _, _, _, _, _, _, _, _, _, _, _, _, _, _, _, rfl, hj1, hj, by rw [← HY.out, hje, List.drop_length], by rw [← HX.out]; exact HB.out, hgb, HFR.out, HT2.out⟩
end
end Go.Proofs.YtbioecifiogffabGreatDoor
namespace Go.Proofs.YtbioecifiogffabGreatDoor
open Go.RowKit
section
variable {k : Nat} {caps : Array Value} {R : List EvL} {F : World → List EvL → (Nat → Prop) → Prop}
def ParS (W : World) (B2 B5 C g off : Nat) (lv : Value) (S : ByteArray) (w : World) : Prop :=
 Fresh W w ∧ w.cell? ⟨B5, 0, none⟩ = some lv ∧ w.cell? ⟨B2, 0, none⟩ = some (.pointer (some ⟨C, 0, none⟩)) ∧ w.cell? ⟨g, off, none⟩ = some (.string S)
theorem ParS.next {W w w' : World} {B2 B5 C g off : Nat} {lv : Value} {S : ByteArray} (h : ParS W B2 B5 C g off lv S w) (hk : Fresh w w') : ParS W B2 B5 C g off lv S w' :=
 ⟨h.1.tr hk, hk.cell_some h.2.1 (fun h => h), hk.cell_some h.2.2.1 (fun h => h), hk.cell_some h.2.2.2 (fun h => h)⟩
def ParL (d : Nat) (s0 : Ln) (LL : List Ln) (Z : List Ln) (cur acc : List Ln) : Prop :=
 (acc = [] ∧ ∃ t, cur = s0 :: t ∧ trm s0 :: (prg d t).1 = LL ∧ (prg d t).2 = Z) ∨ (acc ≠ [] ∧ acc ++ (prg d cur).1 = LL ∧ (prg d cur).2 = Z)
theorem sta_cases (s : Ln) (d : Nat) : sta s d = 0 ∨ sta s d = 2 ∨ sta s d = 3 ∨ sta s d = 4 ∨ sta s d = 5 := by unfold sta; (repeat' split) <;> simp
theorem ParL.step {d kk : Nat} {s0 s : Ln} {LL Z t acc : List Ln} {B : Bool} (h : ParL d s0 LL Z (s :: t) acc) (hb0 : blank s0 = false) (hk : sta s d = kk)
 (hB : B = (!blank s && (decide (acc.length = 0) || decide (kk ≠ 2 ∧ kk ≠ 3 ∧ kk ≠ 4 ∧ kk ≠ 5)))) : (B = true → ParL d s0 LL Z t (acc ++ [trm s])) ∧ (B = false → acc = LL ∧ s :: t = Z) := by
 rcases h with ⟨rfl, t', he, h1, h2⟩ | ⟨hne, h1, h2⟩
 ·injection he with e1 e2
  subst e1 e2
  rw [hb0] at hB
  refine ⟨fun _ => .inr ⟨by simp, by simpa using h1, h2⟩, fun h => ?_⟩
  rw [h] at hB
  simp at hB
 ·have hal : decide (acc.length = 0) = false := by
   rw [decide_eq_false_iff_not]
   intro h
   exact hne (List.eq_nil_of_length_eq_zero h)
  rw [hal, Bool.false_or] at hB
  have hc := sta_cases s d
  rw [hk] at hc
  by_cases hs : (blank s || decide (0 < sta s d)) = true
  ·have e : prg d (s :: t) = ([], s :: t) := by unfold prg; rw [if_pos hs]
   rw [e] at h1 h2
   refine ⟨fun h => ?_, fun _ => ⟨by simpa using h1, h2⟩⟩
   rw [h] at hB
   rcases Bool.or_eq_true_iff.1 hs with hs | hs
   ·rw [hs] at hB; cases hB
   ·rw [hk] at hs
    have h0 : 0 < kk := by simpa using hs
    have : decide (kk ≠ 2 ∧ kk ≠ 3 ∧ kk ≠ 4 ∧ kk ≠ 5) = false := by rw [decide_eq_false_iff_not]; omega
    rw [this, Bool.and_false] at hB
    cases hB
  ·have e : prg d (s :: t) = (trm s :: (prg d t).1, (prg d t).2) := by conv => lhs; unfold prg
                                                                       rw [if_neg hs]
   rw [e] at h1 h2
   refine ⟨fun _ => .inr ⟨by simp, by rw [← h1]; simp, h2⟩, fun h => ?_⟩
   rw [h] at hB
   have hs2 := Bool.eq_false_iff.2 hs
   rw [Bool.or_eq_false_iff] at hs2
   rw [hs2.1] at hB
   have h3 := hs2.2
   rw [hk, decide_eq_false_iff_not] at h3
   have : decide (kk ≠ 2 ∧ kk ≠ 3 ∧ kk ≠ 4 ∧ kk ≠ 5) = true := by rw [decide_eq_true_iff]; omega
   rw [this] at hB
   cases hB
def ParT (B5 g off : Nat) (lv : Value) (S : ByteArray) (w : World) : Prop := w.cell? ⟨B5, 0, none⟩ = some lv ∧ w.cell? ⟨g, off, none⟩ = some (.string S)
theorem ParT.kept {D : Nat → Prop} {w w' : World} {B5 g off : Nat} {lv : Value} {S : ByteArray} (h : ParT B5 g off lv S w) (hk : Keeps D w w') (h5 : ¬ D B5) (hg : ¬ D g) : ParT B5 g off lv S w' :=
 ⟨hk.cell_some h.1 h5, hk.cell_some h.2 hg⟩
theorem Fresh.drewl {w w' : World} (h : Fresh w.drew w') : Fresh w w' := ((Keeps.refl _ w).drew : Fresh w w.drew).tr h
theorem eqlFn (k : Nat) (w : World) : (binOp .eql 175 (whatV k) .nilFunc).run Tryz.prog w = .ok (.bool (decide (k ≠ 2 ∧ k ≠ 3 ∧ k ≠ 4 ∧ k ≠ 5))) w := by
 have h : ∀ f, (binOp .eql 175 (.func (.func f) #[] #[]) .nilFunc).run Tryz.prog w = .ok (.bool false) w := fun f => by kernel_rfl
 have h0 : (binOp .eql 175 .nilFunc .nilFunc).run Tryz.prog w = .ok (.bool true) w := by kernel_rfl
 unfold whatV
 by_cases k2 : k = 2
 ·rw [if_pos k2, h, decide_eq_false (by omega)]
 ·by_cases k3 : k = 3
  ·rw [if_neg k2, if_pos k3, h, decide_eq_false (by omega)]
  ·by_cases k4 : k = 4
   ·rw [if_neg k2, if_neg k3, if_pos k4, h, decide_eq_false (by omega)]
   ·by_cases k5 : k = 5
    ·rw [if_neg k2, if_neg k3, if_neg k4, if_pos k5, h, decide_eq_false (by omega)]
    ·rw [if_neg k2, if_neg k3, if_neg k4, if_neg k5, h0, decide_eq_true (by omega)]
theorem eqGFn (k n : Nat) (w : World) : (eqGuard .eql 175 (.tmp n) (.const .nilFunc) (whatV k) .nilFunc).run Tryz.prog w = .ok () w := by
 have h : ∀ f, (eqGuard .eql 175 (.tmp n) (.const .nilFunc) (.func (.func f) #[] #[]) .nilFunc).run Tryz.prog w = .ok () w := fun f => by kernel_rfl
 have h0 : (eqGuard .eql 175 (.tmp n) (.const .nilFunc) .nilFunc .nilFunc).run Tryz.prog w = .ok () w := by kernel_rfl
 unfold whatV
 by_cases k2 : k = 2
 ·rw [if_pos k2, h]
 ·by_cases k3 : k = 3
  ·rw [if_neg k2, if_pos k3, h]
  ·by_cases k4 : k = 4
   ·rw [if_neg k2, if_neg k3, if_pos k4, h]
   ·by_cases k5 : k = 5
    ·rw [if_neg k2, if_neg k3, if_neg k4, if_pos k5, h]
    ·rw [if_neg k2, if_neg k3, if_neg k4, if_neg k5, h0]
theorem joinN_lib : ∀ l : List Ln, joinN l = Lib.join l [10]
 | [] => rfl
 | [s] => by rw [Lib.join_one]; rfl
 | s :: x :: t => by
  have ih := joinN_lib (x :: t)
  rw [Lib.join_cons] at ih ⊢
  unfold joinN
  rw [ih]
  simp [Lib.joinTail]
theorem joinN_le (l : List Ln) : (joinN l).length ≤ tot l := by
 induction l with
 | nil => simp [joinN]
 | cons s t ih =>
  cases t with
  | nil => simp [joinN, tot]
  | cons x r =>
   rw [tot_cons]
   simp only [joinN, List.length_append, List.length_cons, List.length_nil]
   omega
theorem pJoin_any (g : Nat) (v : Value) (l : List Ln) (w : World) (h : LnAt w g v l) (hL : tot l ≤ 1073741824) :
 Calls Tryz.prog 90 #[v, .string ⟨#[10]⟩] w fun e w' => e = .returned (.string ⟨(joinN l).toArray⟩) ∧ Fresh w w' := by
 have hlen := tot_len l
 have hjl := joinN_le l
 cases l with
 | nil =>
  obtain ⟨a, cap, off, rfl, -, -, -⟩ := h
  exact (Tryz.strings_Join_none a cap ⟨#[10]⟩ w).mono fun _ _ ⟨h1, h2⟩ => ⟨h1, by rw [h2]; exact Keeps.refl _ _⟩
 | cons s t =>
  have hlt := h.lt (by simp)
  obtain ⟨a, cap, off, rfl, hc, hm, hcell⟩ := h
  obtain ⟨rfl, hcell2⟩ := hcell (by simp)
  have hj := Tryz.strings_Join g off cap ((s :: t).map fun x => ⟨x.toArray⟩) ⟨#[10]⟩ w (fun j x hx => by
    rw [List.getElem?_map, Option.map_eq_some_iff] at hx
    obtain ⟨y, hy, rfl⟩ := hx
    exact hcell2 j y hy) hlt (by rw [List.length_map]; omega) (by rw [List.length_map]; exact hc)
  have e1 : ((s :: t).map fun x => (⟨x.toArray⟩ : ByteArray)).map (·.data.toList) = s :: t := by rw [List.map_map]; exact (List.map_congr_left (fun _ _ => rfl)).trans (List.map_id _)
  rw [e1, show (⟨#[10]⟩ : ByteArray).data.toList = [10] from rfl, ← joinN_lib, List.length_map] at hj
  exact (hj (by omega)).mono fun _ _ ⟨h1, h2⟩ => ⟨h1, Fresh.of h2⟩
theorem par1_any (E : EmitOK k caps R F) (C d g B2 B5 : Nat) (v : Value) (l : List Ln) (w : World) (L : List EvL) (o : Nat → Prop) (h : Fnd w C (fnV k caps) d) (hF : F w L o) (hL : tot l ≤ 1073741824) (hR : ∃ rest, L ++ txE (joinN l) true ++ rest = R)
 (h2 : w.heap[B2]? = some (.cells #[.pointer (some ⟨C, 0, none⟩)] 163 (0, 0))) (h5 : w.heap[B5]? = some (.cells #[v] 167 (0, 0))) (hv : LnAt w g v l) :
 Calls Tryz.prog 88 #[.pointer (some ⟨B2, 0, none⟩), .pointer (some ⟨B5, 0, none⟩)] w (DoOK F (fun _ => False) (fun _ _ => True) L (txE (joinN l) true) w o) := by
 have c2 : w.cell? ⟨B2, 0, none⟩ = some (.pointer (some ⟨C, 0, none⟩)) := by rw [Lib.cell_of_heap h2]; rfl
 have c5 : w.cell? ⟨B5, 0, none⟩ = some v := by rw [Lib.cell_of_heap h5]; rfl
 have hjn := fun (W : World) (hW : Fresh w W) => pJoin_any g v l W (hv.fresh hW) hL
 have htx := fun (W : World) (hW : Fresh w W) => text_any E C d ⟨(joinN l).toArray⟩ true W L o (h.fresh hW) (E.fresh hF hW) hR
 simp only [show (⟨(joinN l).toArray⟩ : ByteArray).data.toList = joinN l from rfl] at htx
 have c2k := fun (W : World) (hW : Fresh w W) => (hW.cell_some c2 (fun h => h) : W.cell? ⟨B2, 0, none⟩ = some (.pointer (some ⟨C, 0, none⟩)))
 have HJN := Lib.hid hjn
 have HTX := Lib.hid htx
 have HCK := Lib.hid c2k
 clear hjn htx c2k h2 h5 hF hR h E hv
 go_enter Tryz.func88, Tryz.ntmps88
 refine wp_last (fun a wx => a.defers = [] ∧ ∃ o1, F wx (L ++ txE (joinN l) true) o1 ∧ MvX (fun _ => False) o o1 w wx) ?_ ?_
 ·go_region_with (first
    | (go_at_call 90; refine (HJN.out _ (by repeat (first | exact Keeps.refl _ _ | refine Keeps.drew ?_ | refine Keeps.drewN ?_ _))).mono ?_; rintro e w' ⟨rfl, hk1⟩; have hk2 : Fresh w w' := Keeps.after (by repeat (first | exact Keeps.refl _ _ | refine Keeps.drew ?_ | refine Keeps.drewN ?_ _)) hk1; have c2' := HCK.out _ hk2)
    | (go_at_call 89; refine (HTX.out _ (by first | assumption | exact Keeps.drew (by assumption) | exact Keeps.drewN (by assumption) _)).mono ?_; rintro e w3 ⟨rfl, o1, hF1, hm1⟩))
  all_goals exact ⟨rfl, o1, hF1, mvx_of (by first | assumption | exact Keeps.drew (by assumption) | exact Keeps.drewN (by assumption) _) hm1⟩
 ·rintro a' w' ⟨hd, o1, hF1, hm1⟩
  exact ⟨hd, .tuple #[], results_none rfl _ _ _, rfl, o1, hF1, hm1, trivial⟩
theorem par_any (E : EmitOK k caps R F) (C d g : Nat) (v : Value) (s0 : Ln) (t : List Ln) (w : World) (L : List EvL) (o : Nat → Prop) (h : Fnd w C (fnV k caps) d) (hv : LnAt w g v (s0 :: t)) (hF : F w L o) (hC : ¬ o C) (hg : ¬ o g ∧ g ≠ C)
 (hL : tot (s0 :: t) ≤ 16777216) (hd : d ≤ 3) (hb0 : blank s0 = false) (hR : ∃ rest, L ++ leafE 0 0 (joinN (trm s0 :: (prg d t).1)) true ++ rest = R) :
 Calls Tryz.prog 67 #[.pointer (some ⟨C, 0, none⟩), v] w (StepOK F g L (leafE 0 0 (joinN (trm s0 :: (prg d t).1)) true) (prg d t).2 o w) := by
 obtain ⟨rest, hR⟩ := hR
 have hmf : ∀ (fn : Fn) (first cap : Array Value) (w : World), (Instr.makeFunc fn first cap).run Tryz.prog w = .ok (.func fn first cap) w := fun _ _ _ _ => rfl
 have hpt := prg_tot d t
 obtain ⟨LL, hLL⟩ : ∃ LL, trm s0 :: (prg d t).1 = LL := ⟨_, rfl⟩
 obtain ⟨Z, hZ⟩ : ∃ Z, (prg d t).2 = Z := ⟨_, rfl⟩
 have hpl : ParL d s0 LL Z (s0 :: t) [] := .inl ⟨rfl, t, rfl, hLL, hZ⟩
 have hLt : tot LL ≤ tot (s0 :: t) := by rw [← hLL, tot_cons, tot_cons]; have := trm_len s0; omega
 rw [hLL] at hR ⊢
 rw [hZ]
 obtain ⟨W, hW⟩ : ∃ W, (w.alloc (.cells #[.pointer (some ⟨C, 0, none⟩)] 163)).alloc (.cells #[.slice none 0 0] 167) = W := ⟨_, rfl⟩
 have hFW : Fresh w W := by rw [← hW]; exact ((Keeps.refl _ _).alloc _).alloc _
 have hz : w.heap.size + 1 < W.heap.size := by rw [← hW]; simp
 have t2 : W.heap[w.heap.size]? = some (.cells #[.pointer (some ⟨C, 0, none⟩)] 163 (0, 0)) := by
  rw [← hW, Below.heap_alloc _ _ _ (by simp)]
  exact heap_alloc_new w _
 have t5 : W.heap[w.heap.size + 1]? = some (.cells #[.slice none 0 0] 167 (0, 0)) := by
  rw [← hW]
  have := heap_alloc_new (w.alloc (.cells #[.pointer (some ⟨C, 0, none⟩)] 163)) (.cells #[.slice none 0 0] 167)
  simpa using this
 have hlt := E.lt hF
 have hCw : C < w.heap.size := World.block_lt_of_cell? w ⟨C, 0, none⟩ h.cells.1
 have hgw : g < w.heap.size := hv.lt (by simp)
 obtain ⟨a0, cap0, hvf⟩ := hv.form
 generalize hl : s0 :: t = l at *
 have HI := Lib.hid Tryz.infoStr
 have HV := Lib.hid hv
 have HF := Lib.hid hF
 have HE := Lib.hid E
 have HR := Lib.hid hR
 have HLT := Lib.hid hlt
 have H := Lib.hid h
 have HG := Lib.hid hg
 have HPL := Lib.hid hpl
 have HFW := Lib.hid hFW
 have HT2 := Lib.hid t2
 have HT5 := Lib.hid t5
 have HB0 := Lib.hid hb0
 have HVF := Lib.hid hvf
 clear hv hF E hR hlt h hLL hZ hg hpl hFW t2 t5 hpt hl hb0 hvf
 go_enter Tryz.func67, Tryz.ntmps67
 go_upto_block 0 with fail
 clear hW
 go_cut [1] (fun v wr => ∃ lv, LnAt wr g v Z ∧ wr.heap[w.heap.size + 1]? = some (.cells #[lv] 167 (0, 0)) ∧ Lns wr lv LL ∧ (∀ b, lv.ownBlock = some b → w.heap.size ≤ b) ∧ Fresh w wr ∧ wr.heap[w.heap.size]? = some (.cells #[.pointer (some ⟨C, 0, none⟩)] 163 (0, 0)))
 case first =>
  go_wp2_with fail
  go_loopw [1] (fun v wr => ∃ (cur acc : List Ln) (lv : Value), LnAt wr g v cur ∧ tot cur ≤ tot l ∧ ParL d s0 LL Z cur acc ∧ wr.heap[w.heap.size + 1]? = some (.cells #[lv] 167 (0, 0)) ∧ Lns wr lv acc ∧ (∀ b, lv.ownBlock = some b → w.heap.size ≤ b) ∧ Fresh w wr ∧ wr.heap[w.heap.size]? = some (.cells #[.pointer (some ⟨C, 0, none⟩)] 163 (0, 0))) (fun v _ => slen v)
  case atStart => exact ⟨l, [], _, HV.out.fresh HFW.out, Nat.le_refl _, HPL.out, HT5.out, Lns.nil _, (fun b h => by cases h), HFW.out, HT2.out⟩
  case round =>
   obtain ⟨cur, acc, lv, hv, hct, hp, t5, hi, ho, hFr, t2⟩ := hrel
   obtain ⟨wo, rfl⟩ : ∃ wo : World, wo = wr := ⟨_, rfl⟩
   obtain ⟨q5, c5, rfl, -, -, -⟩ := own_form hi
   have c5b : wo.cell? ⟨w.heap.size + 1, 0, none⟩ = some (.slice q5 acc.length c5) := by rw [Lib.cell_of_heap t5]; rfl
   have c2 : wo.cell? ⟨w.heap.size, 0, none⟩ = some (.pointer (some ⟨C, 0, none⟩)) := by rw [Lib.cell_of_heap t2]; rfl
   cases cur with
   | nil =>
    obtain ⟨a, cap, rfl⟩ := hv.form
    rcases hp with ⟨-, t', h0, -⟩ | ⟨-, hx, hy⟩
    ·cases h0
    ·have hx2 : acc = LL := by simpa [prg] using hx
     have hy2 : ([] : List Ln) = Z := hy
     subst hx2 hy2
     have HVV := Lib.hid hv
     have HII := Lib.hid hi
     have HOO := Lib.hid ho
     have HFR := Lib.hid hFr
     have HT2 := Lib.hid t2
     have HT5 := Lib.hid t5
     clear hx hy hv hi ho hFr t2 t5
     go_wp2_with fail
     refine wp_region_K 22 (fun w' => Fresh wo w') (by kernel_rfl) ?_
     have hHeld : Fresh wo wo.drew := (Keeps.refl _ _).drew
     refine K_is [0, 1, 2, 3, 4, 5, 6, 7, 8, 9, 10, 11, 12, 13, 14, 15, 16, 17, 18, 19, 20, 21] ?_
     iterate 4 (refine K_yD (v := ?_) rfl rfl (by kernel_rfl) (fun _ _ _ h => h) (by rfl) ?_ (by assumption) ?_; rotate_left; (· intro _ hSw; (have hS0 := hSw); first | (go_simp; done) | (go_simp; with_reducible rfl)); try simp only [List.setIfInBounds_toArray, List.set_cons_zero, List.set_cons_succ])
     iterate 5 (refine K_nD rfl rfl (by kernel_rfl) (fun _ _ _ h => h) (by rfl) (by assumption) ?_; try simp only [List.setIfInBounds_toArray, List.set_cons_zero, List.set_cons_succ])
     iterate 2 (refine K_yD (v := ?_) rfl rfl (by kernel_rfl) (fun _ _ _ h => h) (by rfl) ?_ (by assumption) ?_; rotate_left; (· intro _ hSw; (have hS0 := hSw); first | (go_simp; done) | (go_simp; with_reducible rfl)); try simp only [List.setIfInBounds_toArray, List.set_cons_zero, List.set_cons_succ])
     iterate 11 (refine K_nD rfl rfl (by kernel_rfl) (fun _ _ _ h => h) (by rfl) (by assumption) ?_; try simp only [List.setIfInBounds_toArray, List.set_cons_zero, List.set_cons_succ])
     refine K_no ?_
     refine K_last (by kernel_rfl) rfl (fun K hK => ?_)
     go_simp
     refine hK.out _ _ ?_
     clear hK K
     try simp only [Act.put, List.setIfInBounds_toArray, List.set_cons_zero, List.set_cons_succ]
     refine K_done (by kernel_rfl) ?_ _
     go_wp2
     go_meet
     exact ⟨_, HVV.out.fresh ((Keeps.refl _ _).drew), HT5.out, own_kept HII.out ((Keeps.refl (fun _ => False) _).drew) (fun _ _ h => h), HOO.out, HFR.out.drew, HT2.out⟩
   | cons s t =>
    have htc : tot (s :: t) = s.length + 1 + tot t := tot_cons s t
    obtain ⟨cap, off, rfl, h1, h2, hcell⟩ := hv.line (j := 0) (s := s) rfl
    rw [Nat.add_zero] at hcell
    obtain ⟨S, hS, hSl, hSs⟩ := mk_of s
    rw [hS] at hcell
    have hem := fun W : World => empty_any S W (by omega)
    rw [hSl] at hem
    have hwh := fun (W : World) (hW : Fresh wo W) => what_any C d (fnV k caps) S W ((H.out.fresh hFr).fresh hW) (by omega) hd
    rw [hSl] at hwh
    have hps : ParS wo w.heap.size (w.heap.size + 1) C g off (.slice q5 acc.length c5) S wo := ⟨Keeps.refl _ _, c5b, c2, hcell⟩
    have hll : ((s :: t).length : Int) = (t.length : Int) + 1 := by simp
    have hl0 : (0 : Int) < (t.length : Int) + 1 := by omega
    have hal : acc.length ≤ LL.length ∧ (acc = [] ↔ acc.length = 0) := ⟨by
      rcases hp with ⟨h0, -⟩ | ⟨-, hx, -⟩
      ·rw [h0]; exact Nat.zero_le _
      ·rw [← hx]; simp, by simp⟩
    have hfq := fun W : World => eqlFn (sta s d) W
    obtain ⟨kk, hkk⟩ : ∃ kk, sta s d = kk := ⟨_, rfl⟩
    rw [hkk] at hwh hfq
    obtain ⟨B, hB⟩ : ∃ B : Bool, B = (!blank s && (decide (acc.length = 0) || decide (kk ≠ 2 ∧ kk ≠ 3 ∧ kk ≠ 4 ∧ kk ≠ 5))) := ⟨_, rfl⟩
    have HEM := Lib.hid hem
    have HWH := Lib.hid hwh
    have HFQ := Lib.hid hfq
    have HPS := Lib.hid hps
    have HVV := Lib.hid hv
    have HII := Lib.hid hi
    have HOO := Lib.hid ho
    have HFR := Lib.hid hFr
    have HT2 := Lib.hid t2
    have HT5 := Lib.hid t5
    have HKK := Lib.hid hkk
    have HB := Lib.hid hB
    have HP := Lib.hid hp
    have HSL := Lib.hid hSl
    have HSS := Lib.hid hSs
    have HAL := Lib.hid hal
    have HTC := Lib.hid htc
    clear hem hwh hps hv hi ho hFr t2 t5 hkk hB hp hSl hSs hS hal htc c5b c2 hcell hll hfq
    go_upto_region 2 with fail
    go_cut [28] (fun b wx => b = .bool B ∧ Fresh wo wx)
    case first =>
     cases hb : blank s with
     | true =>
      have hB := HB.out
      rw [hb] at hB HEM
      have hB0 : B = false := hB
      subst hB0
      clear hB hb
      refine wp_region_K 22 (ParS wo w.heap.size (w.heap.size + 1) C g off (.slice q5 acc.length c5) S) (by kernel_rfl) ?_
      have hHeld := HPS.out.next ((Keeps.refl (fun _ => False) wo).drew)
      refine K_is [0, 1, 2, 3, 4, 5, 6] ?_
      iterate 7 (refine K_yD (v := ?_) rfl rfl (by kernel_rfl) (fun _ _ _ h => h) (by rfl) ?_ (by assumption) ?_; rotate_left; (· intro _ hSw; (obtain ⟨hS0, hS1, hS2, hS3⟩ := hSw); first | (go_simp; done) | (go_simp; with_reducible rfl)); try simp only [List.setIfInBounds_toArray, List.set_cons_zero, List.set_cons_succ])
      refine K_no ?_
      refine K_one (i := 7) (by kernel_rfl) rfl (fun K hK => ?_)
      go_simp
      refine (HEM.out _).mono ?_
      rintro e w5 ⟨rfl, hk5⟩
      refine hK.out _ _ (hHeld.next hk5) (fun hHeld2 => ?_)
      clear hK K hHeld
      try simp only [Act.put, List.setIfInBounds_toArray, List.set_cons_zero, List.set_cons_succ]
      have HK5 := Lib.hid (Fresh.drewl hk5)
      clear hk5
      refine K_is [8, 9, 10, 11, 12, 13, 14, 15, 16, 17, 18, 19, 20, 21] ?_
      iterate 3 (refine K_yD (v := ?_) rfl rfl (by kernel_rfl) (fun _ _ _ h => h) (by rfl) ?_ (by assumption) ?_; rotate_left; (· intro _ hSw; (obtain ⟨hS0, hS1, hS2, hS3⟩ := hSw); first | (go_simp; done) | (go_simp; with_reducible rfl)); try simp only [List.setIfInBounds_toArray, List.set_cons_zero, List.set_cons_succ])
      iterate 11 (refine K_nD rfl rfl (by kernel_rfl) (fun _ _ _ h => h) (by rfl) (by assumption) ?_; try simp only [List.setIfInBounds_toArray, List.set_cons_zero, List.set_cons_succ])
      refine K_no ?_
      refine K_last (by kernel_rfl) rfl (fun K hK => ?_)
      go_simp
      refine hK.out _ _ ?_
      clear hK K
      try simp only [Act.put, List.setIfInBounds_toArray, List.set_cons_zero, List.set_cons_succ]
      refine K_done (by kernel_rfl) ?_ _
      go_wp2_with fail
      go_meet
      exact ⟨rfl, HK5.out⟩
     | false =>
      have hB := HB.out
      rw [hb] at hB HEM
      by_cases ha : acc.length = 0
      ·have hB0 : B = true := by rw [hB, decide_eq_true ha]; rfl
       subst hB0
       have e0 : ((acc.length : Int) == 0) = true := by rw [ha]; rfl
       clear hB hb ha
       refine wp_region_K 22 (ParS wo w.heap.size (w.heap.size + 1) C g off (.slice q5 acc.length c5) S) (by kernel_rfl) ?_
       have hHeld := HPS.out.next ((Keeps.refl (fun _ => False) wo).drew)
       refine K_is [0, 1, 2, 3, 4, 5, 6] ?_
       iterate 7 (refine K_yD (v := ?_) rfl rfl (by kernel_rfl) (fun _ _ _ h => h) (by rfl) ?_ (by assumption) ?_; rotate_left; (· intro _ hSw; (obtain ⟨hS0, hS1, hS2, hS3⟩ := hSw); first | (go_simp; done) | (go_simp; with_reducible rfl)); try simp only [List.setIfInBounds_toArray, List.set_cons_zero, List.set_cons_succ])
       refine K_no ?_
       refine K_one (i := 7) (by kernel_rfl) rfl (fun K hK => ?_)
       go_simp
       refine (HEM.out _).mono ?_
       rintro e w5 ⟨rfl, hk5⟩
       refine hK.out _ _ (hHeld.next hk5) (fun hHeld2 => ?_)
       clear hK K hHeld
       try simp only [Act.put, List.setIfInBounds_toArray, List.set_cons_zero, List.set_cons_succ]
       have HK5 := Lib.hid (Fresh.drewl hk5)
       clear hk5
       refine K_is [8, 9, 10, 11, 12, 13, 14, 15, 16, 17, 18, 19, 20, 21] ?_
       iterate 7 (refine K_yD (v := ?_) rfl rfl (by kernel_rfl) (fun _ _ _ h => h) (by rfl) ?_ (by assumption) ?_; rotate_left; (· intro _ hSw; (obtain ⟨hS0, hS1, hS2, hS3⟩ := hSw); first | (go_simp; done) | (go_simp; with_reducible rfl)); try simp only [List.setIfInBounds_toArray, List.set_cons_zero, List.set_cons_succ])
       iterate 6 (refine K_nD rfl rfl (by kernel_rfl) (fun _ _ _ h => h) (by rfl) (by assumption) ?_; try simp only [List.setIfInBounds_toArray, List.set_cons_zero, List.set_cons_succ])
       iterate 1 (refine K_yD (v := ?_) rfl rfl (by kernel_rfl) (fun _ _ _ h => h) (by rfl) ?_ (by assumption) ?_; rotate_left; (· intro _ hSw; (obtain ⟨hS0, hS1, hS2, hS3⟩ := hSw); first | (go_simp; done) | (go_simp; with_reducible rfl)); try simp only [List.setIfInBounds_toArray, List.set_cons_zero, List.set_cons_succ])
       refine K_no ?_
       refine K_last (by kernel_rfl) rfl (fun K hK => ?_)
       go_simp
       refine hK.out _ _ ?_
       clear hK K
       try simp only [Act.put, List.setIfInBounds_toArray, List.set_cons_zero, List.set_cons_succ]
       refine K_done (by kernel_rfl) ?_ _
       go_wp2_with fail
       go_meet
       exact ⟨rfl, HK5.out⟩
      ·have hB0 : B = decide (kk ≠ 2 ∧ kk ≠ 3 ∧ kk ≠ 4 ∧ kk ≠ 5) := by rw [hB, decide_eq_false ha]; rfl
       have e0 : ((acc.length : Int) == 0) = false := by rw [beq_eq_false_iff_ne]; omega
       rw [← hB0] at HFQ
       clear hB hb ha hB0
       refine wp_region_K 22 (ParS wo w.heap.size (w.heap.size + 1) C g off (.slice q5 acc.length c5) S) (by kernel_rfl) ?_
       have hHeld := HPS.out.next ((Keeps.refl (fun _ => False) wo).drew)
       refine K_is [0, 1, 2, 3, 4, 5, 6] ?_
       iterate 7 (refine K_yD (v := ?_) rfl rfl (by kernel_rfl) (fun _ _ _ h => h) (by rfl) ?_ (by assumption) ?_; rotate_left; (· intro _ hSw; (obtain ⟨hS0, hS1, hS2, hS3⟩ := hSw); first | (go_simp; done) | (go_simp; with_reducible rfl)); try simp only [List.setIfInBounds_toArray, List.set_cons_zero, List.set_cons_succ])
       refine K_no ?_
       refine K_one (i := 7) (by kernel_rfl) rfl (fun K hK => ?_)
       go_simp
       refine (HEM.out _).mono ?_
       rintro e w5 ⟨rfl, hk5⟩
       refine hK.out _ _ (hHeld.next hk5) (fun hHeld2 => ?_)
       clear hK K hHeld
       try simp only [Act.put, List.setIfInBounds_toArray, List.set_cons_zero, List.set_cons_succ]
       have HK5 := Lib.hid (Fresh.drewl hk5)
       clear hk5
       refine K_is [8, 9, 10, 11, 12, 13, 14, 15, 16, 17, 18] ?_
       iterate 11 (refine K_yD (v := ?_) rfl rfl (by kernel_rfl) (fun _ _ _ h => h) (by rfl) ?_ (by assumption) ?_; rotate_left; (· intro _ hSw; (obtain ⟨hS0, hS1, hS2, hS3⟩ := hSw); first | (go_simp; done) | (go_simp; with_reducible rfl)); try simp only [List.setIfInBounds_toArray, List.set_cons_zero, List.set_cons_succ])
       refine K_no ?_
       refine K_one (i := 19) (by kernel_rfl) rfl (fun K hK => ?_)
       go_simp
       refine (HWH.out _ HK5.out).mono ?_
       rintro e w6 ⟨rfl, hk6⟩
       refine hK.out _ _ (hHeld2.next hk6) (fun hHeld3 => ?_)
       clear hK K hHeld2
       try simp only [Act.put, List.setIfInBounds_toArray, List.set_cons_zero, List.set_cons_succ]
       have HK6 := Lib.hid (HK5.out.tr hk6)
       have hfq := HFQ.out
       have hge := fun (n : Nat) (W : World) => eqGFn kk n W
       clear hk6
       refine K_is [20, 21] ?_
       iterate 2 (refine K_yD (v := ?_) rfl rfl (by kernel_rfl) (fun _ _ _ h => h) (by rfl) ?_ (by assumption) ?_; rotate_left; (· intro _ hSw; (obtain ⟨hS0, hS1, hS2, hS3⟩ := hSw); first | (go_simp; done) | (go_simp; with_reducible rfl)); try simp only [List.setIfInBounds_toArray, List.set_cons_zero, List.set_cons_succ])
       refine K_no ?_
       refine K_last (by kernel_rfl) rfl (fun K hK => ?_)
       go_simp
       refine hK.out _ _ ?_
       clear hK K
       try simp only [Act.put, List.setIfInBounds_toArray, List.set_cons_zero, List.set_cons_succ]
       refine K_done (by kernel_rfl) ?_ _
       go_wp2_with fail
       go_meet
       exact ⟨rfl, HK6.out⟩
    case rest =>
     obtain ⟨rfl, hFc⟩ := hcut
     have hst := HP.out.step HB0.out HKK.out HB.out
     cases B with
     | false =>
      obtain ⟨hx2, hy2⟩ := hst.2 rfl
      have HX := Lib.hid hx2
      have HY := Lib.hid hy2
      have HFC := Lib.hid hFc
      clear hst hx2 hy2 hFc
      go_wp2
      go_meet
      refine ⟨_, ?_, HFC.out.heap_some HT5.out (fun h => h), ?_, HOO.out, HFR.out.tr HFC.out, HFC.out.heap_some HT2.out (fun h => h)⟩
      ·rw [← HY.out]; exact HVV.out.fresh HFC.out
      ·rw [← HX.out]; exact HII.out.fresh HFC.out
     | true =>
      have hpn := hst.1 rfl
      obtain ⟨T, hT, hTl, hTs⟩ := mk_of (trm s)
      have hsz : S.size ≤ 16777216 := by have := HSS.out; have := HTC.out; omega
      have htr := fun W : World => pTrim_any S W (by omega)
      rw [HSL.out, hT] at htr
      have hps := HPS.out.next hFc
      have hheld : ParT (w.heap.size + 1) g off (.slice q5 acc.length c5) S wc.drew := ⟨hps.2.1, hps.2.2.2⟩
      have n5 : ¬ (Value.slice q5 acc.length c5).ownBlock = some (w.heap.size + 1) := own_ne HII.out HT5.out (by decide)
      have ng5 : ¬ (Value.slice q5 acc.length c5).ownBlock = some g := fun h => by have := HOO.out _ h; omega
      have hal2 : acc.length ≤ 16777216 := by have := HAL.out.1; have := tot_len LL; omega
      have hvc := (HVV.out.fresh hFc).cutv 1 (by simp) (m := t.length) (by simp)
      have t5c := hFc.heap_some HT5.out (fun h => h)
      have t2c := hFc.heap_some HT2.out (fun h => h)
      have hFwc := HFR.out.tr hFc
      have hic := HII.out.fresh hFc
      have HTR := Lib.hid htr
      have HHELD := Lib.hid hheld
      have HPN := Lib.hid hpn
      have HVC := Lib.hid hvc
      have HT5C := Lib.hid t5c
      have HT2C := Lib.hid t2c
      have HFWC := Lib.hid hFwc
      have HIC := Lib.hid hic
      have HTL := Lib.hid hTl
      have hll : ((s :: t).length : Int) = (t.length : Int) + 1 := by simp
      have hl0 : (0 : Int) < (t.length : Int) + 1 := by omega
      clear hst hpn hT hTl hTs htr hps hheld hvc t5c t2c hFwc hic hFc
      go_upto_region 3 with fail
      refine wp_region_K 7 (ParT (w.heap.size + 1) g off (.slice q5 acc.length c5) S) (by kernel_rfl) ?_
      have hHeld := HHELD.out
      refine K_is [0, 1, 2, 3] ?_
      iterate 4 (refine K_yD (v := ?_) rfl rfl (by kernel_rfl) (fun _ _ _ h => h) (by rfl) ?_ (by assumption) ?_; rotate_left; (· intro _ hSw; (obtain ⟨hS0, hS1⟩ := hSw); first | (go_simp; done) | (go_simp; with_reducible rfl)); try simp only [List.setIfInBounds_toArray, List.set_cons_zero, List.set_cons_succ])
      refine K_no ?_
      refine K_one (i := 4) (by kernel_rfl) rfl (fun K hK => ?_)
      go_simp
      refine (HTR.out _).mono ?_
      rintro e w5 ⟨rfl, hk5⟩
      refine hK.out _ _ (hHeld.kept hk5 (fun h => h) (fun h => h)) (fun hHeld2 => ?_)
      clear hK K hHeld
      try simp only [Act.put, List.setIfInBounds_toArray, List.set_cons_zero, List.set_cons_succ]
      refine K_one (i := 5) (by kernel_rfl) rfl (fun K hK => ?_)
      go_simp
      refine hK.out _ _ (hHeld2.kept ((Keeps.refl (fun _ => False) _).alloc _) (fun h => h) (fun h => h)) (fun hHeld3 => ?_)
      clear hK K hHeld2
      try simp only [Act.put, List.setIfInBounds_toArray, List.set_cons_zero, List.set_cons_succ]
      have hk6 := (Fresh.drewl hk5).alloc (.cells #[.string T] 9)
      have hr6 := own_kept HIC.out hk6 (fun _ _ h => h)
      have HK6 := Lib.hid hk6
      have HR6 := Lib.hid hr6
      clear hk5 hk6 hr6
      refine K_one (i := 6) (by kernel_rfl) rfl (fun K hK => ?_)
      refine step_append_mine _ (by rfl) _ _ 167 (by rfl) 9 _ 1 16 Tryz.underlying167 HI.out rfl (by decide) (.slice q5 acc.length c5) acc.length (lnCells acc) (by rfl) HR6.out (some ⟨w5.heap.size, 0, none⟩) 1 1 [.string T] (by rfl) rfl (fun h => (by cases h)) (ln_new w5 T 9) (str_one _) (by unfold maxLen; omega) (by omega) ?_
      intro pp cc w7 hrow hgr hkp
      refine hK.out _ _ (hHeld3.kept hkp n5 ng5) (fun hHeld4 => ?_)
      clear hK K hHeld3
      try simp only [Act.put, List.setIfInBounds_toArray, List.set_cons_zero, List.set_cons_succ]
      have t57 := hkp.heap_some (HK6.out.heap_some HT5C.out (fun h => h)) n5
      obtain ⟨ho7, hF7⟩ := own_grow (HFWC.out.tr HK6.out) HOO.out hgr hkp
      have hFF : Fresh w (w7.setCell ⟨w.heap.size + 1, 0, none⟩ (.slice pp (acc.length + 1) cc)) := hF7.trans (Keeps.setCell (D := fun j => j = w.heap.size + 1) (Keeps.refl _ w7) (p := ⟨w.heap.size + 1, 0, none⟩) (fun _ => rfl) _) (fun j h1 h2 => by omega)
      have n57 : ∀ b, (Value.slice pp (acc.length + 1) cc).ownBlock = some b → ¬ b = w.heap.size + 1 := fun b hb e => by rw [e] at hb; exact own_ne hrow t57 (by decide) hb
      have hrow2 := own_kept hrow (Keeps.setCell (D := fun j => j = w.heap.size + 1) (Keeps.refl _ w7) (p := ⟨w.heap.size + 1, 0, none⟩) (fun _ => rfl) (.slice pp (acc.length + 1) cc)) n57
      have t58 : (w7.setCell ⟨w.heap.size + 1, 0, none⟩ (.slice pp (acc.length + 1) cc)).heap[w.heap.size + 1]? = some (.cells #[.slice pp (acc.length + 1) cc] 167 (0, 0)) := by simp [World.setCell, Array.getElem?_modify, t57]
      have u0 : w7.cell? ⟨w.heap.size + 1, 0, none⟩ = some (.slice q5 acc.length c5) := hHeld4.1
      have u1 : w7.frozen? ⟨w.heap.size + 1, 0, none⟩ = false := Lib.frozen_of_heap t57 0
      have hk78 : Keeps (fun j => (Value.slice q5 acc.length c5).ownBlock = some j ∨ j = w.heap.size + 1) wc (w7.setCell ⟨w.heap.size + 1, 0, none⟩ (.slice pp (acc.length + 1) cc)) := by
       refine (HK6.out.mono (fun _ _ h => h.elim)).tr ((hkp.mono (fun _ _ h => .inl h)).setCell (p := ⟨w.heap.size + 1, 0, none⟩) (fun _ => .inr rfl) _)
      have t28 := hk78.heap_some HT2C.out (fun h => by
        rcases h with h | h
        ·exact own_ne HIC.out HT2C.out (by decide) h
        ·omega)
      have hv8 := HVC.out.keeps hk78 (fun _ h => by
        rcases h with h | h
        ·exact ng5 h
        ·omega)
      rw [← HTL.out] at HPN
      have HV8 := Lib.hid hv8
      have HT28 := Lib.hid t28
      have HT58 := Lib.hid t58
      have HROW := Lib.hid (Lns.snoc (s := T.data.toList) hrow2)
      have HFF := Lib.hid hFF
      have HO7 := Lib.hid ho7
      clear t57 ho7 hF7 hFF n57 hrow2 t58 hk78 t28 hv8 hrow hgr hkp hHeld4
      refine K_last (by kernel_rfl) rfl (fun K hK => ?_)
      go_simp
      refine hK.out _ _ ?_
      clear hK K
      try simp only [Act.put, List.setIfInBounds_toArray, List.set_cons_zero, List.set_cons_succ]
      refine K_done (by kernel_rfl) ?_ _
      go_wp2
      go_roundw
      case rel => exact ⟨t, acc ++ [T.data.toList], _, HV8.out, by have := HTC.out; omega, HPN.out, HT58.out, HROW.out, HO7.out, HFF.out, HT28.out⟩
      case measure => simp [slen]
 case rest =>
  obtain ⟨lv, hv, t5, hi, ho, hFr, t2⟩ := hcut
  obtain ⟨gv, hat, hgv⟩ := hi.atB
  have c2 : wc.cell? ⟨w.heap.size, 0, none⟩ = some (.pointer (some ⟨C, 0, none⟩)) := by rw [Lib.cell_of_heap t2]; rfl
  have n2 : ¬ o w.heap.size := fun h => by have := HLT.out _ h; omega
  have n5 : ¬ o (w.heap.size + 1) := fun h => by have := HLT.out _ h; omega
  have hfd := H.out.fresh hFr
  have hdo : ∀ (w1 : World) (o1 : Nat → Prop), F w1 (L ++ [((⟨0, false, 0, []⟩, false) : EvL)]) o1 → Mv o o1 wc w1 → Calls Tryz.prog 88 #[.pointer (some ⟨w.heap.size, 0, none⟩), .pointer (some ⟨w.heap.size + 1, 0, none⟩)] w1 (DoOK F (fun _ => False) (fun _ _ => True) (L ++ [((⟨0, false, 0, []⟩, false) : EvL)]) (txE (joinN LL) true) w1 o1) := fun w1 o1 hF1 hm1 =>
   par1_any HE.out C d gv w.heap.size (w.heap.size + 1) lv LL w1 _ o1 (hm1.heap hfd hC) hF1 (by omega) ⟨_, by rw [← HR.out]; unfold leafE; simp only [List.append_assoc, List.cons_append, List.nil_append]; rfl⟩ (hm1.heap t2 n2) (hm1.heap t5 n5) (hat.mv hm1 (fun hne h => by have := ho gv (hgv hne); have := HLT.out _ h; omega))
  have hwi := within_any HE.out (fun _ => False) (fun _ _ => True) C d ⟨0, false, 0, []⟩ 88 #[.pointer (some ⟨w.heap.size, 0, none⟩), .pointer (some ⟨w.heap.size + 1, 0, none⟩)] (txE (joinN LL) true) wc L o hfd (HE.out.fresh HF.out hFr) hC (fun _ h => h.elim) ⟨rest, by rw [← HR.out]; simp [leafE]⟩ (enters_of Tryz.func88 (by kernel_rfl) rfl) hdo
  unfold evV fnV at hwi
  have HWI := Lib.hid hwi
  have HV2 := Lib.hid hv
  have HFR := Lib.hid hFr
  obtain ⟨az, cz, rfl⟩ := hv.form
  clear hwi hdo hv t5 hi ho hFr t2 hat hgv hfd
  go_wp2_with fail
  refine HWI.out.mono ?_
  rintro e w4 ⟨rfl, _, _, o', -, -, hF4, hm4⟩
  have hm5 : Mv o o' w w4 := (Mv.fresh HFR.out).trans hm4.none
  have hv4 : LnAt w4 g _ Z := HV2.out.mv hm4.none (fun _ => HG.out.1)
  have HM5 := Lib.hid hm5
  have HV4 := Lib.hid hv4
  clear hm4 hm5 hv4
  go_wp2
  go_ret
  exact ⟨_, o', rfl, HV4.out, hF4, HM5.out⟩
end
end Go.Proofs.YtbioecifiogffabGreatDoor
namespace Go.Proofs.YtbioecifiogffabGreatDoor
open Go.RowKit
theorem box_put {w : World} {B : Nat} {v v' : Value} {t : TypeId} (h : w.heap[B]? = some (.cells #[v] t (0, 0))) : (w.setCell ⟨B, 0, none⟩ v').heap[B]? = some (.cells #[v'] t (0, 0)) := by
 simp [World.setCell, Array.getElem?_modify, h]
theorem box_keeps (w : World) (B : Nat) (v : Value) : Keeps (fun j => j = B) w (w.setCell ⟨B, 0, none⟩ v) := Keeps.setCell (D := fun j => j = B) (Keeps.refl _ w) (p := ⟨B, 0, none⟩) (fun _ => rfl) _
def boxLen (w : World) (B : Nat) : Nat := match w.cell? ⟨B, 0, none⟩ with | some v => slen v | none => 0
theorem boxLen_of {w : World} {B : Nat} {v : Value} {t : TypeId} (h : w.heap[B]? = some (.cells #[v] t (0, 0))) : boxLen w B = slen v := by
 unfold boxLen
 rw [Lib.cell_of_heap h]
 rfl
theorem lnCells_rep (n : Nat) : List.replicate n (Value.string ⟨#[]⟩) = lnCells (List.replicate n []) := by simp [lnCells]
theorem Lns.lit1 (w : World) (x : ByteArray) : Lns (w.alloc (.cells #[.string x] 9)) (.slice (some ⟨w.heap.size, 0, none⟩) 1 1) [x.data.toList] :=
 ⟨rfl, .inr ⟨w.heap.size, 1, #[.string x], rfl, Nat.zero_le _, heap_alloc_new w _, Nat.le_refl _, by decide, rfl, rfl⟩⟩
theorem zstr_cells : (Value.string ⟨#[]⟩).cells = #[.string ⟨#[]⟩] := rfl
section
variable {k : Nat} {caps : Array Value} {R : List EvL} {F : World → List EvL → (Nat → Prop) → Prop}
theorem Fnd.keeps {D : Nat → Prop} {w w' : World} {C d : Nat} {fv : Value} (h : Fnd w C fv d) (hk : Keeps D w w') (hn : ¬ D C) : Fnd w' C fv d := hk.heap_some h hn
theorem Fnd.mvx {X o o' : Nat → Prop} {w w' : World} {C d : Nat} {fv : Value} (h : Fnd w C fv d) (hm : MvX X o o' w w') (hn : ¬ o C) (hx : ¬ X C) : Fnd w' C fv d := hm.heap h hn hx
def LstQ (B3 g : Nat) (Z : List Ln) (w : World) (o : Nat → Prop) : Prop := ∃ v, w.heap[B3]? = some (.cells #[v] 167 (0, 0)) ∧ LnAt w g v Z ∧ ¬ o B3 ∧ ¬ o g
theorem list1_any (E : EmitOK k caps R F) (n : Nat) (IH : AllOK k caps R F n) (C d g B2 B3 f0 : Nat) (v : Value) (l : List Ln) (w : World) (L : List EvL) (o : Nat → Prop) (h : Fnd w C (fnV k caps) d) (hv : LnAt w g v l) (hF : F w L o) (hC : ¬ o C) (hg : ¬ o g ∧ g ≠ C)
 (hL : tot l ≤ 16777216) (hn : tot l ≤ n) (hd : d < 3) (hf0 : l.length ≤ f0) (hR : ∃ rest, L ++ (lst f0 l).1.flatMap (itE n d) ++ rest = R)
 (h2 : w.heap[B2]? = some (.cells #[.pointer (some ⟨C, 0, none⟩)] 163 (0, 0))) (h3 : w.heap[B3]? = some (.cells #[v] 167 (0, 0))) (n2 : ¬ o B2) (n3 : ¬ o B3) (hgw : g < w.heap.size) (hg3 : g ≠ B3) :
 Calls Tryz.prog 122 #[.pointer (some ⟨B3, 0, none⟩), .pointer (some ⟨B2, 0, none⟩)] w (DoOK F (fun j => j = B3) (LstQ B3 g (lst f0 l).2) L ((lst f0 l).1.flatMap (itE n d)) w o) := by
 have hlen := tot_len l
 obtain ⟨X, hX⟩ : ∃ X, (lst f0 l).1.flatMap (itE n d) = X := ⟨_, rfl⟩
 obtain ⟨Z, hZ⟩ : ∃ Z, (lst f0 l).2 = Z := ⟨_, rfl⟩
 have hst : [] ++ (lst f0 l).1.flatMap (itE n d) = X ∧ (lst f0 l).2 = Z := ⟨hX, hZ⟩
 rw [hX] at hR ⊢
 rw [hZ]
 obtain ⟨rest, hR⟩ := hR
 have n23 : B2 ≠ B3 := by rintro rfl; have := h2.symm.trans h3; cases this
 have nC3 : C ≠ B3 := by rintro rfl; have := h.symm.trans h3; cases this
 have hCw : C < w.heap.size := World.block_lt_of_cell? w ⟨C, 0, none⟩ h.cells.1
 have hB2w : B2 < w.heap.size := (Array.getElem?_eq_some_iff.1 h2).1
 have hB3w : B3 < w.heap.size := (Array.getElem?_eq_some_iff.1 h3).1
 have HI := Lib.hid Tryz.infoStr
 have H := Lib.hid h
 have HV := Lib.hid hv
 have HF := Lib.hid hF
 have HE := Lib.hid E
 have HIH := Lib.hid IH
 have HR := Lib.hid hR
 have HST := Lib.hid hst
 have H2 := Lib.hid h2
 have H3 := Lib.hid h3
 clear h hv hF E IH hR hst hX hZ h2 h3
 go_enter Tryz.func122, Tryz.ntmps122
 go_wp2_with fail
 go_loopw [2] (fun _ wr => ∃ (f : Nat) (cur : List Ln) (done : List EvL) (v : Value) (o1 : Nat → Prop), wr.heap[B3]? = some (.cells #[v] 167 (0, 0)) ∧ LnAt wr g v cur ∧ tot cur ≤ tot l ∧ cur.length ≤ f ∧ F wr (L ++ done) o1 ∧ MvX (fun j => j = B3) o o1 w wr ∧ (done ++ (lst f cur).1.flatMap (itE n d) = X ∧ (lst f cur).2 = Z)) (fun _ wr => boxLen wr B3)
 case atStart => exact ⟨f0, l, [], _, o, H3.out, HV.out, Nat.le_refl _, hf0, by rw [List.append_nil]; exact HF.out, ⟨Keeps.refl _ _, fun _ h => .inl h⟩, HST.out⟩
 case round =>
  obtain ⟨f, cur, done, v, o1, h3, hv, hct, hf, hF, hm, hx, hy⟩ := hrel
  obtain ⟨wo, rfl⟩ : ∃ wo : World, wo = wr := ⟨_, rfl⟩
  have c3 : wo.cell? ⟨B3, 0, none⟩ = some v := by rw [Lib.cell_of_heap h3]; rfl
  have hsk := skip_any g v cur wo hv (by omega)
  obtain ⟨a, cap, rfl⟩ := hv.form
  obtain ⟨N, hN⟩ : ∃ N, nbl cur = N := ⟨_, rfl⟩
  rw [hN] at hsk
  have hNl := nbl_le cur
  rw [hN] at hNl
  have HSK := Lib.hid hsk
  have H3 := Lib.hid h3
  have HV := Lib.hid hv
  have HF := Lib.hid hF
  have HM := Lib.hid hm
  have HX := Lib.hid hx
  have HY := Lib.hid hy
  have HN := Lib.hid hN
  clear hsk h3 hv hF hm hx hy hN
  go_wp2_with fail
  refine HSK.out.mono ?_
  rintro e w2 ⟨rfl, hk2⟩
  have c32 : w2.cell? ⟨B3, 0, none⟩ = some (.slice a cur.length cap) := hk2.cell_some c3 (fun h => h)
  have HK2 := Lib.hid hk2
  clear hk2 c3
  by_cases hlt : N < cur.length
  ·obtain ⟨s, hs⟩ : ∃ s, cur[N]? = some s := ⟨cur[N], List.getElem?_eq_getElem hlt⟩
   have hdr : cur.drop (nbl cur) = s :: cur.drop (N + 1) := by
    rw [HN.out, List.drop_eq_getElem_cons hlt]
    rw [List.getElem?_eq_getElem hlt] at hs
    injection hs with hs
    rw [hs]
   obtain ⟨cap', off, he, h1, h2, hcell⟩ := (HV.out.fresh HK2.out).line hs
   cases he
   obtain ⟨S, hS, hSl, hSs⟩ := mk_of s
   rw [hS] at hcell
   have hsz : s.length ≤ 16777216 := by
    have h9 := tot_drop cur (nbl cur)
    rw [hdr, tot_cons] at h9
    omega
   have hit := fun W : World => item_any S W (by omega)
   rw [hSl] at hit
   unfold ItmIs at hit
   cases hi : isItm s with
   | false =>
    rw [hi] at hit
    have hls : lst f cur = ([], cur) := lst_stop (.inr ⟨_, _, hdr, hi⟩)
    have hx := HX.out
    have hy := HY.out
    rw [hls] at hx hy
    have hx2 : done = X := by simpa using hx
    have hy2 : cur = Z := hy
    have HIT := Lib.hid hit
    have HX2 := Lib.hid hx2
    have HY2 := Lib.hid hy2
    clear hit hls hx hy hx2 hy2 hS hSl hSs hsz hdr hs
    go_wp2_with fail
    refine (HIT.out _).mono ?_
    rintro e w3 ⟨x, rfl, -, hk3⟩
    have HK3 := Lib.hid (HK2.out.tr hk3)
    clear hk3
    go_wp2
    go_end0
    have hm3 := HM.out.trans (MvX.of (Mv.fresh HK3.out))
    refine ⟨rfl, o1, ?_, hm3, _, HK3.out.heap_some H3.out (fun h => h), ?_, hm3.not hB3w n3, hm3.not hgw hg.1⟩
    ·rw [← HX2.out]; exact HE.out.fresh HF.out HK3.out
    ·rw [← HY2.out]; exact HV.out.fresh HK3.out
   | true =>
    rw [hi] at hit
    have HIT := Lib.hid hit
    go_wp2_with fail
    refine (HIT.out _).mono ?_
    rintro e w3 ⟨x, rfl, hxd, hk3⟩
    obtain ⟨W4, hW4⟩ : ∃ W4, w3.alloc (.cells #[.string x] 9) = W4 := ⟨_, rfl⟩
    have hk4 : Fresh w3 W4 := by rw [← hW4]; exact (Keeps.refl _ _).alloc _
    have hk04 : Fresh wo W4 := (HK2.out.tr hk3).tr hk4
    have hin : Lns W4 (.slice (some ⟨w3.heap.size, 0, none⟩) 1 1) [s.drop 2] := by rw [← hxd trivial, ← hW4]; exact Lns.lit1 w3 x
    have h34 := hk04.heap_some H3.out (fun h => h)
    have c34 : W4.cell? ⟨B3, 0, none⟩ = some (.slice (some ⟨g, off, none⟩) cur.length cap) := by rw [Lib.cell_of_heap h34]; rfl
    have f34 : W4.frozen? ⟨B3, 0, none⟩ = false := Lib.frozen_of_heap h34 0
    have hv4 := (HV.out.fresh hk04).cutv (N + 1) (by omega) (m := cur.length - (N + 1)) rfl
    have hcl := tot_len cur
    have hww := HM.out.1.size
    have hNb : (N : Int) ≤ 16777216 := by omega
    have hN1 : (N : Int) + 1 ≤ (cur.length : Int) := by omega
    have hN1c : (N : Int) + 1 ≤ (cap : Int) := by omega
    have hw3 : wo.heap.size ≤ w3.heap.size := (HK2.out.tr hk3).size
    have HK04 := Lib.hid hk04
    have HIN := Lib.hid hin
    have H34 := Lib.hid h34
    have HV4 := Lib.hid hv4
    have HXD := Lib.hid hxd
    clear hk3 hk4 hk04 hin h34 hv4 hxd hit hS hSl hSs hs hcell c32
    go_upto_region 6 with fail
    go_cut [] (fun wx => ∃ v', wx.heap[B3]? = some (.cells #[v'] 167 (0, 0)) ∧ LnAt wx g v' (cur.drop (N + 1)) ∧ Lns wx (.slice (some ⟨w3.heap.size, 0, none⟩) 1 1) [s.drop 2] ∧ Keeps (fun j => j = B3) wo wx)
    case first =>
     by_cases hcap : cap = N + 1
     ·subst hcap
      have hv5 := HV4.out
      rw [if_pos rfl, show cur.length - (N + 1) = 0 by omega, Nat.sub_self] at hv5
      have HV5 := Lib.hid hv5
      clear hv5
      go_wp2
      go_meet
      refine ⟨_, box_put H34.out, ?_, ?_, ?_⟩
      ·exact HV5.out.keeps (box_keeps _ _ _) (fun _ => hg3)
      ·exact HIN.out.kept (box_keeps _ _ _) (fun b hb => by simp [Value.ownBlock] at hb; omega)
      ·exact (HK04.out.mono (fun _ _ h => h.elim) : Keeps (fun j => j = B3) wo W4).setCell (p := ⟨B3, 0, none⟩) (fun _ => rfl) _
     ·have hv5 := HV4.out
      rw [if_neg hcap] at hv5
      have HV5 := Lib.hid hv5
      clear hv5
      go_wp2
      go_meet
      refine ⟨_, box_put H34.out, ?_, ?_, ?_⟩
      ·exact HV5.out.keeps (box_keeps _ _ _) (fun _ => hg3)
      ·exact HIN.out.kept (box_keeps _ _ _) (fun b hb => by simp [Value.ownBlock] at hb; omega)
      ·exact (HK04.out.mono (fun _ _ h => h.elim) : Keeps (fun j => j = B3) wo W4).setCell (p := ⟨B3, 0, none⟩) (fun _ => rfl) _
    case rest =>
     obtain ⟨v5, h35, hv5, hin5, hk5⟩ := hcut
     obtain ⟨f, rfl⟩ : ∃ f', f = f' + 1 := ⟨f - 1, by omega⟩
     have hls := lst_go (n := f) hdr hi
     have hx := HX.out
     have hy := HY.out
     rw [hls] at hx hy
     have hitt := item_tot (t := cur.drop (N + 1)) hi
     have htd := tot_drop cur (nbl cur)
     rw [hdr] at htd
     rw [HN.out] at hdr
     obtain ⟨IN, hIN⟩ : ∃ IN, s.drop 2 :: (itm (cur.drop (N + 1))).1 = IN := ⟨_, rfl⟩
     obtain ⟨T2, hT2⟩ : ∃ T2, (itm (cur.drop (N + 1))).2 = T2 := ⟨_, rfl⟩
     have hT2m : T2.length ≤ cur.length - (N + 1) := by
      have h9 := itm_len (cur.drop (N + 1))
      rw [hT2, List.length_drop] at h9
      exact h9
     have hT2l : T2.length ≤ f := by omega
     rw [hIN, hT2] at hx hy hitt
     have hit0 : [s.drop 2] ++ (itm (cur.drop (N + 1))).1 = IN ∧ (itm (cur.drop (N + 1))).2 = T2 := ⟨hIN, hT2⟩
     have htot0 : tot (cur.drop (N + 1)) ≤ tot l := by have := tot_drop cur (N + 1); omega
     have hINt := tot_len IN
     have HIT0 := Lib.hid hit0
     have HX3 := Lib.hid hx
     have HY3 := Lib.hid hy
     have H35 := Lib.hid h35
     have HV5 := Lib.hid hv5
     have HIN5 := Lib.hid hin5
     have HK5 := Lib.hid hk5
     clear hit0 hx hy h35 hv5 hin5 hk5 hIN hT2 hls hdr
     go_upto_block 2 with fail
     go_cut [5] (fun i wx => ∃ v', wx.heap[B3]? = some (.cells #[v'] 167 (0, 0)) ∧ LnAt wx g v' T2 ∧ Lns wx i IN ∧ (∀ b, i.ownBlock = some b → wo.heap.size ≤ b) ∧ Keeps (fun j => j = B3) wo wx)
     case first =>
      go_wp2_with fail
      go_loopw [5] (fun i wr => ∃ (cur2 acc : List Ln) (v' : Value), wr.heap[B3]? = some (.cells #[v'] 167 (0, 0)) ∧ LnAt wr g v' cur2 ∧ tot cur2 ≤ tot l ∧ Lns wr i acc ∧ acc ≠ [] ∧ (∀ b, i.ownBlock = some b → wo.heap.size ≤ b) ∧ Keeps (fun j => j = B3) wo wr ∧ (acc ++ (itm cur2).1 = IN ∧ (itm cur2).2 = T2)) (fun _ wr => boxLen wr B3)
      case atStart => exact ⟨_, [s.drop 2], v5, H35.out, HV5.out, htot0, HIN5.out, by simp, (fun b h => by simp [Value.ownBlock] at h; omega), HK5.out, HIT0.out⟩
      case round =>
       obtain ⟨cur2, acc, v', h36, hv6, htot6, hin6, hne6, ho6, hk6, hx6, hy6⟩ := hrel
       obtain ⟨w6, rfl⟩ : ∃ w6 : World, w6 = wr := ⟨_, rfl⟩
       have c36 : w6.cell? ⟨B3, 0, none⟩ = some v' := by rw [Lib.cell_of_heap h36]; rfl
       have hsk := skip_any g v' cur2 w6 hv6 (by omega)
       obtain ⟨a6, cap6, rfl⟩ := hv6.form
       obtain ⟨M, hM⟩ : ∃ M, nbl cur2 = M := ⟨_, rfl⟩
       rw [hM] at hsk
       have hMl := nbl_le cur2
       rw [hM] at hMl
       have hc2l := tot_len cur2
       have hMb : (M : Int) ≤ 16777216 := by omega
       have HSK6 := Lib.hid hsk
       have H36 := Lib.hid h36
       have HV6 := Lib.hid hv6
       have HIN6 := Lib.hid hin6
       have HO6 := Lib.hid ho6
       have HK6 := Lib.hid hk6
       have HX6 := Lib.hid hx6
       have HY6 := Lib.hid hy6
       have HMM := Lib.hid hM
       clear hsk h36 hv6 hin6 ho6 hk6 hx6 hy6 hM
       go_wp2_with fail
       refine HSK6.out.mono ?_
       rintro e w7 ⟨rfl, hk7⟩
       have c37 : w7.cell? ⟨B3, 0, none⟩ = some (.slice a6 cur2.length cap6) := hk7.cell_some c36 (fun h => h)
       have HK7 := Lib.hid hk7
       clear hk7 c36
       by_cases hlt2 : M < cur2.length
       ·obtain ⟨s2, hs2⟩ : ∃ s, cur2[M]? = some s := ⟨cur2[M], List.getElem?_eq_getElem hlt2⟩
        have hdr2 : cur2.drop (nbl cur2) = s2 :: cur2.drop (M + 1) := by
         rw [HMM.out, List.drop_eq_getElem_cons hlt2]
         rw [List.getElem?_eq_getElem hlt2] at hs2
         injection hs2 with hs2
         rw [hs2]
        obtain ⟨cap', off2, he, h1', h2', hcell2⟩ := (HV6.out.fresh HK7.out).line hs2
        cases he
        obtain ⟨S2, hS2, hSl2, hSs2⟩ := mk_of s2
        rw [hS2] at hcell2
        have hsz2 : s2.length ≤ 16777216 := by
         have h9 := tot_drop cur2 (nbl cur2)
         rw [hdr2, tot_cons] at h9
         omega
        have hpf := fun W : World => Tryz.strings_HasPrefix S2 ⟨#[32, 32]⟩ W
        rw [hSl2, show (⟨#[32, 32]⟩ : ByteArray).data.toList = [32, 32] from rfl, isInd_pre] at hpf
        have hMe : ((M : Int) == (cur2.length : Int)) = false := by rw [beq_eq_false_iff_ne]; omega
        cases hi2 : isInd s2 with
        | false =>
         rw [hi2] at hpf
         have hls := itm_stop hdr2 hi2
         have hx := HX6.out
         have hy := HY6.out
         rw [hls] at hx hy
         have hx2 : acc = IN := by simpa using hx
         have hy2 : cur2 = T2 := hy
         have HPF := Lib.hid hpf
         have HX7 := Lib.hid hx2
         have HY7 := Lib.hid hy2
         clear hpf hls hx hy hx2 hy2 hS2 hSl2 hdr2 hs2
         go_wp2_with fail
         refine (HPF.out _).mono ?_
         rintro e w8 ⟨rfl, rfl⟩
         go_wp2
         go_meet
         refine ⟨_, HK7.out.heap_some H36.out (fun h => h), ?_, ?_, HO6.out, HK6.out.tr (HK7.out.mono (fun _ _ h => h.elim))⟩
         ·rw [← HY7.out]; exact HV6.out.fresh HK7.out
         ·rw [← HX7.out]; exact HIN6.out.fresh HK7.out
        | true =>
         rw [hi2] at hpf
         have hls := itm_go hdr2 hi2
         rw [HMM.out] at hls
         have hx := HX6.out
         have hy := HY6.out
         rw [hls] at hx hy
         have hx8 : (acc ++ List.replicate M [] ++ [s2.drop 2]) ++ (itm (cur2.drop (M + 1))).1 = IN := by rw [← hx]; simp
         have hacl : acc.length + M + 1 ≤ IN.length := by rw [← hx8]; simp; omega
         have hIN : tot IN ≤ 16777216 := by omega
         obtain ⟨q6, c6, rfl, -, hq6, hg6⟩ := own_form HIN6.out
         obtain ⟨g6, rfl, hgl6⟩ : ∃ g6, q6 = some ⟨g6, 0, none⟩ ∧ g6 < w6.heap.size := by
          cases q6 with
          | none => exact absurd (List.eq_nil_of_length_eq_zero (hq6 rfl).1) hne6
          | some ad => obtain ⟨g6, rfl, h5⟩ := hg6 ad rfl; exact ⟨g6, rfl, h5⟩
         have hg6w : wo.heap.size ≤ g6 := HO6.out g6 rfl
         have hrow7 : w7.ownsRow 0 9 1 (.slice (some ⟨g6, 0, none⟩) acc.length c6) acc.length (lnCells acc) := HIN6.out.fresh HK7.out
         have h37 := HK7.out.heap_some H36.out (fun h => h)
         have n36 : ¬ B3 = g6 := by omega
         have ng6 : ¬ g = g6 := by omega
         obtain ⟨U, hU, hUl, hUs⟩ := mk_of (s2.drop 2)
         have hsub := mk_rest s2 2
         have hXs : (S2.extract 2 S2.size).data.toList = s2.drop 2 := by rw [← hSl2]; exact rest_list S2 2
         have hS22 : (2 : Int) ≤ (S2.size : Int) := by
          have : 2 ≤ s2.length := by
           unfold isInd at hi2
           split at hi2
           ·simp
           ·cases hi2
          omega
         have hSb : (S2.size : Int) ≤ 16777216 := by omega
         have HPF := Lib.hid hpf
         have HX8 := Lib.hid hx8
         have HY8 := Lib.hid hy
         have HROW7 := Lib.hid hrow7
         have H37 := Lib.hid h37
         have HXS := Lib.hid hXs
         clear hpf hls hx hy hx8 hS2 hSl2 hdr2 hs2 hrow7 h37 hXs hU hUl hUs hsub hSs2 hsz2
         go_wp2_with fail
         refine (HPF.out _).mono ?_
         rintro e w8 ⟨rfl, rfl⟩
         go_wp2_with (at_builtin; refine wpList_append_zeros _ rfl _ _ 167 3 rfl Tryz.underlying167 Tryz.underlying3 HI.out (by decide) zstr_cells rfl rfl HROW7.out M rfl (by omega) ?_)
         intro p9 c9 w9 hr9 hg9 hk9
         have c39 : w9.cell? ⟨B3, 0, none⟩ = some (.slice (some ⟨g, off2, none⟩) cur2.length cap6) := hk9.cell_some c37 n36
         have hcell9 : w9.cell? ⟨g, off2 + M, none⟩ = some (.string S2) := hk9.cell_some hcell2 ng6
         have hr9' : w9.ownsRow 0 9 1 (.slice p9 (acc.length + M) c9) (acc.length + M) (lnCells (acc ++ List.replicate M [])) := by rw [lnCells_append, ← lnCells_rep]; exact hr9
         have hap : 0 < acc.length := List.length_pos_iff.2 hne6
         obtain ⟨g9, rfl⟩ : ∃ g9, p9 = some ⟨g9, 0, none⟩ := by
          obtain ⟨p', c', he', _, hn', hg'⟩ := own_form hr9
          cases he'
          cases p9 with
          | none => have := (hn' rfl).1; omega
          | some ad => obtain ⟨g9, rfl, -⟩ := hg' ad rfl; exact ⟨g9, rfl⟩
         have hgw9 : wo.heap.size ≤ g9 := by
          have h1 := HK6.out.size
          have h2 := HK7.out.size
          rcases hg9 g9 rfl with h | h
          ·exact HO6.out g9 h
          ·omega
         have HL9 := Lib.hid (ln_add w9 (S2.extract 2 S2.size) 9 hr9')
         have HK9 := Lib.hid hk9
         have HG9 := Lib.hid hg9
         have hlr : (acc ++ List.replicate M ([] : Ln)).length = acc.length + M := by simp
         clear hr9 hr9' hg9 hk9 hcell2 c37
         go_wp2_with (at_builtin; refine wpList_append_mine _ rfl _ _ 167 rfl 9 _ 1 16 Tryz.underlying167 HI.out rfl (by decide) _ _ _ rfl HL9.out _ 1 1 [.string (S2.extract 2 S2.size)] rfl rfl (fun h => (by cases h)) (ln_at _ _ 9 _ (by simp)) (str_one _) (by unfold maxLen; omega) (by omega) ?_)
         intro p10 c10 w10 hr10 hg10 hk10
         have hw9 : wo.heap.size ≤ w9.heap.size := by
          have h1 := HK6.out.size
          have h2 := HK7.out.size
          have h3 := HK9.out.size
          omega
         have hg10w : ∀ b, (Value.slice p10 (acc.length + M + 1) c10).ownBlock = some b → wo.heap.size ≤ b := fun b hb => by
          rcases hg10 b hb with h | h
          ·simp [Value.ownBlock] at h; omega
          ·simp at h; omega
         have hk9' : Keeps (fun j => j = B3 ∨ wo.heap.size ≤ j) w8 w10 := by
          refine (HK9.out.mono (fun j _ h => .inr (by omega)) : Keeps (fun j => j = B3 ∨ wo.heap.size ≤ j) w8 w9).tr ?_
          refine (((Keeps.refl (fun _ => False) w9).alloc (.cells #[.string (S2.extract 2 S2.size)] 9)).mono (fun _ _ h => h.elim) : Keeps (fun j => j = B3 ∨ wo.heap.size ≤ j) w9 _).tr (hk10.mono (fun j _ h => .inr ?_))
          simp [Value.ownBlock] at h
          omega
         have hk10w : Keeps (fun j => j = B3) wo w10 := (HK6.out.tr (HK7.out.mono (fun _ _ h => h.elim)) : Keeps (fun j => j = B3) wo w8).trans hk9' (fun j hj hd => by
           rcases hd with h | h
           ·exact h
           ·omega)
         have h310 : w10.heap[B3]? = some (.cells #[.slice (some ⟨g, off2, none⟩) cur2.length cap6] 167 (0, 0)) :=
          hk10.heap_some (((Keeps.refl (fun _ => False) w9).alloc _).heap_some (HK9.out.heap_some H37.out n36) (fun h => h)) (fun h => by simp [Value.ownBlock] at h; omega)
         have hv10 : LnAt w10 g (.slice (some ⟨g, off2, none⟩) cur2.length cap6) cur2 :=
          (((HV6.out.fresh HK7.out).keeps HK9.out (fun _ => ng6)).fresh ((Keeps.refl (fun _ => False) w9).alloc _)).keeps hk10 (fun _ h => by simp [Value.ownBlock] at h; omega)
         have hv10 := hv10.cutv (M + 1) (by omega) (m := cur2.length - (M + 1)) rfl
         have hn10 : ∀ b, (Value.slice p10 (acc.length + M + 1) c10).ownBlock = some b → ¬ b = B3 := fun b hb => by have := hg10w b hb; omega
         have hr10' : Lns w10 (.slice p10 ((acc ++ List.replicate M ([] : Ln)).length + 1) c10) (acc ++ List.replicate M [] ++ [(S2.extract 2 S2.size).data.toList]) := Lns.snoc (by rw [hlr]; exact hr10)
         rw [hlr, HXS.out] at hr10'
         have c310 : w10.cell? ⟨B3, 0, none⟩ = some (.slice (some ⟨g, off2, none⟩) cur2.length cap6) := by rw [Lib.cell_of_heap h310]; rfl
         have f310 : w10.frozen? ⟨B3, 0, none⟩ = false := Lib.frozen_of_heap h310 0
         have hM1 : (M : Int) + 1 ≤ (cur2.length : Int) := by omega
         have hM1c : (M : Int) + 1 ≤ (cap6 : Int) := by omega
         have HR10 := Lib.hid hr10'
         have HN10 := Lib.hid hn10
         have HO10 := Lib.hid hg10w
         have HK10 := Lib.hid hk10w
         have H310 := Lib.hid h310
         have HV10 := Lib.hid hv10
         clear hr10 hr10' hn10 hg10w hg10 hk10 hk9' hk10w h310 hv10
         by_cases hcap6 : cap6 = M + 1
         ·subst hcap6
          have hv11 := HV10.out
          rw [if_pos rfl, show cur2.length - (M + 1) = 0 by omega, Nat.sub_self] at hv11
          have HV11 := Lib.hid hv11
          clear hv11
          go_wp2
          have hb36 := boxLen_of H36.out
          have hb12 := fun v => boxLen_of (box_put (v' := v) H310.out)
          go_roundw
          case rel =>
           refine ⟨cur2.drop (M + 1), acc ++ List.replicate M [] ++ [s2.drop 2], _, box_put H310.out, HV11.out.keeps (box_keeps _ _ _) (fun _ => hg3), by have := tot_drop cur2 (M + 1); omega, ?_, by simp, HO10.out, HK10.out.setCell (p := ⟨B3, 0, none⟩) (fun _ => rfl) _, HX8.out, HY8.out⟩
           exact HR10.out.kept (box_keeps _ _ _) HN10.out
          case measure =>
           rw [hb36, hb12]
           simp only [slen]
           omega
         ·have hv11 := HV10.out
          rw [if_neg hcap6] at hv11
          have HV11 := Lib.hid hv11
          clear hv11
          go_wp2
          have hb36 := boxLen_of H36.out
          have hb12 := fun v => boxLen_of (box_put (v' := v) H310.out)
          go_roundw
          case rel =>
           refine ⟨cur2.drop (M + 1), acc ++ List.replicate M [] ++ [s2.drop 2], _, box_put H310.out, HV11.out.keeps (box_keeps _ _ _) (fun _ => hg3), by have := tot_drop cur2 (M + 1); omega, ?_, by simp, HO10.out, HK10.out.setCell (p := ⟨B3, 0, none⟩) (fun _ => rfl) _, HX8.out, HY8.out⟩
           exact HR10.out.kept (box_keeps _ _ _) HN10.out
          case measure =>
           rw [hb36, hb12]
           simp only [slen]
           omega
       ·obtain rfl : M = cur2.length := by omega
        have hls := itm_end (l := cur2) (by rw [HMM.out, List.drop_length])
        have hx := HX6.out
        have hy := HY6.out
        rw [hls] at hx hy
        have hx2 : acc = IN := by simpa using hx
        have hy2 : cur2 = T2 := hy
        have HX7 := Lib.hid hx2
        have HY7 := Lib.hid hy2
        clear hls hx hy hx2 hy2 hlt2
        go_wp2
        go_meet
        refine ⟨_, HK7.out.heap_some H36.out (fun h => h), ?_, ?_, HO6.out, HK6.out.tr (HK7.out.mono (fun _ _ h => h.elim))⟩
        ·rw [← HY7.out]; exact HV6.out.fresh HK7.out
        ·rw [← HX7.out]; exact HIN6.out.fresh HK7.out
     case rest =>
      obtain ⟨v7, h37, hv7, hin7, ho7, hk7⟩ := hcut
      obtain ⟨gv, hat, hgv⟩ := hin7.atB
      have hw1 : wo.heap.size ≤ wc.heap.size := hk7.size
      have ho1 : ∀ b, o1 b → b < wo.heap.size := HE.out.lt HF.out
      have nC1 : ¬ o1 C := HM.out.not hCw hC
      have n21 : ¬ o1 B2 := HM.out.not hB2w n2
      have n31 : ¬ o1 B3 := HM.out.not hB3w n3
      have ng1 : ¬ o1 g := HM.out.not hgw hg.1
      have c2 : wc.cell? ⟨B2, 0, none⟩ = some (.pointer (some ⟨C, 0, none⟩)) := hk7.cell_some (by rw [Lib.cell_of_heap (HM.out.heap H2.out n2 (fun h => n23 h))]; rfl) (fun h => n23 h)
      have hfd := Fnd.keeps (Fnd.mvx H.out HM.out hC (fun h => nC3 h)) hk7 (fun h => nC3 h)
      have hFc := HE.out.keep HF.out hk7 (fun b hb => by rw [hb]; exact n31)
      have hdp := deeper_any HE.out n HIH.out C d gv 4 _ IN wc (L ++ done) o1 hfd hat hFc nC1 (fun hne => by
        have := ho7 gv (hgv hne)
        exact ⟨fun h => by have := ho1 _ h; omega, by omega⟩) (by omega) (by omega) hd ⟨(lst f T2).1.flatMap (itE n d) ++ rest, by rw [← HR.out, ← HX3.out]; simp [itE]⟩
      have HDP := Lib.hid hdp
      have H37 := Lib.hid h37
      have HV7 := Lib.hid hv7
      have HK7 := Lib.hid hk7
      clear hdp h37 hv7 hin7 hk7 hat hgv hfd hFc
      go_wp2_with fail
      refine HDP.out.mono ?_
      rintro e w8 ⟨rfl, o2, hF8, hm8⟩
      have hm9 : MvX (fun j => j = B3) o o2 w w8 := HM.out.trans (mvx_of HK7.out hm8)
      have h38 := hm8.heap H37.out n31
      have hv8 := HV7.out.mv hm8 (fun _ => ng1)
      have hF9 : F w8 (L ++ (done ++ itE n d IN)) o2 := by
       have e1 : L ++ (done ++ itE n d IN) = L ++ done ++ (bgE 4 :: (blkF n (d + 1) IN ++ [fnE 4])) := by simp [itE]
       rw [e1]
       exact hF8
      have hx9 : (done ++ itE n d IN) ++ (lst f T2).1.flatMap (itE n d) = X := by rw [← HX3.out]; simp
      have hb9 := boxLen_of h38
      have hb0 := boxLen_of H3.out
      have H38 := Lib.hid h38
      have HV8 := Lib.hid hv8
      have HF9 := Lib.hid hF9
      have HM9 := Lib.hid hm9
      have HX9 := Lib.hid hx9
      obtain ⟨a8, c8, rfl⟩ := hv8.form
      clear hF8 hm8 h38 hv8 hF9 hm9 hx9
      go_wp2
      go_roundw
      case rel => exact ⟨f, T2, _, _, o2, H38.out, HV8.out, by omega, hT2l, HF9.out, HM9.out, HX9.out, HY3.out⟩
      case measure =>
       rw [hb9, hb0]
       simp only [slen]
       omega
  ·obtain rfl : N = cur.length := by omega
   have hls : lst f cur = ([], cur) := lst_stop (.inl (by rw [HN.out, List.drop_length]))
   have hx := HX.out
   have hy := HY.out
   rw [hls] at hx hy
   have hx2 : done = X := by simpa using hx
   have hy2 : cur = Z := hy
   have HX2 := Lib.hid hx2
   have HY2 := Lib.hid hy2
   clear hls hx hy hx2 hy2 hlt
   go_wp2
   go_end0
   have hm3 := HM.out.trans (MvX.of (Mv.fresh HK2.out))
   refine ⟨rfl, o1, ?_, hm3, _, HK2.out.heap_some H3.out (fun h => h), ?_, hm3.not hB3w n3, hm3.not hgw hg.1⟩
   ·rw [← HX2.out]; exact HE.out.fresh HF.out HK2.out
   ·rw [← HY2.out]; exact HV.out.fresh HK2.out
end
end Go.Proofs.YtbioecifiogffabGreatDoor
namespace Go.Proofs.YtbioecifiogffabGreatDoor
open Go.RowKit
section
variable {k : Nat} {caps : Array Value} {R : List EvL} {F : World → List EvL → (Nat → Prop) → Prop}
theorem list_any (E : EmitOK k caps R F) (n : Nat) (IH : AllOK k caps R F n) (C d g f0 : Nat) (v : Value) (l : List Ln) (w : World) (L : List EvL) (o : Nat → Prop) (h : Fnd w C (fnV k caps) d) (hv : LnAt w g v l) (hF : F w L o) (hC : ¬ o C) (hg : ¬ o g ∧ g ≠ C)
 (hL : tot l ≤ 16777216) (hn : tot l ≤ n) (hd : d < 3) (hf0 : l.length ≤ f0) (hl0 : l ≠ []) (hR : ∃ rest, L ++ (bgE 3 :: ((lst f0 l).1.flatMap (itE n d) ++ [fnE 3])) ++ rest = R) :
 Calls Tryz.prog 86 #[.pointer (some ⟨C, 0, none⟩), v] w (StepOK F g L (bgE 3 :: ((lst f0 l).1.flatMap (itE n d) ++ [fnE 3])) (lst f0 l).2 o w) := by
 obtain ⟨rest, hR⟩ := hR
 obtain ⟨a, cap, rfl⟩ := hv.form
 have hgw : g < w.heap.size := hv.lt hl0
 have hCw : C < w.heap.size := World.block_lt_of_cell? w ⟨C, 0, none⟩ h.cells.1
 have hmf : ∀ (fn : Fn) (first cap : Array Value) (w : World), (Instr.makeFunc fn first cap).run Tryz.prog w = .ok (.func fn first cap) w := fun _ _ _ _ => rfl
 obtain ⟨W, hW⟩ : ∃ W, (w.alloc (.cells #[.pointer (some ⟨C, 0, none⟩)] 163)).alloc (.cells #[.slice a l.length cap] 167) = W := ⟨_, rfl⟩
 have hFW : Fresh w W := by rw [← hW]; exact ((Keeps.refl _ _).alloc _).alloc _
 have hz : w.heap.size + 1 < W.heap.size := by rw [← hW]; simp
 have hlt := E.lt hF
 have t2 : W.heap[w.heap.size]? = some (.cells #[.pointer (some ⟨C, 0, none⟩)] 163 (0, 0)) := by
  rw [← hW, Below.heap_alloc _ _ _ (by simp)]
  exact heap_alloc_new w _
 have t3 : W.heap[w.heap.size + 1]? = some (.cells #[.slice a l.length cap] 167 (0, 0)) := by
  rw [← hW]
  have := heap_alloc_new (w.alloc (.cells #[.pointer (some ⟨C, 0, none⟩)] 163)) (.cells #[.slice a l.length cap] 167)
  simpa using this
 have hfW := h.fresh hFW
 have hvW := hv.fresh hFW
 have hFo := E.fresh hF hFW
 have c2 : W.cell? ⟨w.heap.size, 0, none⟩ = some (.pointer (some ⟨C, 0, none⟩)) := by rw [Lib.cell_of_heap t2]; rfl
 have n2 : ¬ o w.heap.size := fun h => by have := hlt _ h; omega
 have n3 : ¬ o (w.heap.size + 1) := fun h => by have := hlt _ h; omega
 have hdo : ∀ (w1 : World) (o1 : Nat → Prop), F w1 (L ++ [((⟨3, false, 0, []⟩, false) : EvL)]) o1 → Mv o o1 W w1 → Calls Tryz.prog 122 #[.pointer (some ⟨w.heap.size + 1, 0, none⟩), .pointer (some ⟨w.heap.size, 0, none⟩)] w1 (DoOK F (fun j => j = w.heap.size + 1) (LstQ (w.heap.size + 1) g (lst f0 l).2) (L ++ [((⟨3, false, 0, []⟩, false) : EvL)]) ((lst f0 l).1.flatMap (itE n d)) w1 o1) := fun w1 o1 hF1 hm1 => by
  have hs1 := hm1.1.size
  refine list1_any E n IH C d g w.heap.size (w.heap.size + 1) f0 _ l w1 (L ++ [((⟨3, false, 0, []⟩, false) : EvL)]) o1 (hm1.heap hfW hC) (hvW.mv hm1 (fun _ => hg.1)) hF1 (hm1.not (by omega) hC) ⟨hm1.not (by omega) hg.1, hg.2⟩ hL hn hd hf0 ⟨fnE 3 :: rest, by rw [← hR]; simp [bgE]⟩ (hm1.heap t2 n2) (hm1.heap t3 n3) (hm1.not (by omega) n2) (hm1.not (by omega) n3) (by omega) (by omega)
 have hwi := within_any E (fun j => j = w.heap.size + 1) (LstQ (w.heap.size + 1) g (lst f0 l).2) C d ⟨3, false, 0, []⟩ 122 #[.pointer (some ⟨w.heap.size + 1, 0, none⟩), .pointer (some ⟨w.heap.size, 0, none⟩)] ((lst f0 l).1.flatMap (itE n d)) W L o hfW hFo hC (fun j h => ⟨by omega, by omega⟩) ⟨rest, by rw [← hR]; simp [bgE, fnE]⟩ (enters_of Tryz.func122 (by kernel_rfl) rfl) hdo
 unfold evV fnV at hwi
 have HWI := Lib.hid hwi
 have HFW := Lib.hid hFW
 clear hwi hdo hFW t2 t3 hfW hvW hFo hlt hF hv h IH E hR
 go_enter Tryz.func86, Tryz.ntmps86
 go_wp2_with fail
 refine HWI.out.mono ?_
 rintro e w4 ⟨rfl, w2', o2, o', ⟨v', hb, hv', nB, ng⟩, hm24, hF4, hm4⟩
 have hs := HFW.out.size
 have hB3 : w.heap.size + 1 < w2'.heap.size := (Array.getElem?_eq_some_iff.1 hb).1
 have hb4 := hm24.heap hb nB (fun h => by omega)
 have hgw2 : ¬ g = W.heap.size + 1 := by omega
 have hv4 : LnAt w4 g v' (lst f0 l).2 := hv'.keeps hm24.1 (fun _ h => by
   rcases h with h | h
   ·exact ng h
   ·exact hgw2 h)
 have c4 : w4.cell? ⟨w.heap.size + 1, 0, none⟩ = some v' := by rw [Lib.cell_of_heap hb4]; rfl
 have hm5 : Mv o o' w w4 := by
  refine ⟨(HFW.out.mono (fun _ _ h => h.elim) : Keeps o w W).trans hm4.1 (fun j hj hd => hd.resolve_right (fun h => by omega)), fun j hj => ?_⟩
  rcases hm4.2 j hj with h1 | h1
  ·exact .inl h1
  ·exact .inr (Nat.le_trans hs h1)
 have HV4 := Lib.hid hv4
 have HM5 := Lib.hid hm5
 clear hb hv' hm24 hm4 hb4 hv4 hm5 hW
 go_wp2
 go_ret
 exact ⟨_, o', rfl, HV4.out, hF4, HM5.out⟩
end
end Go.Proofs.YtbioecifiogffabGreatDoor
namespace Go.Proofs.YtbioecifiogffabGreatDoor
open Go.RowKit
theorem eqlF (f : Nat) (w : World) : (binOp .eql 175 (.func (.func f) #[] #[]) .nilFunc).run Tryz.prog w = .ok (.bool false) w := by kernel_rfl
theorem eqlN (w : World) : (binOp .eql 175 .nilFunc .nilFunc).run Tryz.prog w = .ok (.bool true) w := by kernel_rfl
theorem eqGF (f n : Nat) (w : World) : (eqGuard .eql 175 (.tmp n) (.const .nilFunc) (.func (.func f) #[] #[]) .nilFunc).run Tryz.prog w = .ok () w := by kernel_rfl
theorem eqGN (n : Nat) (w : World) : (eqGuard .eql 175 (.tmp n) (.const .nilFunc) .nilFunc .nilFunc).run Tryz.prog w = .ok () w := by kernel_rfl
theorem fnc_lns (l : List Ln) : (fnc l).2.length ≤ l.length := by
 induction l with
 | nil => simp [fnc]
 | cons s t ih =>
  unfold fnc
  split
  ·simp
  ·simp only [List.length_cons]; omega
theorem qtd_lns (l : List Ln) : (qtd l).2.length ≤ l.length := by
 induction l with
 | nil => simp [qtd]
 | cons s t ih =>
  unfold qtd
  split
  ·simp only [List.length_cons]; omega
  ·simp
theorem prg_lns (d : Nat) (l : List Ln) : (prg d l).2.length ≤ l.length := by
 induction l with
 | nil => simp [prg]
 | cons s t ih =>
  unfold prg
  split
  ·simp
  ·simp only [List.length_cons]; omega
theorem lst_lns (n : Nat) : ∀ l : List Ln, (lst n l).2.length ≤ l.length := by
 induction n with
 | zero => intro l; simp [lst]
 | succ n ih =>
  intro l
  unfold lst
  split
  ·exact Nat.le_refl _
  ·rename_i s t hsk
   split
   ·have h1 := ih (itm t).2
    have h2 := itm_len t
    have h3 : t.length + 1 ≤ l.length := by
     have h4 := nbl_skb l
     have h5 := congrArg List.length (h4.trans hsk)
     simp at h5
     omega
    simp only
    omega
   ·exact Nat.le_refl _
section
variable {k : Nat} {caps : Array Value} {R : List EvL} {F : World → List EvL → (Nat → Prop) → Prop}
theorem block_any (E : EmitOK k caps R F) (m d : Nat) (IH : AllOK k caps R F m) (s : Ln) (t : List Ln) (hb : blank s = false) (hm : tot (s :: t) < m + 1) (hL : tot (s :: t) ≤ 16777216) (hd : d ≤ 3) :
 ∃ (fk : Nat) (M : List EvL) (Z : List Ln), whatV (sta s d) = (if sta s d = 0 then .nilFunc else .func (.func fk) #[] #[]) ∧ (sta s d = 0 → fk = 67) ∧ (∀ (args : Array Value) (w : World), (callFunc fk args).run Tryz.prog w = .ok (.enter fk args) w) ∧
  blkF (m + 1) d (s :: t) = M ++ blkF m d Z ∧ tot Z < tot (s :: t) ∧ Z.length ≤ t.length ∧
  ∀ (C g : Nat) (v : Value) (w : World) (L : List EvL) (o : Nat → Prop), Fnd w C (fnV k caps) d → LnAt w g v (s :: t) → F w L o → ¬ o C → (¬ o g ∧ g ≠ C) → (∃ rest, L ++ M ++ rest = R) → Calls Tryz.prog fk #[.pointer (some ⟨C, 0, none⟩), v] w (StepOK F g L M Z o w) := by
 have htc := tot_cons s t
 have hlen := tot_len (s :: t)
 by_cases h2 : sta s d = 2
 ·refine ⟨81, leafE 5 0 (fnc t).1 false, (fnc t).2, by rw [h2]; rfl, fun h => by omega, enters_of Tryz.func81 (by kernel_rfl) rfl, ?_, by have := fnc_tot t; omega, fnc_lns t, fun C g v w L o h hv hF hC hg hR => code_any E C d g v s t w L o h hv hF hC hg hL hR⟩
  conv => lhs; unfold blkF
  rw [hb, if_neg (by decide), if_pos h2]
 by_cases h3 : sta s d = 3
 ·refine ⟨83, leafE 1 (lvl s) (trm (s.drop (lvl s))) true, t, by rw [h3]; rfl, fun h => by omega, enters_of Tryz.func83 (by kernel_rfl) rfl, ?_, by omega, Nat.le_refl _, fun C g v w L o h hv hF hC hg hR => hdg_any E C d g v s t w L o h hv hF hC hg hL (sta_three h3).1 hR⟩
  conv => lhs; unfold blkF
  rw [hb, if_neg (by decide), if_neg h2, if_pos h3]
 by_cases h4 : sta s d = 4
 ·obtain ⟨hq, hd3⟩ := sta_four h4
  have hqt := qtd_tot (s :: t)
  have hq1 : 1 ≤ (qtd (s :: t)).1.length := by simp [qtd, hq]
  refine ⟨84, bgE 2 :: (blkF m (d + 1) (qtd (s :: t)).1 ++ [fnE 2]), (qtd (s :: t)).2, by rw [h4]; rfl, fun h => by omega, enters_of Tryz.func84 (by kernel_rfl) rfl, ?_, by omega, by have := qtd_lns t; simpa [qtd, hq] using this, fun C g v w L o h hv hF hC hg hR => quote_any E m IH C d g v (s :: t) w L o h hv hF hC hg hL (by omega) hd3 hR⟩
  conv => lhs; unfold blkF
  rw [hb, if_neg (by decide), if_neg h2, if_neg h3, if_pos h4]
  simp
 by_cases h5 : sta s d = 5
 ·obtain ⟨hi, hd3⟩ := sta_five h5
  refine ⟨86, bgE 3 :: ((lst m (s :: t)).1.flatMap (itE m d) ++ [fnE 3]), (lst m (s :: t)).2, by rw [h5]; rfl, fun h => by omega, enters_of Tryz.func86 (by kernel_rfl) rfl, ?_, ?_, ?_, fun C g v w L o h hv hF hC hg hR => list_any E m IH C d g m v (s :: t) w L o h hv hF hC hg hL (by omega) hd3 (by omega) (by simp) hR⟩
  ·conv => lhs; unfold blkF
   rw [hb, if_neg (by decide), if_neg h2, if_neg h3, if_neg h4, if_pos h5]
   simp
   rfl
  ·obtain ⟨m', rfl⟩ : ∃ m', m = m' + 1 := ⟨m - 1, by have := hlen; simp only [List.length_cons] at this; omega⟩
   rw [lst_item hi]
   have h6 := item_tot (t := t) hi
   have h7 := lst_sum m' (itm t).2
   simp only
   omega
  ·obtain ⟨m', rfl⟩ : ∃ m', m = m' + 1 := ⟨m - 1, by have := hlen; simp only [List.length_cons] at this; omega⟩
   rw [lst_item hi]
   have h6 := itm_len t
   have h7 := lst_lns m' (itm t).2
   simp only
   omega
 ·have h0 : sta s d = 0 := by have := sta_cases s d; omega
  have hp := prg_tot d t
  refine ⟨67, leafE 0 0 (joinN (trm s :: (prg d t).1)) true, (prg d t).2, by rw [h0]; rfl, fun _ => rfl, enters_of Tryz.func67 (by kernel_rfl) rfl, ?_, by omega, prg_lns d t, fun C g v w L o h hv hF hC hg hR => par_any E C d g v s t w L o h hv hF hC hg hL hd hb hR⟩
  conv => lhs; unfold blkF
  rw [hb, if_neg (by decide), if_neg h2, if_neg h3, if_neg h4, if_neg h5]
theorem blkF_blank {m d : Nat} {s : Ln} {t : List Ln} (hb : blank s = true) : blkF (m + 1) d (s :: t) = blkF m d t := by
 conv => lhs; unfold blkF
 rw [hb, if_pos rfl]
theorem blkF_nil (m d : Nat) : blkF m d [] = [] := by cases m <;> rfl
theorem all_any (E : EmitOK k caps R F) : ∀ n : Nat, AllOK k caps R F n := by
 intro n
 induction n using Nat.strongRecOn with
 | ind n IH =>
 intro C d g v l w L o h hv hF hC hg hn hL hd hR
 obtain ⟨X, hX⟩ : ∃ X, blkF n d l = X := ⟨_, rfl⟩
 have hst : [] ++ blkF n d l = X := hX
 rw [hX] at hR ⊢
 obtain ⟨rest, hR⟩ := hR
 have hCw : C < w.heap.size := World.block_lt_of_cell? w ⟨C, 0, none⟩ h.cells.1
 have hgw : l ≠ [] → g < w.heap.size := fun hne => hv.lt hne
 have H := Lib.hid h
 have HV := Lib.hid hv
 have HF := Lib.hid hF
 have HE := Lib.hid E
 have HIH := Lib.hid IH
 have HR := Lib.hid hR
 have HST := Lib.hid hst
 have HG := Lib.hid hg
 have HGW := Lib.hid hgw
 clear h hv hF E IH hR hst hX hg hgw
 go_enter Tryz.func57, Tryz.ntmps57
 go_wp2_with fail
 go_loopw [1] (fun v wr => ∃ (m : Nat) (cur : List Ln) (done : List EvL) (o1 : Nat → Prop), LnAt wr g v cur ∧ (cur ≠ [] → l ≠ []) ∧ tot cur < m ∧ m ≤ n ∧ tot cur ≤ tot l ∧ F wr (L ++ done) o1 ∧ Mv o o1 w wr ∧ done ++ blkF m d cur = X) (fun v _ => slen v)
 case atStart => exact ⟨n, l, [], o, HV.out, id, hn, Nat.le_refl _, Nat.le_refl _, by rw [List.append_nil]; exact HF.out, Mv.refl _ _, HST.out⟩
 case round =>
  obtain ⟨m, cur, done, o1, hv, hne, hm, hmn, hct, hF, hmv, hx⟩ := hrel
  obtain ⟨wo, rfl⟩ : ∃ wo : World, wo = wr := ⟨_, rfl⟩
  cases cur with
  | nil =>
   obtain ⟨a, cap, rfl⟩ := hv.form
   rw [blkF_nil, List.append_nil] at hx
   have HX := Lib.hid hx
   have HF1 := Lib.hid hF
   have HM := Lib.hid hmv
   clear hx hF hmv hv hne
   go_wp2
   go_end0
   exact ⟨rfl, o1, by rw [← HX.out]; exact HF1.out, HM.out⟩
  | cons s t =>
   have hl0 := hne (by simp)
   obtain ⟨hgo, hgC⟩ := HG.out hl0
   have hgw := HGW.out hl0
   have nC1 := hmv.not hCw hC
   have ng1 := hmv.not hgw hgo
   have hfd : Fnd wo C (fnV k caps) d := hmv.heap H.out hC
   obtain ⟨cap, off, rfl, h1, h2, hcell⟩ := hv.line (j := 0) (s := s) rfl
   rw [Nat.add_zero] at hcell
   obtain ⟨S, hS, hSl, hSs⟩ := mk_of s
   rw [hS] at hcell
   have htc : tot (s :: t) = s.length + 1 + tot t := tot_cons s t
   have hem := fun W : World => empty_any S W (by omega)
   rw [hSl] at hem
   have hll : ((s :: t).length : Int) = (t.length : Int) + 1 := by simp
   have hl1 : (0 : Int) < (t.length : Int) + 1 := by omega
   obtain ⟨m, rfl⟩ : ∃ m', m = m' + 1 := ⟨m - 1, by omega⟩
   cases hb : blank s with
   | true =>
    rw [hb] at hem
    rw [blkF_blank hb] at hx
    have hvc := hv.cutv 1 (by simp) (m := t.length) (by simp)
    have HEM := Lib.hid hem
    have HVC := Lib.hid hvc
    have HX := Lib.hid hx
    have HF1 := Lib.hid hF
    have HM := Lib.hid hmv
    clear hx hF hmv hv hne hem hvc hS hSl hSs hfd hb
    go_wp2_with fail
    refine (HEM.out _).mono ?_
    rintro e w2 ⟨rfl, hk2⟩
    have HK2 := Lib.hid hk2
    clear hk2
    go_wp2
    go_roundw
    case rel => exact ⟨m, t, done, o1, HVC.out.fresh HK2.out, fun _ => hl0, by omega, by omega, by omega, HE.out.fresh HF1.out HK2.out, HM.out.trans (Mv.fresh HK2.out), HX.out⟩
    case measure => simp [slen]
   | false =>
    rw [hb] at hem
    obtain ⟨fk, M, Z, hwv, hpar, ent, hblk, htz, hzl, hcall⟩ := block_any HE.out m d (HIH.out m (by omega)) s t hb hm (by omega) hd
    rw [hblk] at hx
    have hx2 : (done ++ M) ++ blkF m d Z = X := by rw [← hx]; simp
    have hwh := fun (W : World) (hW : Fresh wo W) => what_any C d (fnV k caps) S W (hfd.fresh hW) (by omega) hd
    rw [hSl, hwv] at hwh
    have hRM : ∃ rest', L ++ done ++ M ++ rest' = R := ⟨blkF m d Z ++ rest, by rw [← HR.out, ← hx2]; simp⟩
    have hst := fun (W : World) (hW : Fresh wo W) => hcall C g _ W (L ++ done) o1 (hfd.fresh hW) (hv.fresh hW) (HE.out.fresh hF hW) nC1 ⟨ng1, hgC⟩ hRM
    have hck := fun (W : World) (hW : Fresh wo W) => (hW.cell_some hcell (fun h => h) : W.cell? ⟨g, off, none⟩ = some (.string S))
    have HEM := Lib.hid hem
    have HWH := Lib.hid hwh
    have HX := Lib.hid hx2
    have HM := Lib.hid hmv
    have HSTEP := Lib.hid hst
    have HCK := Lib.hid hck
    have HPAR := Lib.hid hpar
    have HZ := Lib.hid htz
    clear hx hx2 hF hmv hv hem hwh hS hSl hSs hfd hb hblk hst hcall hck hRM hpar hwv htz
    by_cases h0 : sta s d = 0
    ·have hfk := HPAR.out h0
     subst hfk
     rw [if_pos h0] at HWH
     have eN := eqlN
     have gN := eqGN
     clear h0
     go_wp2_with fail
     refine (HEM.out _).mono ?_
     rintro e w2 ⟨rfl, hk2⟩
     have hcell2 := HCK.out _ hk2
     have HK2 := Lib.hid hk2
     clear hk2
     go_wp2_with fail
     refine (HWH.out _ HK2.out).mono ?_
     rintro e w3 ⟨rfl, hk3⟩
     have HK3 := Lib.hid (HK2.out.tr hk3)
     clear hk3 hcell2
     go_wp2_with fail
     refine (HSTEP.out _ HK3.out).mono ?_
     rintro e w4 ⟨v', o2, rfl, hv4, hF4, hm4⟩
     have HV4 := Lib.hid hv4
     have HF4 := Lib.hid hF4
     have HM4 := Lib.hid hm4
     obtain ⟨a4, c4, rfl⟩ := hv4.form
     clear hv4 hF4 hm4
     go_wp2
     go_roundw
     case rel => exact ⟨m, Z, done ++ M, o2, HV4.out, fun _ => hl0, by have := HZ.out; omega, by omega, by have := HZ.out; omega, by rw [← List.append_assoc]; exact HF4.out, (HM.out.trans (Mv.fresh HK3.out)).trans HM4.out, HX.out⟩
     case measure => simp only [slen]; omega
    ·rw [if_neg h0] at HWH
     have eF := eqlF fk
     have gF := eqGF fk
     clear h0
     go_wp2_with fail
     refine (HEM.out _).mono ?_
     rintro e w2 ⟨rfl, hk2⟩
     have hcell2 := HCK.out _ hk2
     have HK2 := Lib.hid hk2
     clear hk2
     go_wp2_with fail
     refine (HWH.out _ HK2.out).mono ?_
     rintro e w3 ⟨rfl, hk3⟩
     have HK3 := Lib.hid (HK2.out.tr hk3)
     clear hk3 hcell2
     go_wp2_with fail
     refine (HSTEP.out _ HK3.out).mono ?_
     rintro e w4 ⟨v', o2, rfl, hv4, hF4, hm4⟩
     have HV4 := Lib.hid hv4
     have HF4 := Lib.hid hF4
     have HM4 := Lib.hid hm4
     obtain ⟨a4, c4, rfl⟩ := hv4.form
     clear hv4 hF4 hm4
     go_wp2
     go_roundw
     case rel => exact ⟨m, Z, done ++ M, o2, HV4.out, fun _ => hl0, by have := HZ.out; omega, by omega, by have := HZ.out; omega, by rw [← List.append_assoc]; exact HF4.out, (HM.out.trans (Mv.fresh HK3.out)).trans HM4.out, HX.out⟩
     case measure => simp only [slen]; omega
end
end Go.Proofs.YtbioecifiogffabGreatDoor
namespace Go.Proofs.YtbioecifiogffabGreatDoor
open Go.RowKit
def blkT (s : List UInt8) : List EvL := blkF (tot (lns s) + 1) 0 (lns s)
theorem lnsA_tot' (a : Ln) (s : List UInt8) : tot (lnsA a s) ≤ a.length + s.length + 1 := by
 induction s generalizing a with
 | nil => unfold lnsA; split <;> simp [tot]
 | cons c t ih =>
  unfold lnsA
  split
  ·have := ih []
   rw [tot_cons]
   simp at this ⊢
   omega
  ·have := ih (a ++ [c])
   simp at this ⊢
   omega
theorem lns_tot' (s : List UInt8) : tot (lns s) ≤ s.length + 1 := by
 have := lnsA_tot' [] s
 simpa [lns] using this
theorem blkT_len (s : List UInt8) : (blkT s).length ≤ 4 * (s.length + 1) := by
 have h1 := blkF_len (tot (lns s) + 1) 0 (lns s)
 have h2 := lns_tot' s
 unfold blkT
 omega
section
variable {k : Nat} {caps : Array Value} {R : List EvL} {F : World → List EvL → (Nat → Prop) → Prop}
theorem bFind_any (E : EmitOK k caps R F) (s : ByteArray) (w : World) (o : Nat → Prop) (hF : F w [] o) (hs : s.size ≤ 8388608) (hG : Gl w) (hR : ∃ rest, blkT s.data.toList ++ rest = R) :
 Calls Tryz.prog 42 #[.string s, fnV k caps] w fun e w' => e = .returned (.tuple #[]) ∧ ∃ o', F w' (blkT s.data.toList) o' ∧ Mv o o' w w' := by
 have htot := lns_tot' s.data.toList
 rw [show s.data.toList.length = s.size by simp] at htot
 have hlt := E.lt hF
 obtain ⟨W, hW⟩ : ∃ W, w.alloc (.cells #[fnV k caps, .int .i64 ((0 : Nat) : Int)] 165) = W := ⟨_, rfl⟩
 have hFW : Fresh w W := by rw [← hW]; exact (Keeps.refl _ _).alloc _
 have hz : w.heap.size < W.heap.size := by rw [← hW]; simp
 have hfd : Fnd W w.heap.size (fnV k caps) 0 := by unfold Fnd; rw [← hW]; exact heap_alloc_new w _
 have nC : ¬ o w.heap.size := fun h => by have := hlt _ h; omega
 have hli := fun (W' : World) (hW' : Fresh W W') => pLines_any s W' (by omega) ((hG.fresh hFW).fresh hW')
 have hal := fun (W' : World) (hW' : Fresh W W') (g : Nat) (v : Value) (hv : LnAt W' g v (lns s.data.toList)) (hg : W.heap.size ≤ g) => all_any E (tot (lns s.data.toList) + 1) w.heap.size 0 g v (lns s.data.toList) W' [] o (hfd.fresh hW') hv (E.fresh hF (hFW.tr hW')) nC (fun _ => ⟨fun h => by have := hlt _ h; omega, by omega⟩) (by omega) (by omega) (by omega) (by simpa [blkT] using hR)
 have HLI := Lib.hid hli
 have HAL := Lib.hid hal
 have HFW := Lib.hid hFW
 clear hli hal hFW hfd hF hR E hG hlt htot
 unfold fnV at *
 go_enter Tryz.func42, Tryz.ntmps42
 go_wp2_with fail
 rw [show ((0 : Nat) : Int) = 0 from rfl] at hW
 rw [hW]
 clear hW
 refine (HLI.out _ (Keeps.refl _ _)).mono ?_
 rintro e w2 ⟨v, rfl, hv, hk2⟩
 have hall := HAL.out w2 hk2 _ v hv (Nat.le_refl _)
 have HALL := Lib.hid hall
 have HK2 := Lib.hid hk2
 clear hall hk2 hv
 go_wp2_with fail
 refine HALL.out.mono ?_
 rintro e w3 ⟨rfl, o', hF3, hm3⟩
 go_wp2
 go_end0
 exact ⟨rfl, o', by simpa [blkT] using hF3, (Mv.fresh (HFW.out.tr HK2.out)).trans hm3⟩
end
end Go.Proofs.YtbioecifiogffabGreatDoor
