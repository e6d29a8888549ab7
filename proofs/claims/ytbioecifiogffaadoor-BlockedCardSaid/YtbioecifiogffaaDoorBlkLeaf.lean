/- (*finder).heading, code, paragraph: leaves. Condition: no more than 2^24 bytes. -/
import Derived.Test.YtbioecifiogffaaDoorBlkDeep
namespace Go.Proofs.YtbioecifiogffaaDoor
open Go.RowKit

theorem MvX.none {o o' : Nat → Prop} {w w' : World} (h : MvX (fun _ => False) o o' w w') : Mv o o' w w' := ⟨h.1.mono (fun j _ h => h.resolve_right (fun h => h)), h.2⟩
/-- What begins with a line: M is told, Z is left of the lines. -/
def StepOK (F : World → List EvL → (Nat → Prop) → Prop) (g : Nat) (L M : List EvL) (Z : List Ln) (o : Nat → Prop) (w : World) (e : Ending) (w' : World) : Prop :=
  ∃ v' o', e = .returned v' ∧ LnAt w' g v' Z ∧ F w' (L ++ M) o' ∧ Mv o o' w w'

section
variable {k : Nat} {caps : Array Value} {R : List EvL} {F : World → List EvL → (Nat → Prop) → Prop}

set_option maxHeartbeats 2000000 in
set_option maxRecDepth 100000 in
theorem heading1_any (E : EmitOK k caps R F) (C d B2 B6 : Nat) (s : ByteArray) (w : World) (L : List EvL) (o : Nat → Prop) (h : Fnd w C (fnV k caps) d) (hF : F w L o) (hR : ∃ rest, L ++ txE s.data.toList true ++ rest = R)
    (h2 : w.heap[B2]? = some (.cells #[.pointer (some ⟨C, 0, none⟩)] 122 (0, 0))) (h6 : w.heap[B6]? = some (.cells #[.string s] 9 (0, 0))) :
    Calls Tryd.prog 114 #[.pointer (some ⟨B2, 0, none⟩), .pointer (some ⟨B6, 0, none⟩)] w (DoOK F (fun _ => False) (fun _ _ => True) L (txE s.data.toList true) w o) := by
  have c2 : w.cell? ⟨B2, 0, none⟩ = some (.pointer (some ⟨C, 0, none⟩)) := by rw [Lib.cell_of_heap h2]; rfl
  have c6 : w.cell? ⟨B6, 0, none⟩ = some (.string s) := by rw [Lib.cell_of_heap h6]; rfl
  have htx := text_any E C d s true w L o h hF hR
  have HTX := Lib.hid htx
  clear htx h2 h6 hF hR h E
  go_enter Tryd.func114, Tryd.ntmps114
  go_wp2_with fail
  refine HTX.out.mono ?_
  rintro e w2 ⟨rfl, o2, hF2, hm2⟩
  go_wp2
  go_end0
  exact ⟨rfl, o2, hF2, MvX.of hm2, trivial⟩

set_option maxHeartbeats 4000000 in
set_option maxRecDepth 100000 in
theorem hdg_any (E : EmitOK k caps R F) (C d g : Nat) (v : Value) (s : Ln) (t : List Ln) (w : World) (L : List EvL) (o : Nat → Prop) (h : Fnd w C (fnV k caps) d) (hv : LnAt w g v (s :: t)) (hF : F w L o) (hC : ¬ o C) (hg : ¬ o g ∧ g ≠ C)
    (hL : tot (s :: t) ≤ 16777216) (hl : 1 ≤ lvl s) (hR : ∃ rest, L ++ leafE 1 (lvl s) (trm (s.drop (lvl s))) true ++ rest = R) :
    Calls Tryd.prog 89 #[.pointer (some ⟨C, 0, none⟩), v] w (StepOK F g L (leafE 1 (lvl s) (trm (s.drop (lvl s))) true) t o w) := by
  obtain ⟨rest, hR⟩ := hR
  rw [tot_cons] at hL
  have hmf : ∀ (fn : Fn) (first cap : Array Value) (w : World), (Instr.makeFunc fn first cap).run Tryd.prog w = .ok (.func fn first cap) w := fun _ _ _ _ => rfl
  obtain ⟨cap, off, rfl, h1, h2, hcell⟩ := hv.line (j := 0) (s := s) rfl
  rw [Nat.add_zero] at hcell
  obtain ⟨S, hS, hSl, hSs⟩ := mk_of s
  rw [hS] at hcell
  have hlv := (lvl_le s).2 (by omega)
  have hl3 := (lvl_le s).1
  have hhd := fun W : World => heading_any S W (by omega)
  rw [hSl, ← hlv] at hhd
  have hdl : decide (0 < lvl s) = true := by simp; omega
  rw [hdl] at hhd
  obtain ⟨T, hT, hTl, hTs⟩ := mk_of (trm (s.drop (lvl s)))
  rw [hT] at hhd
  rw [← hTl] at hR ⊢
  generalize lvl s = n at *
  obtain ⟨W, hW⟩ : ∃ W, w.alloc (.cells #[.pointer (some ⟨C, 0, none⟩)] 122) = W := ⟨_, rfl⟩
  have hFW : Fresh w W := by rw [← hW]; exact (Keeps.refl _ _).alloc _
  have hz : w.heap.size < W.heap.size := by rw [← hW]; simp
  have t2 : W.heap[w.heap.size]? = some (.cells #[.pointer (some ⟨C, 0, none⟩)] 122 (0, 0)) := by rw [← hW]; exact heap_alloc_new w _
  have hlt := E.lt hF
  have hcW := hFW.cell_some hcell (fun h => h)
  have HHD := Lib.hid hhd
  have HFW := Lib.hid hFW
  have HT2 := Lib.hid t2
  have HV := Lib.hid hv
  have HF := Lib.hid hF
  have HE := Lib.hid E
  have HR := Lib.hid hR
  have HLT := Lib.hid hlt
  have H := Lib.hid h
  clear hhd hFW t2 hv hF E hR hlt h hlv hdl hT hTs hTl hS hSl hSs hcell
  go_enter Tryd.func89, Tryd.ntmps89
  go_wp2_with fail
  refine (HHD.out _).mono ?_
  rintro e w2 ⟨rfl, hk2⟩
  obtain ⟨W3, hW3⟩ : ∃ W3, w2.alloc (.cells #[.string T] 9) = W3 := ⟨_, rfl⟩
  have hk3 : Fresh W W3 := by rw [← hW3]; exact hk2.alloc _
  have hk30 : Fresh w W3 := HFW.out.tr hk3
  have t2 := hk3.heap_some HT2.out (fun h => h)
  have t6 : W3.heap[w2.heap.size]? = some (.cells #[.string T] 9 (0, 0)) := by rw [← hW3]; exact heap_alloc_new w2 _
  have hz2 := hk2.size
  have hz3 : w2.heap.size < W3.heap.size := by rw [← hW3]; simp
  have c2 : W3.cell? ⟨w.heap.size, 0, none⟩ = some (.pointer (some ⟨C, 0, none⟩)) := by rw [Lib.cell_of_heap t2]; rfl
  have n2 : ¬ o w.heap.size := fun h => by have := HLT.out _ h; omega
  have n6 : ¬ o w2.heap.size := fun h => by have := HLT.out _ h; omega
  have hfd := H.out.fresh hk30
  have hdo : ∀ (w1 : World) (o1 : Nat → Prop), F w1 (L ++ [((⟨1, false, n, []⟩, false) : EvL)]) o1 → Mv o o1 W3 w1 → Calls Tryd.prog 114 #[.pointer (some ⟨w.heap.size, 0, none⟩), .pointer (some ⟨w2.heap.size, 0, none⟩)] w1 (DoOK F (fun _ => False) (fun _ _ => True) (L ++ [((⟨1, false, n, []⟩, false) : EvL)]) (txE T.data.toList true) w1 o1) := fun w1 o1 hF1 hm1 =>
    heading1_any HE.out C d w.heap.size w2.heap.size T w1 _ o1 (hm1.heap hfd hC) hF1 ⟨_, by rw [← HR.out]; unfold leafE; simp only [List.append_assoc, List.cons_append, List.nil_append]; rfl⟩ (hm1.heap t2 n2) (hm1.heap t6 n6)
  have hwi := within_any HE.out (fun _ => False) (fun _ _ => True) C d ⟨1, false, n, []⟩ 114 #[.pointer (some ⟨w.heap.size, 0, none⟩), .pointer (some ⟨w2.heap.size, 0, none⟩)] (txE T.data.toList true) W3 L o hfd (HE.out.fresh HF.out hk30) hC (fun _ h => h.elim) ⟨rest, by rw [← HR.out]; simp [leafE]⟩ (enters_of Tryd.func114 (by kernel_rfl) rfl) hdo
  unfold evV fnV at hwi
  have hv3 := HV.out.fresh hk30
  have HWI := Lib.hid hwi
  have HV3 := Lib.hid hv3
  have HK3 := Lib.hid hk30
  clear hwi hdo hk2 hk3 hk30 t2 t6 hfd hv3 hW
  go_wp2_with fail
  refine HWI.out.mono ?_
  rintro e w4 ⟨rfl, _, _, o', -, -, hF4, hm4⟩
  have hm5 : Mv o o' w w4 := (Mv.fresh HK3.out).trans hm4.none
  have hv40 : LnAt w4 g _ (s :: t) := HV3.out.mv hm4.none (fun _ => hg.1)
  have hv4 := hv40.cutv 1 (by simp) (m := t.length) (by simp)
  have HM5 := Lib.hid hm5
  clear hm4 hv40 hm5 hW3
  by_cases hcap : cap = 1
  · subst hcap
    rw [if_pos rfl] at hv4
    have HV4 := Lib.hid hv4
    clear hv4
    go_wp2
    go_ret
    exact ⟨_, o', rfl, HV4.out, hF4, HM5.out⟩
  · rw [if_neg hcap] at hv4
    have HV4 := Lib.hid hv4
    clear hv4
    go_wp2
    go_ret
    exact ⟨_, o', rfl, HV4.out, hF4, HM5.out⟩
end
end Go.Proofs.YtbioecifiogffaaDoor
