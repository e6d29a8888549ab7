/- Texts of this proof, joined: Src, Read, Errs, All, ErrsAs, Of, Laid, Gather, OfW. Conditions: as each theorem names them. -/
import Derived.Test.YtbioecifiogffabGreatDoorR1
import Derived.Test.YtbioecifiogffabGreatDoorRows
import Derived.Deep.Draws
import Derived.BigQuiet
import Derived.Deep.QuietTactic
import Derived.Deep.RegionHeld3
import Derived.Deep.DeepCutAuto
import Derived.LaidEql
import Derived.Stop.Asserts
import Derived.RowKitTokens
import Derived.Deep.RegionWith
import Derived.ProofKit
import Derived.LaidMore
import Derived.OpenShut
import Derived.Stop.LaidErr
import Derived.Deep.DeepHandedRow
import Derived.Deep.DeepWitnessRowRef
set_option linter.unusedVariables false
set_option linter.unusedSimpArgs false
set_option maxHeartbeats 8000000
set_option maxRecDepth 1000000
namespace Go.Proofs.YtbioecifiogffabGreatDoor
open Go.RowKit
def SrcAt (w : World) (b g : Nat) (rest : ByteArray) (cuts : List Int) (fa : Int) (wt : Bool) (reads : Nat) (over : Bool) : Prop :=
 ∃ ao cap, w.heap[b]? = some (.cells #[.string rest, .slice ao cuts.length cap, .int .i64 fa, .bool wt, .int .i64 reads, .bool over] 59 (0, 0)) ∧
  cuts.length ≤ cap ∧ (ao = none → cuts = [] ∧ cap = 0) ∧ (cuts ≠ [] → ∃ off, ao = some ⟨g, off, none⟩ ∧ ∀ j, j < cuts.length → w.cell? ⟨g, off + j, none⟩ = some (.int .i64 (cuts.getD j 0))) ∧ g ≠ b
theorem SrcAt.kept {D : Nat → Prop} {w w' : World} {b g : Nat} {rest : ByteArray} {cuts : List Int} {fa : Int} {wt : Bool} {reads : Nat} {over : Bool} (h : SrcAt w b g rest cuts fa wt reads over) (hk : Keeps D w w') (hb : ¬ D b) (hg : ¬ D g) : SrcAt w' b g rest cuts fa wt reads over := by
 obtain ⟨ao, cap, h1, h2, h3, h4, h5⟩ := h
 refine ⟨ao, cap, hk.heap_some h1 hb, h2, h3, fun hne => ?_, h5⟩
 obtain ⟨off, rfl, hcell⟩ := h4 hne
 exact ⟨off, rfl, fun j hj => hk.cell_some (hcell j hj) hg⟩
theorem SrcAt.lt {w : World} {b g : Nat} {rest : ByteArray} {cuts : List Int} {fa : Int} {wt : Bool} {reads : Nat} {over : Bool} (h : SrcAt w b g rest cuts fa wt reads over) : b < w.heap.size := by
 obtain ⟨ao, cap, h1, _⟩ := h
 exact (Array.getElem?_eq_some_iff.1 h1).1
theorem Tryz.infoInt : (Tryz.prog.info? 3).map (fun i => (i.zero, i.size, i.bytes)) = some (some (.int .i64 0), 1, 8) := by kernel_rfl
theorem cell_alloc_drew (X : World) (o : Obj) (p : Addr) (h : p.block < X.heap.size) : ((X.alloc o).drew).cell? p = X.cell? p := World.cell?_alloc_lt X o p h
theorem source_any (s : ByteArray) (v : Value) (cs : List Int) (fa : Int) (wt : Bool) (w : World) (hv : IntsAt w v cs) (hl : cs.length ≤ 1048576) :
 Calls Tryz.prog 12 #[.agg #[.string s, v, .int .i64 fa, .bool wt]] w fun e w' =>
  ∃ b g, e = .returned (.pointer (some ⟨b, 0, none⟩)) ∧ SrcAt w' b g s cs fa wt 0 false ∧ Fresh w w' ∧ w.heap.size ≤ b ∧ w.heap.size ≤ g ∧ g < w'.heap.size := by
 obtain ⟨i0, hi, hz0, hz1, hz2⟩ := info_parts Tryz.infoInt
 obtain ⟨ao, cap, rfl, h1, h2, h3⟩ := hv
 go_enter Tryz.func12, Tryz.ntmps12
 go_wp2_with fail
 obtain ⟨W, hW⟩ : ∃ W, W = w.alloc (.cells #[.string s, .slice ao cs.length cap, .int .i64 fa, .bool wt] 30) := ⟨_, rfl⟩
 rw [← hW]
 have c0 : W.cell? ⟨w.heap.size, 0, none⟩ = some (.string s) := by rw [hW]; simp
 have c1 : W.cell? ⟨w.heap.size, 1, none⟩ = some (.slice ao cs.length cap) := by rw [hW]; simp
 have c2 : W.cell? ⟨w.heap.size, 2, none⟩ = some (.int .i64 fa) := by rw [hW]; simp
 have c3 : W.cell? ⟨w.heap.size, 3, none⟩ = some (.bool wt) := by rw [hW]; simp
 have hF : Fresh w W := by rw [hW]; exact (Keeps.refl _ w).alloc _
 have hsize : W.heap.size = w.heap.size + 1 := by rw [hW]; simp
 have hcl : w.heap.size < W.heap.size := by omega
 have HC : Hid (∀ ad, ao = some ad → ∀ j u, (cs.map (Value.int .i64))[j]? = some u → W.cell? (ad.add j) = some u) := by
  intro ad had j u hu
  have hj : j < cs.length := by have := (List.getElem?_eq_some_iff.1 hu).1; simpa using this
  obtain ⟨b, off, rfl, hc⟩ := h3 (by intro e; rw [e] at hj; simp at hj)
  cases had
  rw [Addr.add_lit]
  refine hF.cell_some ((hc j hj).trans ?_) (fun h => h)
  simp [hj] at hu ⊢
  exact hu
 have HC2 : Hid (∀ X : World, (∀ p : Addr, p.block < W.heap.size → X.cell? p = W.cell? p) → ∀ ad, ao = some ad → ∀ j u, (cs.map (Value.int .i64))[j]? = some u → X.cell? (ad.add j) = some u) := by
  intro X hX ad had j u hu
  have h := HC.out ad had j u hu
  exact (hX _ (World.block_lt_of_cell? W _ h)).trans h
 have HN : Hid (ao = none → cs.length = 0 ∧ cap = 0) := fun h => by obtain ⟨rfl, rfl⟩ := h2 h; exact ⟨rfl, rfl⟩
 have HS := Lib.hid hsize
 have HK := Lib.hid hF
 clear hW h3 h2 hF hsize
 have hrow0 : ∀ (X : World), RowIs (X.alloc (.cells #[] 3)) (.slice (some ⟨X.heap.size, 0, none⟩) 0 0) X.heap.size 3 1 0 [] := fun X =>
  ⟨World.ownsRow_made (base := 0) X #[] 0 (Nat.zero_le _) (Nat.zero_le _) (by simp), fun k h => by simp [Value.ownBlock] at h; exact h.symm⟩
 have HR := Lib.hid hrow0
 clear hrow0
 go_region_held3 (fun w' => w'.cell? ⟨w.heap.size, 0, none⟩ = some (.string s) ∧ w'.cell? ⟨w.heap.size, 1, none⟩ = some (.slice ao cs.length cap) ∧ w'.cell? ⟨w.heap.size, 2, none⟩ = some (.int .i64 fa) ∧ w'.cell? ⟨w.heap.size, 3, none⟩ = some (.bool wt))
  (first | go_keep | (go_split_ands; refine ⟨?_, ?_, ?_, ?_⟩ <;> (refine hkp.cell_some ?_ (by simp [Value.ownBlock]; omega); assumption)))
  ((refine step_append_row _ (by rfl) _ _ 28 (by rfl) 3 i0 (.int .i64 0) 1 8 Tryz.underlying28 hi hz0 hz1 hz2 rfl (by decide) (.slice (some ⟨W.heap.size, 0, none⟩) 0 0) W.heap.size 0 [] (by rfl) (HR.out _) ao cs.length cap (cs.map (Value.int .i64)) (by rfl) (by simp) HN.out
      (HC2.out _ (fun p hp => by first | exact World.cell?_alloc_lt _ _ p hp | exact cell_alloc_drew _ _ p hp)) (ints_oneCell _ _) (by unfold maxLen; omega) (by omega) ?_; intro pp cc gg w1 hrow hgat hkp))
 have hsz := hkp.size
 have hrow' : RowIs w1 (.slice pp cs.length cc) gg 3 1 cs.length (cs.map (Value.int .i64)) := by simpa using hrow
 obtain ⟨hcap, hnn⟩ := hrow'.facts
 have hF1 : Fresh w w1 := (HK.out.alloc _).drew.trans hkp (fun j h1 h2 => by
   simp [Value.ownBlock] at h2
   have := HS.out
   omega)
 have hgw : w.heap.size ≤ gg := by
  have := HS.out
  rcases hgat with h | h
  ·omega
  ·rw [h]; simp; omega
 have hgb : gg ≠ w1.heap.size ∨ cs = [] := by
  cases cs with
  | nil => exact .inr rfl
  | cons c r => exact .inl (Nat.ne_of_lt (hrow'.lt (by simp)).1)
 have hst : ∃ g, SrcAt (w1.alloc (.cells #[.string s, .slice pp cs.length cc, .int .i64 fa, .bool wt, .int .i64 0, .bool false] 59)) w1.heap.size g s cs fa wt 0 false ∧ w.heap.size ≤ g ∧ g < w1.heap.size + 1 := by
  have hw1 : w.heap.size < w1.heap.size := by
   have := HS.out
   simp at hsz
   omega
  refine ⟨if cs = [] then w.heap.size else gg, ⟨pp, cc, heap_alloc_new w1 _, hcap, fun e => ?_, fun hne => ?_, ?_⟩, ?_⟩
  ·obtain ⟨h0, h1⟩ := hnn e
   exact ⟨List.eq_nil_of_length_eq_zero h0, h1⟩
  ·have hp : 0 < cs.length := List.length_pos_iff.2 hne
   obtain ⟨hg1, rfl, _⟩ := hrow'.lt hp
   rw [if_neg hne]
   refine ⟨0, rfl, fun j hj => ?_⟩
   rw [World.cell?_alloc_lt _ _ _ hg1, Nat.zero_add, hrow'.cellAt hp j (by simpa using hj)]
   simp [hj]
  ·by_cases hne : cs = []
   ·rw [if_pos hne]; omega
   ·rw [if_neg hne]
    rcases hgb with h | h
    ·exact h
    ·exact absurd h hne
  ·by_cases hne : cs = []
   ·rw [if_pos hne]; omega
   ·rw [if_neg hne]
    have hp : 0 < cs.length := List.length_pos_iff.2 hne
    have := (hrow'.lt hp).1
    exact ⟨hgw, by omega⟩
 have hsz2 : w.heap.size ≤ w1.heap.size := hF1.size
 have HST := Lib.hid hst
 have HF1 := Lib.hid hF1
 clear hst hF1 hgb hgw hnn hcap hrow' hrow hgat hkp hsz c0 c1 c2 c3 hcl
 go_wp2
 go_ret
 obtain ⟨g, hs1, hs2, hs3⟩ := HST.out
 exact ⟨w1.heap.size, g, rfl, hs1, HF1.out.alloc _, hsz2, hs2, by simpa using hs3⟩
end Go.Proofs.YtbioecifiogffabGreatDoor
namespace Go.Proofs.YtbioecifiogffabGreatDoor
open Go.RowKit
theorem heap_set {w : World} {b i : Nat} {c : Array Value} {t : TypeId} {fr : Nat × Nat} (h : w.heap[b]? = some (.cells c t fr)) (v : Value) : (w.setCell ⟨b, i, none⟩ v).heap[b]? = some (.cells (c.setIfInBounds i v) t fr) := by
 simp [World.setCell, Array.getElem?_modify, h]
theorem SrcAt.parts {w : World} {b g : Nat} {rest : ByteArray} {cuts : List Int} {fa : Int} {wt : Bool} {reads : Nat} {over : Bool} (h : SrcAt w b g rest cuts fa wt reads over) :
 ∃ ao cap, w.heap[b]? = some (.cells #[.string rest, .slice ao cuts.length cap, .int .i64 fa, .bool wt, .int .i64 reads, .bool over] 59 (0, 0)) ∧
  (w.cell? ⟨b, 0, none⟩ = some (.string rest) ∧ w.cell? ⟨b, 1, none⟩ = some (.slice ao cuts.length cap) ∧ w.cell? ⟨b, 2, none⟩ = some (.int .i64 fa) ∧ w.cell? ⟨b, 3, none⟩ = some (.bool wt) ∧ w.cell? ⟨b, 4, none⟩ = some (.int .i64 reads) ∧ w.cell? ⟨b, 5, none⟩ = some (.bool over)) ∧
  (∀ i, w.frozen? ⟨b, i, none⟩ = false) ∧
  cuts.length ≤ cap ∧ (ao = none → cuts = [] ∧ cap = 0) ∧ (cuts ≠ [] → ∃ off, ao = some ⟨g, off, none⟩ ∧ ∀ j, j < cuts.length → w.cell? ⟨g, off + j, none⟩ = some (.int .i64 (cuts.getD j 0))) ∧ g ≠ b := by
 obtain ⟨ao, cap, h1, h2, h3, h4, h5⟩ := h
 refine ⟨ao, cap, h1, ⟨?_, ?_, ?_, ?_, ?_, ?_⟩, fun i => Lib.frozen_of_heap h1 i, h2, h3, h4, h5⟩
 all_goals (rw [Lib.cell_of_heap h1]; rfl)
theorem Read_fail (b g : Nat) (rest : ByteArray) (cuts : List Int) (fa : Int) (wt : Bool) (reads : Nat) (over : Bool) (w : World) (h : SrcAt w b g rest cuts fa wt reads over) (hr : reads ≤ 4194304) (hf : (reads : Int) + 1 = fa) :
 Calls Tryz.prog 170 #[.pointer (some ⟨b, 0, none⟩)] w fun e w' =>
  (∃ lost, e = .returned (.tuple #[.string lost, .bool wt, .iface 82 (.pointer (some ⟨w.heap.size, 0, none⟩))])) ∧
  w'.heap[w.heap.size]? = some (.cells #[.int .i64 ((reads : Int) + 1)] 255 (0, 0)) ∧ SrcAt w' b g rest cuts fa wt (reads + 1) over ∧ Keeps (fun k => k = b) w w' := by
 obtain ⟨ao, cap, hb, ⟨c0, c1, c2, c3, c4, c5⟩, hfr, h2, h3, h4, h5⟩ := h.parts
 have hbl := h.lt
 subst hf
 have f4 := hfr 4
 have e1 : ((reads : Int) + 1 == (reads : Int) + 1) = true := by simp
 have HB := Lib.hid hb
 have H2 := Lib.hid h2
 have H3 := Lib.hid h3
 have H4 := Lib.hid h4
 have H5 := Lib.hid h5
 clear hb h2 h3 h4 h5 hfr h
 go_enter Tryz.func170, Tryz.ntmps170
 go_wp2_with fail
 go_quiet (fail)
 go_wp2_with fail
 obtain ⟨X, hX⟩ : ∃ X, X = (w.setCell ⟨b, 4, none⟩ (.int .i64 ((reads : Int) + 1))).drewN nq := ⟨_, rfl⟩
 rw [← hX]
 have hXb : X.heap[b]? = some (.cells (#[.string rest, .slice ao cuts.length cap, .int .i64 ((reads : Int) + 1), .bool wt, .int .i64 reads, .bool over].setIfInBounds 4 (.int .i64 ((reads : Int) + 1))) 59 (0, 0)) := by
  rw [hX]; exact heap_set HB.out _
 have d3 : X.cell? ⟨b, 3, none⟩ = some (.bool wt) := by rw [Lib.cell_of_heap hXb]; rfl
 have d4 : X.cell? ⟨b, 4, none⟩ = some (.int .i64 ((reads : Int) + 1)) := by rw [Lib.cell_of_heap hXb]; rfl
 have hXs : X.heap.size = w.heap.size := by rw [hX]; simp
 have hXk : Keeps (fun k => k = b) w X := by rw [hX]; exact ((Keeps.refl (fun k => k = b) w).setCell (p := ⟨b, 4, none⟩) (fun _ => rfl) _).drewN _
 have hXh : X.heap = (w.setCell ⟨b, 4, none⟩ (.int .i64 ((reads : Int) + 1))).heap := by rw [hX]; rfl
 have HXS := Lib.hid hXs
 have HXK := Lib.hid hXk
 have HXH := Lib.hid hXh
 clear hX hXb hXs hXk hXh c0 c1 c2 c3 c4 c5 f4
 go_region_held3 (fun w' => w'.cell? ⟨b, 3, none⟩ = some (.bool wt) ∧ w'.cell? ⟨b, 4, none⟩ = some (.int .i64 ((reads : Int) + 1))) (go_keep) (fail)
 all_goals
  go_wp2
  go_ret3
  refine ⟨⟨_, by rw [HXS.out]; rfl⟩, ?_, ?_, ?_⟩
  ·rw [show w.heap.size = X.heap.size from HXS.out.symm]
   exact heap_alloc_new _ _
  ·refine SrcAt.kept (D := fun _ => False) (w := X) ⟨ao, cap, by rw [HXH.out, heap_set HB.out]; simp, H2.out, H3.out, fun hne => ?_, H5.out⟩ (by repeat (first | exact Keeps.refl _ _ | refine Keeps.alloc ?_ _ | refine Keeps.drewN ?_ _ | refine Keeps.drew ?_)) (fun h => h) (fun h => h)
   obtain ⟨off, e0, hc⟩ := H4.out hne
   exact ⟨off, e0, fun j hj => HXK.out.cell_some (hc j hj) H5.out⟩
  ·repeat (first | exact HXK.out | refine Keeps.alloc ?_ _ | refine Keeps.drewN ?_ _ | refine Keeps.drew ?_)
theorem Read_rest (b g : Nat) (rest : ByteArray) (fa : Int) (wt : Bool) (reads : Nat) (w : World) (h : SrcAt w b g rest [] fa wt reads false) (hr : reads ≤ 4194304) (hf : ¬ (reads : Int) + 1 = fa) :
 Calls Tryz.prog 170 #[.pointer (some ⟨b, 0, none⟩)] w fun e w' =>
  e = .returned (.tuple #[.string rest, .bool (doneOf wt rest.data.toList []), .nilIface]) ∧
  SrcAt w' b g .empty [] fa wt (reads + 1) (doneOf wt rest.data.toList []) ∧ Keeps (fun k => k = b) w w' := by
 obtain ⟨ao, cap, hb, ⟨c0, c1, c2, c3, c4, c5⟩, hfr, h2, h3, h4, h5⟩ := h.parts
 have hbl := h.lt
 have f4 := hfr 4
 have f0 := hfr 0
 have f5 := hfr 5
 have e1 : ((reads : Int) + 1 == fa) = false := by rw [beq_eq_false_iff_ne]; exact hf
 have HB := Lib.hid hb
 have H2 := Lib.hid h2
 have H3 := Lib.hid h3
 have H5 := Lib.hid h5
 clear hb h2 h3 h4 h5 hfr h hf
 obtain ⟨d, hd⟩ : ∃ d, d = doneOf wt rest.data.toList [] := ⟨_, rfl⟩
 rw [← hd]
 have fin : ∀ (X : World), X.heap = (((w.setCell ⟨b, 4, none⟩ (.int .i64 ((reads : Int) + 1))).setCell ⟨b, 0, none⟩ (.string ⟨#[]⟩)).setCell ⟨b, 5, none⟩ (.bool d)).heap → X.os = w.os → X.tape = w.tape → X.output = w.output →
  SrcAt X b g .empty [] fa wt (reads + 1) d ∧ Keeps (fun k => k = b) w X := by
  intro X hX h1 h2 h3
  have hk : Keeps (fun k => k = b) w (((w.setCell ⟨b, 4, none⟩ (.int .i64 ((reads : Int) + 1))).setCell ⟨b, 0, none⟩ (.string ⟨#[]⟩)).setCell ⟨b, 5, none⟩ (.bool d)) :=
   (((Keeps.refl (fun k => k = b) w).setCell (p := ⟨b, 4, none⟩) (fun _ => rfl) _).setCell (p := ⟨b, 0, none⟩) (fun _ => rfl) _).setCell (p := ⟨b, 5, none⟩) (fun _ => rfl) _
  refine ⟨⟨ao, cap, ?_, H2.out, H3.out, fun hne => absurd rfl hne, H5.out⟩, ⟨h1, h2, h3, by rw [hX]; exact hk.size, fun k h4 h5 => by rw [hX]; exact hk.block k h4 h5⟩⟩
  rw [hX, heap_set (heap_set (heap_set HB.out _) _) _]
  simp
  rfl
 have FIN := Lib.hid fin
 clear fin
 by_cases hre : rest.data.toList = []
 ·have hb1 : rest.toList.isEmpty = true := by rw [ByteArray.toList_eq, hre]; rfl
  have hb2 : rest.toList = [] := by rw [ByteArray.toList_eq, hre]
  have hd1 : d = true := by rw [hd, hre]; simp [doneOf]
  subst hd1
  clear hd hre
  go_enter Tryz.func170, Tryz.ntmps170
  go_wp2_with fail
  go_quiet (fail)
  go_wp2_with fail
  go_quiet (fail)
  go_wp2_with fail
  go_ret3
  exact ⟨rfl, FIN.out _ rfl rfl rfl rfl⟩
 ·have hb1 : rest.toList.isEmpty = false := by rw [ByteArray.toList_eq]; simpa using hre
  have hd1 : d = wt := by rw [hd]; simp [doneOf]; intro h; exact absurd h (by simpa using hre)
  subst hd1
  clear hd hre
  go_enter Tryz.func170, Tryz.ntmps170
  go_wp2_with fail
  go_quiet (fail)
  go_wp2_with fail
  go_quiet (fail)
  go_wp2_with fail
  go_ret3
  exact ⟨rfl, FIN.out _ rfl rfl rfl rfl⟩
theorem Read_cut (b g : Nat) (rest : ByteArray) (c : Int) (cs : List Int) (fa : Int) (wt : Bool) (reads : Nat) (w : World) (h : SrcAt w b g rest (c :: cs) fa wt reads false) (hr : reads ≤ 4194304) (hs : rest.size ≤ 1048576) (hcs : cs.length ≤ 1048576)
 (hc : -9223372036854775808 ≤ c ∧ c ≤ 9223372036854775807) (hf : ¬ (reads : Int) + 1 = fa) :
 Calls Tryz.prog 170 #[.pointer (some ⟨b, 0, none⟩)] w fun e w' => ∃ (p rest' : ByteArray),
  e = .returned (.tuple #[.string p, .bool (doneOf wt rest.data.toList (c :: cs)), .nilIface]) ∧ p.data.toList = pieceOf rest.data.toList (c :: cs) ∧ rest'.data.toList = rest.data.toList.drop p.data.toList.length ∧
  SrcAt w' b g rest' cs fa wt (reads + 1) false ∧ Keeps (fun k => k = b) w w' := by
 obtain ⟨ao, cap, hb, ⟨c0, c1, c2, c3, c4, c5⟩, hfr, h2, h3, h4, h5⟩ := h.parts
 obtain ⟨off, rfl, hcell⟩ := h4 (by simp)
 have hbl := h.lt
 have f0 := hfr 0
 have f1 := hfr 1
 have f4 := hfr 4
 have g0 : w.cell? ⟨g, off, none⟩ = some (.int .i64 c) := by have := hcell 0 (by simp); simpa using this
 have g1 : ∀ v, (w.setCell ⟨b, 4, none⟩ v).cell? ⟨g, off, none⟩ = some (.int .i64 c) := fun v => ((Keeps.refl (fun k => k = b) w).setCell (p := ⟨b, 4, none⟩) (fun _ => rfl) v).cell_some g0 h5
 have e1 : ((reads : Int) + 1 == fa) = false := by rw [beq_eq_false_iff_ne]; exact hf
 simp only [List.length_cons] at c1 h2 hb hcell
 obtain ⟨m, hm⟩ : ∃ m, m = (pieceOf rest.data.toList (c :: cs)).length := ⟨_, rfl⟩
 have hlen : rest.data.toList.length = rest.size := by simp
 have hmr : m ≤ rest.size := by rw [hm, ← hlen]; exact pieceOf_le _ _
 have hple : pieceOf rest.data.toList (c :: cs) = rest.data.toList.take m := by
  rw [hm]
  simp only [pieceOf]
  split
  ·simp
  ·simp only [List.length_take]
   rw [List.take_eq_take_iff]
   simp
 have hp2 : (rest.extract 0 m).data.toList = pieceOf rest.data.toList (c :: cs) := by rw [Lib.extract_data, List.drop_zero, Nat.sub_zero]; exact hple.symm
 have hr2 : (rest.extract m rest.size).data.toList = rest.data.toList.drop (rest.extract 0 m).data.toList.length := by
  rw [hp2, ← hm, Lib.extract_data, List.take_of_length_le (by simp)]
 have hdn : doneOf wt rest.data.toList (c :: cs) = (wt && m == rest.size && cs.isEmpty) := by rw [doneOf_cons, ← hm, hlen]
 have hclm : c < 0 ∨ (rest.size : Int) < c → m = 0 := by intro hh; rw [hm]; simp only [pieceOf]; rw [if_pos (by rw [hlen]; exact hh)]; rfl
 have hncl : ¬ (c < 0 ∨ (rest.size : Int) < c) → c = m := by intro hh; rw [hm]; simp only [pieceOf]; rw [if_neg (by rw [hlen]; exact hh)]; simp; omega
 obtain ⟨ao, hao⟩ : ∃ ao, ao = (if cap = 1 then some (⟨g, off, none⟩ : Addr) else some ⟨g, off + 1, none⟩) := ⟨_, rfl⟩
 have fin : ∀ (X : World), X.heap = (((w.setCell ⟨b, 4, none⟩ (.int .i64 ((reads : Int) + 1))).setCell ⟨b, 1, none⟩ (.slice ao cs.length (cap - 1))).setCell ⟨b, 0, none⟩ (.string (rest.extract m rest.size))).heap → X.os = w.os → X.tape = w.tape → X.output = w.output →
  SrcAt X b g (rest.extract m rest.size) cs fa wt (reads + 1) false ∧ Keeps (fun k => k = b) w X := by
  intro X hX x1 x2 x3
  have hk : Keeps (fun k => k = b) w (((w.setCell ⟨b, 4, none⟩ (.int .i64 ((reads : Int) + 1))).setCell ⟨b, 1, none⟩ (.slice ao cs.length (cap - 1))).setCell ⟨b, 0, none⟩ (.string (rest.extract m rest.size))) :=
   (((Keeps.refl (fun k => k = b) w).setCell (p := ⟨b, 4, none⟩) (fun _ => rfl) _).setCell (p := ⟨b, 1, none⟩) (fun _ => rfl) _).setCell (p := ⟨b, 0, none⟩) (fun _ => rfl) _
  have hkX : Keeps (fun k => k = b) w X := ⟨x1, x2, x3, by rw [hX]; exact hk.size, fun k h4 h5 => by rw [hX]; exact hk.block k h4 h5⟩
  refine ⟨⟨ao, cap - 1, ?_, by omega, fun hn => ?_, fun hne => ?_, h5⟩, hkX⟩
  ·rw [hX, heap_set (heap_set (heap_set hb _) _) _]
   simp
  ·rw [hao] at hn
   split at hn <;> cases hn
  ·have hl : 0 < cs.length := List.length_pos_iff.2 hne
   refine ⟨off + 1, by rw [hao, if_neg (by omega)], fun j hj => ?_⟩
   refine hkX.cell_some ?_ h5
   have := hcell (j + 1) (by omega)
   rw [show off + 1 + j = off + (j + 1) by omega]
   first | (simp; done) | simpa using this
 have hslice : ∀ W : World, (Instr.slice 28 (.slice (some ⟨g, off, none⟩) (cs.length + 1) cap) (some (.int .i64 1)) none none).run Tryz.prog W = .ok (.slice ao cs.length (cap - 1)) W := by
  intro W
  rw [hao]
  have e := run_slice_l (P := Tryz.prog) W 28 (some ⟨g, off, none⟩) (cs.length + 1) cap (by kernel_rfl) .i64 1 (by omega) (by omega)
  have hs : (sizeOf (Tryz.prog.elem 28)).run Tryz.prog W = .ok 1 W := by kernel_rfl
  rw [e, hs]
  simp only [Result.andThen, sliced]
  by_cases h1 : cap = 1
  ·simp [h1]
  ·have h1' : ¬ cap = (1 : Int).toNat := by simpa using h1
   rw [if_neg h1, if_neg h1']
   simp [Addr.add]
 have FIN := Lib.hid fin
 have HBL := Lib.hid hb
 have HP2 := Lib.hid hp2
 have HR2 := Lib.hid hr2
 have HDN := Lib.hid hdn
 have HCL := Lib.hid hclm
 have HNC := Lib.hid hncl
 have HAO := Lib.hid hao
 clear fin hp2 hr2 hdn hclm hncl hple hcell h3 h4 h5 hfr h hf hb hm hlen hao
 go_enter Tryz.func170, Tryz.ntmps170
 go_wp2_with fail
 go_quiet (fail)
 go_upto_region 7 with fail
 refine name_world fun X hX => ?_
 have hXh : X.heap = ((w.setCell ⟨b, 4, none⟩ (.int .i64 ((reads : Int) + 1))).setCell ⟨b, 1, none⟩ (.slice ao cs.length (cap - 1))).heap := by rw [hX]; rfl
 have hXo : X.os = w.os ∧ X.tape = w.tape ∧ X.output = w.output := by rw [hX]; exact ⟨rfl, rfl, rfl⟩
 have hXb : X.heap[b]? = some (.cells ((#[.string rest, .slice (some ⟨g, off, none⟩) (cs.length + 1) cap, .int .i64 fa, .bool wt, .int .i64 reads, .bool false].setIfInBounds 4 (.int .i64 ((reads : Int) + 1))).setIfInBounds 1 (.slice ao cs.length (cap - 1))) 59 (0, 0)) := by
  rw [hXh]; exact heap_set (heap_set HBL.out _) _
 have d0 : X.cell? ⟨b, 0, none⟩ = some (.string rest) := by rw [Lib.cell_of_heap hXb]; rfl
 have d1 : X.cell? ⟨b, 1, none⟩ = some (.slice ao cs.length (cap - 1)) := by rw [Lib.cell_of_heap hXb]; rfl
 have d3 : X.cell? ⟨b, 3, none⟩ = some (.bool wt) := by rw [Lib.cell_of_heap hXb]; rfl
 have k0 : X.frozen? ⟨b, 0, none⟩ = false := Lib.frozen_of_heap hXb 0
 have FIN2 : Hid (SrcAt (X.setCell ⟨b, 0, none⟩ (.string (rest.extract m rest.size))) b g (rest.extract m rest.size) cs fa wt (reads + 1) false ∧ Keeps (fun k => k = b) w (X.setCell ⟨b, 0, none⟩ (.string (rest.extract m rest.size)))) := by
  refine FIN.out _ ?_ hXo.1 hXo.2.1 hXo.2.2
  exact heap_setCell_congr hXh
 clear hX hXh hXo hXb c0 c1 c2 c3 c4 c5 f0 f1 f4 g0 g1 hslice FIN
 obtain ⟨cl, hcl⟩ : ∃ cl : Bool, cl = decide (c < 0 ∨ (rest.size : Int) < c) := ⟨_, rfl⟩
 have HCB := Lib.hid hcl
 clear hcl
 go_cut [65] (fun v wx => v = .bool cl ∧ X = wx)
 case first =>
  by_cases hc0 : c < 0
  ·go_wp2
   go_meet
   exact ⟨by rw [show cl = _ from HCB.out]; simp [hc0], rfl⟩
  ·by_cases hc1 : (rest.size : Int) < c
   ·go_wp2
    go_meet
    exact ⟨by rw [show cl = _ from HCB.out]; simp [hc1], rfl⟩
   ·go_wp2
    go_meet
    exact ⟨by rw [show cl = _ from HCB.out]; simp [hc0, hc1], rfl⟩
 case rest =>
  obtain ⟨rfl, rfl⟩ := hcut
  go_upto_if 65 with fail
  go_cut [5] (fun v wx => v = .int .i64 m ∧ X = wx)
  case first =>
   cases cl
   ·have e3 := HNC.out (by have := HCB.out; simpa using this.symm)
    have E3 := Lib.hid e3
    clear e3
    go_wp2
    go_meet
    exact ⟨by rw [show c = m from E3.out], rfl⟩
   ·have e3 := HCL.out (by have := HCB.out; simpa using this.symm)
    have E3 := Lib.hid e3
    clear e3
    go_wp2
    go_meet
    exact ⟨by rw [show m = 0 from E3.out]; rfl, rfl⟩
  case rest =>
   obtain ⟨rfl, rfl⟩ := hcut
   go_upto_region 11 with fail
   cases wt
   ·have HDD : Hid (doneOf false rest.data.toList (c :: cs) = false) := by show _ = _; rw [HDN.out]; simp
    go_quiet (fail)
    go_wp2_with fail
    go_ret3
    exact ⟨_, _, by rw [show doneOf _ _ _ = _ from HDD.out]; rfl, HP2.out, HR2.out, FIN2.out.1.kept (Keeps.drewN (Keeps.refl (fun _ => False) _) _) (fun h => h) (fun h => h), FIN2.out.2.drewN _⟩
   ·by_cases hz : m = rest.size
    ·have q1 : (rest.extract m rest.size).toList.isEmpty = true := by rw [Lib.extract_toList]; simp [hz]
     have q4 : (rest.extract m rest.size).toList = [] := by rw [Lib.extract_toList]; simp [hz]
     by_cases hcs0 : cs.length = 0
     ·have q2 : ((cs.length : Int) == 0) = true := by rw [hcs0]; rfl
      have q3 : (cs.length == 0) = true := by rw [hcs0]; rfl
      have HDD : Hid (doneOf true rest.data.toList (c :: cs) = true) := by show _ = _; rw [HDN.out]; simp [hz, List.eq_nil_of_length_eq_zero hcs0]
      clear hz hcs0
      go_quiet (fail)
      go_wp2_with fail
      go_ret3
      exact ⟨_, _, by rw [show doneOf _ _ _ = _ from HDD.out]; rfl, HP2.out, HR2.out, FIN2.out.1.kept (Keeps.drewN (Keeps.refl (fun _ => False) _) _) (fun h => h) (fun h => h), FIN2.out.2.drewN _⟩
     ·have q2 : ((cs.length : Int) == 0) = false := by rw [beq_eq_false_iff_ne]; omega
      have q3 : (cs.length == 0) = false := by rw [beq_eq_false_iff_ne]; exact hcs0
      have HDD : Hid (doneOf true rest.data.toList (c :: cs) = false) := by show _ = _; rw [HDN.out]; simp; intro _; intro e; rw [e] at hcs0; simp at hcs0
      clear hz hcs0
      go_quiet (fail)
      go_wp2_with fail
      go_ret3
      exact ⟨_, _, by rw [show doneOf _ _ _ = _ from HDD.out]; rfl, HP2.out, HR2.out, FIN2.out.1.kept (Keeps.drewN (Keeps.refl (fun _ => False) _) _) (fun h => h) (fun h => h), FIN2.out.2.drewN _⟩
    ·have q1 : (rest.extract m rest.size).toList.isEmpty = false := by rw [Lib.extract_toList]; simp; omega
     have HDD : Hid (doneOf true rest.data.toList (c :: cs) = false) := by show _ = _; rw [HDN.out]; simp [hz]
     clear hz
     go_quiet (fail)
     go_wp2_with fail
     go_ret3
     exact ⟨_, _, by rw [show doneOf _ _ _ = _ from HDD.out]; rfl, HP2.out, HR2.out, FIN2.out.1.kept (Keeps.drewN (Keeps.refl (fun _ => False) _) _) (fun h => h) (fun h => h), FIN2.out.2.drewN _⟩
end Go.Proofs.YtbioecifiogffabGreatDoor
namespace Go.Proofs.YtbioecifiogffabGreatDoor
open Go.RowKit Go.Extern.Stop Go.Stop Go.Extern
theorem Tryz.valueOfT (t : Addr) (w : World) : (ReflectliteValue.unpack (.iface 85 (.pointer (some t)))).run Tryz.prog w
 = .ok (.agg #[.pointer (some ⟨10, 85, none⟩), .pointer (some ⟨w.heap.size, 0, none⟩), .int .u64 150]) (w.alloc (.cells #[.pointer (some t)] 85)) := by kernel_rfl
theorem Tryz.typeT (a : Addr) (w : World) : (ReflectliteValue.methodAny (ReflectliteValue.valueError "reflectlite.Value.Type" 0) (fun t _ _ _ => ReflectliteType.toType t) #[.agg #[.pointer (some ⟨10, 85, none⟩), .pointer (some a), .int .u64 150]]).run Tryz.prog w
 = .ok (.iface 143 (.agg #[.pointer (some ⟨10, 85, none⟩)])) w := by kernel_rfl
theorem Tryz.methodKind (h : Value) (w : World) : (Go.method 372 143 (.agg #[h]) "Kind").run Tryz.prog w = .ok (166, h) w := by kernel_rfl
theorem Tryz.kindT (w : World) : ((ReflectliteType.abiMethod fun t => (fun a : Nat => Value.int IntKind.u8 (a : Int)) <$> Rtype.kind t) #[.pointer (some ⟨10, 85, none⟩)]).run Tryz.prog w = .ok (.int .u8 22) w := by kernel_rfl
theorem Tryz.kindO (w : World) : ((ReflectliteType.abiMethod fun t => (fun a : Nat => Value.int IntKind.u8 (a : Int)) <$> Rtype.kind t) #[.pointer (some ⟨10, 82, none⟩)]).run Tryz.prog w = .ok (.int .u8 22) w := by kernel_rfl
theorem rlm (z : Sem Value) (f : TypeId → Addr → Nat → Nat → Sem Value) (v : Value) :
 ReflectliteValue.method z f #[v] = (do match ← ReflectliteValue.parts v with | none => z | some (t, a, fl) => f t a fl (fl % 32)) := rfl
theorem Tryz.partsT (a : Addr) (w : World) : (ReflectliteValue.parts (.agg #[.pointer (some ⟨10, 85, none⟩), .pointer (some a), .int .u64 150])).run Tryz.prog w = .ok (some (85, a, 150)) w := by kernel_rfl
theorem Tryz.isNilT (a p : Addr) (W : World) (ha : W.cell? a = some (.pointer (some p))) :
 (ReflectliteValue.method (ReflectliteValue.valueError "reflectlite.Value.IsNil" 0) ReflectliteValue.isNil #[.agg #[.pointer (some ⟨10, 85, none⟩), .pointer (some a), .int .u64 150]]).run Tryz.prog W = .ok (.bool false) W := by
 rw [rlm]
 simp only [Sem.run_bind, Tryz.partsT, Result.andThen]
 simp [ReflectliteValue.isNil, loadVar, isAgg, underlying, Tryz.underlying85, ha, Result.andThen]
theorem Tryz.methodElem (h : Value) (w : World) : (Go.method 372 143 (.agg #[h]) "Elem").run Tryz.prog w = .ok (184, .agg #[h]) w := by kernel_rfl
theorem Tryz.methodImplements (h : Value) (w : World) : (Go.method 372 143 (.agg #[h]) "Implements").run Tryz.prog w = .ok (185, .agg #[h]) w := by kernel_rfl
theorem Tryz.methodAssignableTo (h : Value) (w : World) : (Go.method 372 143 (.agg #[h]) "AssignableTo").run Tryz.prog w = .ok (182, .agg #[h]) w := by kernel_rfl
theorem Tryz.methodComparable (h : Value) (w : World) : (Go.method 372 143 (.agg #[h]) "Comparable").run Tryz.prog w = .ok (183, .agg #[h]) w := by kernel_rfl
theorem Tryz.elemT (w : World) : (ReflectliteType.method ReflectliteType.elem #[.agg #[.pointer (some ⟨10, 85, none⟩)]]).run Tryz.prog w = .ok (.iface 143 (.agg #[.pointer (some ⟨10, 82, none⟩)])) w := by kernel_rfl
theorem Tryz.implementsO (w : World) : (ReflectliteType.relation "Implements" ReflectliteType.implements_ #[.agg #[.pointer (some ⟨10, 82, none⟩)], .iface 143 (.agg #[.pointer (some ⟨10, 54, none⟩)])]).run Tryz.prog w = .ok (.bool true) w := by kernel_rfl
theorem Tryz.typeOfO (v : Value) (w : World) : (ReflectliteType.typeOf #[.iface 82 v]).run Tryz.prog w = .ok (.iface 143 (.agg #[.pointer (some ⟨10, 82, none⟩)])) w := by kernel_rfl
theorem Tryz.assignableO (w : World) : (ReflectliteType.relation "AssignableTo" ReflectliteType.assignableTo #[.agg #[.pointer (some ⟨10, 82, none⟩)], .iface 143 (.agg #[.pointer (some ⟨10, 82, none⟩)])]).run Tryz.prog w = .ok (.bool true) w := by kernel_rfl
theorem Tryz.typeOfR (v : Value) (w : World) : (ReflectliteType.typeOf #[.iface 83 v]).run Tryz.prog w = .ok (.iface 143 (.agg #[.pointer (some ⟨10, 83, none⟩)])) w := by kernel_rfl
theorem Tryz.assignableR (w : World) : (ReflectliteType.relation "AssignableTo" ReflectliteType.assignableTo #[.agg #[.pointer (some ⟨10, 83, none⟩)], .iface 143 (.agg #[.pointer (some ⟨10, 82, none⟩)])]).run Tryz.prog w = .ok (.bool false) w := by kernel_rfl
theorem Tryz.typeOfW (v : Value) (w : World) : (ReflectliteType.typeOf #[.iface 90 v]).run Tryz.prog w = .ok (.iface 143 (.agg #[.pointer (some ⟨10, 90, none⟩)])) w := by kernel_rfl
theorem Tryz.assignableW (w : World) : (ReflectliteType.relation "AssignableTo" ReflectliteType.assignableTo #[.agg #[.pointer (some ⟨10, 90, none⟩)], .iface 143 (.agg #[.pointer (some ⟨10, 82, none⟩)])]).run Tryz.prog w = .ok (.bool false) w := by kernel_rfl
theorem Tryz.typeOfS (v : Value) (w : World) : (ReflectliteType.typeOf #[.iface 241 v]).run Tryz.prog w = .ok (.iface 143 (.agg #[.pointer (some ⟨10, 241, none⟩)])) w := by kernel_rfl
theorem Tryz.assignableS (w : World) : (ReflectliteType.relation "AssignableTo" ReflectliteType.assignableTo #[.agg #[.pointer (some ⟨10, 241, none⟩)], .iface 143 (.agg #[.pointer (some ⟨10, 82, none⟩)])]).run Tryz.prog w = .ok (.bool false) w := by kernel_rfl
theorem Tryz.valueOfO (e : Addr) (w : World) : (ReflectliteValue.unpack (.iface 82 (.pointer (some e)))).run Tryz.prog w
 = .ok (.agg #[.pointer (some ⟨10, 82, none⟩), .pointer (some ⟨w.heap.size, 0, none⟩), .int .u64 150]) (w.alloc (.cells #[.pointer (some e)] 82)) := by kernel_rfl
theorem Tryz.elemOfT (w : World) : (Rtype.elem? 85).run Tryz.prog w = .ok (some 82) w := by kernel_rfl
theorem Tryz.mkO (p : Addr) (w : World) : (ReflectliteValue.mk 82 p ReflectliteValue.flagAddr).run Tryz.prog w = .ok (.agg #[.pointer (some ⟨10, 82, none⟩), .pointer (some p), .int .u64 406]) w := by kernel_rfl
theorem Tryz.elemVT (a p : Addr) (W : World) (ha : W.cell? a = some (.pointer (some p))) :
 (ReflectliteValue.method (ReflectliteValue.valueError "reflectlite.Value.Elem" 0) ReflectliteValue.elem #[.agg #[.pointer (some ⟨10, 85, none⟩), .pointer (some a), .int .u64 150]]).run Tryz.prog W
  = .ok (.agg #[.pointer (some ⟨10, 82, none⟩), .pointer (some p), .int .u64 406]) W := by
 rw [rlm]
 simp only [Sem.run_bind, Tryz.partsT, Result.andThen]
 simp [ReflectliteValue.elem, loadVar, isAgg, underlying, Tryz.underlying85, ha, Result.andThen, Tryz.elemOfT, Tryz.mkO]
theorem rls (v x : Value) : ReflectliteValue.set #[v, x] = (do
    let (some (dst, a, fl), some (src, b, _)) := (← ReflectliteValue.parts v, ← ReflectliteValue.parts x)
     | unsupported (.noEntry "extern/(internal/reflectlite.Value).Set.zeroValue")
    if fl / ReflectliteValue.flagAddr % 2 == 0 then unsupported (.noEntry "extern/(internal/reflectlite.Value).Set.unaddressable")
    let val ← loadVar src b
    if ← Rtype.directlyAssignable dst src then storeVar dst a val
    else if ← Rtype.implements dst src then
     if (← Rtype.kind src) == 20 then
      match val with
      | .nilIface => unsupported (.noEntry "extern/reflectlite: a nil value of one interface type handed on as a value of another")
      | _ => storeVar dst a val
     else storeVar dst a (.iface src val)
    else panicString ("reflectlite.Set: value of type " ++ (← Rtype.spelt src) ++ " is not assignable to type " ++ (← Rtype.spelt dst))
    pure (.tuple #[])) := rfl
theorem Tryz.partsOa (a : Addr) (w : World) : (ReflectliteValue.parts (.agg #[.pointer (some ⟨10, 82, none⟩), .pointer (some a), .int .u64 406])).run Tryz.prog w = .ok (some (82, a, 406)) w := by kernel_rfl
theorem Tryz.partsO (a : Addr) (w : World) : (ReflectliteValue.parts (.agg #[.pointer (some ⟨10, 82, none⟩), .pointer (some a), .int .u64 150])).run Tryz.prog w = .ok (some (82, a, 150)) w := by kernel_rfl
theorem Tryz.directO (w : World) : (Rtype.directlyAssignable 82 82).run Tryz.prog w = .ok true w := by kernel_rfl
theorem Tryz.setO (ta b e : Addr) (old : Value) (W : World) (hb : W.cell? b = some (.pointer (some e))) (ht : W.cell? ta = some old) (hf : W.frozen? ta = false) :
 (ReflectliteValue.set #[.agg #[.pointer (some ⟨10, 82, none⟩), .pointer (some ta), .int .u64 406], .agg #[.pointer (some ⟨10, 82, none⟩), .pointer (some b), .int .u64 150]]).run Tryz.prog W
  = .ok (.tuple #[]) (W.setCell ta (.pointer (some e))) := by
 rw [rls]
 simp only [Sem.run_bind, Tryz.partsOa, Tryz.partsO, Result.andThen]
 simp [ReflectliteValue.flagAddr, loadVar, isAgg, underlying, Tryz.underlying82, hb, Result.andThen, Tryz.directO, storeVar, Value.cells, storeCells, Addr.add]
 rw [run_store Tryz.prog W ta _ _ (by rfl)]
 simp [ht, hf]
theorem unwrapR (a : Nat) (er : Value) (w : World) (hc : w.cell? ⟨a, 1, none⟩ = some er) :
 Calls Tryz.prog 174 #[.pointer (some ⟨a, 0, none⟩)] w fun e w' => e = .returned er ∧ w = w' := by
 go_enter Tryz.func174, Tryz.ntmps174
 go_wp2
 go_ret
 exact ⟨rfl, rfl⟩
theorem Tryz.methodUnwrapR (p : Addr) (w : World) : (Go.method 372 83 (.pointer (some p)) "Unwrap").run Tryz.prog w = .ok (174, .pointer (some p)) w := by kernel_rfl
theorem unwrapW (a : Nat) (er : Value) (w : World) (hc : w.cell? ⟨a, 1, none⟩ = some er) :
 Calls Tryz.prog 176 #[.pointer (some ⟨a, 0, none⟩)] w fun e w' => e = .returned er ∧ w = w' := by
 go_enter Tryz.func176, Tryz.ntmps176
 go_wp2
 go_ret
 exact ⟨rfl, rfl⟩
theorem Tryz.methodUnwrapW (p : Addr) (w : World) : (Go.method 372 90 (.pointer (some p)) "Unwrap").run Tryz.prog w = .ok (176, .pointer (some p)) w := by kernel_rfl
theorem Tryz.assertAsR (v : Value) (w : World) : (Instr.typeAssert (.iface 83 v) 54 147 true).run Tryz.prog w = .ok (.tuple #[.nilIface, .bool false]) w := run_typeAssert_lacksB Tryz.underlying147 (by kernel_rfl) (by kernel_rfl) v 54 w
theorem Tryz.assertUnR (v : Value) (w : World) : (Instr.typeAssert (.iface 83 v) 54 150 true).run Tryz.prog w = .ok (.tuple #[.iface 83 v, .bool true]) w := run_typeAssert_hasB Tryz.underlying150 (by kernel_rfl) v 54 w
theorem Tryz.assertAsW (v : Value) (w : World) : (Instr.typeAssert (.iface 90 v) 54 147 true).run Tryz.prog w = .ok (.tuple #[.nilIface, .bool false]) w := run_typeAssert_lacksB Tryz.underlying147 (by kernel_rfl) (by kernel_rfl) v 54 w
theorem Tryz.assertIsW (v : Value) (w : World) : (Instr.typeAssert (.iface 90 v) 54 154 true).run Tryz.prog w = .ok (.tuple #[.nilIface, .bool false]) w := run_typeAssert_lacksB Tryz.underlying154 (by kernel_rfl) (by kernel_rfl) v 54 w
theorem Tryz.assertUnW (v : Value) (w : World) : (Instr.typeAssert (.iface 90 v) 54 150 true).run Tryz.prog w = .ok (.tuple #[.iface 90 v, .bool true]) w := run_typeAssert_hasB Tryz.underlying150 (by kernel_rfl) v 54 w
theorem Tryz.assertAsS (v : Value) (w : World) : (Instr.typeAssert (.iface 241 v) 54 147 true).run Tryz.prog w = .ok (.tuple #[.nilIface, .bool false]) w := run_typeAssert_lacksB Tryz.underlying147 (by kernel_rfl) (by kernel_rfl) v 54 w
theorem Tryz.assertUnS (v : Value) (w : World) : (Instr.typeAssert (.iface 241 v) 54 150 true).run Tryz.prog w = .ok (.tuple #[.nilIface, .bool false]) w := run_typeAssert_lacksB Tryz.underlying150 (by kernel_rfl) (by kernel_rfl) v 54 w
theorem Tryz.assertUsS (v : Value) (w : World) : (Instr.typeAssert (.iface 241 v) 54 151 true).run Tryz.prog w = .ok (.tuple #[.nilIface, .bool false]) w := run_typeAssert_lacksB Tryz.underlying151 (by kernel_rfl) (by kernel_rfl) v 54 w
end Go.Proofs.YtbioecifiogffabGreatDoor
namespace Go.Proofs.YtbioecifiogffabGreatDoor
open Go.RowKit
def ErrIs (aL aI aS : Addr) (W : World) (v : Value) (code n : Nat) : Prop :=
 (code = 0 ∧ n = 0 ∧ v = .nilIface) ∨ (code = 1 ∧ n = 0 ∧ v = .iface 241 (.pointer (some aL))) ∨ (code = 2 ∧ n = 0 ∧ v = .iface 241 (.pointer (some aI))) ∨
 (code = 3 ∧ ∃ a, v = .iface 90 (.pointer (some ⟨a, 0, none⟩)) ∧ W.heap[a]? = some (.cells #[.int .i64 n, .iface 241 (.pointer (some aS))] 91 (0, 0))) ∨
 (code = 4 ∧ ∃ a c x, v = .iface 83 (.pointer (some ⟨a, 0, none⟩)) ∧ W.heap[a]? = some (.cells #[.int .i64 n, .iface 82 (.pointer (some ⟨c, 0, none⟩))] 89 (0, 0)) ∧ W.heap[c]? = some (.cells #[.int .i64 x] 255 (0, 0))) ∨
 (code = 5 ∧ ∃ a c x, v = .iface 90 (.pointer (some ⟨a, 0, none⟩)) ∧ W.heap[a]? = some (.cells #[.int .i64 n, .iface 82 (.pointer (some ⟨c, 0, none⟩))] 91 (0, 0)) ∧ W.heap[c]? = some (.cells #[.int .i64 x] 255 (0, 0)))
theorem Read_ok (b g : Nat) (rest : ByteArray) (cuts : List Int) (fa : Int) (wt : Bool) (reads : Nat) (w : World) (h : SrcAt w b g rest cuts fa wt reads false) (hr : reads ≤ 4194304) (hs : rest.size ≤ 1048576) (hcs : cuts.length ≤ 1048576)
 (hc : ∀ x ∈ cuts, -9223372036854775808 ≤ x ∧ x ≤ 9223372036854775807) (hf : ¬ (reads : Int) + 1 = fa) :
 Calls Tryz.prog 170 #[.pointer (some ⟨b, 0, none⟩)] w fun e w' => ∃ (p rest' : ByteArray) (over : Bool),
  e = .returned (.tuple #[.string p, .bool (doneOf wt rest.data.toList cuts), .nilIface]) ∧ p.data.toList = pieceOf rest.data.toList cuts ∧ rest'.data.toList = rest.data.toList.drop p.data.toList.length ∧
  SrcAt w' b g rest' cuts.tail fa wt (reads + 1) over ∧ (doneOf wt rest.data.toList cuts = false → over = false) ∧ Keeps (fun k => k = b) w w' := by
 cases cuts with
 | nil =>
  refine (Read_rest b g rest fa wt reads w h hr hf).mono ?_
  rintro e w' ⟨rfl, h1, h2⟩
  exact ⟨rest, .empty, _, rfl, rfl, by simp, h1, fun h => h, h2⟩
 | cons c cs =>
  refine (Read_cut b g rest c cs fa wt reads w h hr hs (by simp at hcs; omega) (hc c (by simp)) hf).mono ?_
  rintro e w' ⟨p, r, rfl, h1, h2, h3, h4⟩
  exact ⟨p, r, false, rfl, h1, h2, h3, fun _ => rfl, h4⟩
theorem Tryz.methodRead (p : Addr) (w : World) : (Go.method 372 47 (.pointer (some p)) "Read").run Tryz.prog w = .ok (170, .pointer (some p)) w := by kernel_rfl
def ErrN (N : Nat) (W : World) (v : Value) : Prop := ∀ a, v = .iface 83 (.pointer (some ⟨a, 0, none⟩)) → N ≤ a ∧ ∀ c, W.cell? ⟨a, 1, none⟩ = some (.iface 82 (.pointer (some ⟨c, 0, none⟩))) → N ≤ c
theorem ErrN.nil (N : Nat) (W : World) : ErrN N W .nilIface := fun a h => by cases h
theorem ErrN.str (N : Nat) (W : World) (x : Value) : ErrN N W (.iface 241 x) := fun a h => by injection h with h _; exact absurd h (by decide)
theorem All_new (aL aI aS : Addr) (b g : Nat) (s : ByteArray) (cs : List Int) (fa : Int) (wt : Bool) (w : World) (h : SrcAt w b g s cs fa wt 0 false) (hg : g < w.heap.size) (hs : s.size ≤ 1048576) (hl : cs.length ≤ 1048576) (hw : ∀ x ∈ cs, -9223372036854775808 ≤ x ∧ x ≤ 9223372036854775807)
 (hL : w.cell? ⟨1, 0, none⟩ = some (.iface 241 (.pointer (some aL)))) (hI : w.cell? ⟨2, 0, none⟩ = some (.iface 241 (.pointer (some aI)))) (hbL : b ≠ 1) (hbI : b ≠ 2) :
 Calls Tryz.prog 41 #[.iface 47 (.pointer (some ⟨b, 0, none⟩))] w fun e w' => ∃ v,
  e = .returned (.tuple #[.string ⟨(comeL s.data.toList cs fa wt).text.toArray⟩, v]) ∧ (ErrIs aL aI aS w' v (comeL s.data.toList cs fa wt).err (comeL s.data.toList cs fa wt).n ∧ ErrN w.heap.size w' v) ∧
  w'.cell? ⟨b, 4, none⟩ = some (.int .i64 (comeL s.data.toList cs fa wt).reads) ∧ Keeps (fun k => k = b) w w' := by
 obtain ⟨T, hT⟩ : ∃ T, T = comeL s.data.toList cs fa wt := ⟨_, rfl⟩
 rw [← hT]
 have HT := Lib.hid hT
 have hbl := h.lt
 have HSR := Lib.hid h
 have HWB := Lib.hid hw
 have mR := Tryz.methodRead ⟨b, 0, none⟩
 have hLl := World.block_lt_of_cell? w _ hL
 have hIl := World.block_lt_of_cell? w _ hI
 have HL := Lib.hid hL
 have HI := Lib.hid hI
 have HBL := Lib.hid hbL
 have HBI := Lib.hid hbI
 clear hT h hw hL hI hbL hbI
 go_enter Tryz.func41, Tryz.ntmps41
 go_wp2_with fail
 go_loopw [5] (fun id wr => ∃ (k ii f gb : Nat) (rb : ByteArray) (acc : List UInt8) (cuts : List Int), id = .int .i64 ii ∧ BIs wr w.heap.size gb (Lib.byteCells acc) ∧ w.heap.size ≤ gb ∧ SrcAt wr b g rb cuts fa wt k false ∧ Keeps (fun j => j = b) w wr ∧
     comeGo fa wt f k rb.data.toList acc ii cuts = T ∧ fuelFor f rb.data.toList cuts ∧ k + f = cs.length + 2 ∧ acc.length + rb.size ≤ 1048576 ∧ ii ≤ 2 ∧ cuts.length ≤ 1048576 ∧ (∀ x ∈ cuts, -9223372036854775808 ≤ x ∧ x ≤ 9223372036854775807)) (fun _ wr => cs.length + 2 - (match wr.cell? ⟨b, 4, none⟩ with | some (.int _ n) => n.toNat | _ => 0))
 case atStart =>
  refine ⟨0, 0, cs.length + 2, w.heap.size, s, [], cs, rfl, BIs.fresh w _, Nat.le_refl _, HSR.out.kept ((Keeps.refl (fun _ => False) w).alloc _) (fun h => h) (fun h => h), (Keeps.refl _ w).alloc _, HT.out.symm, fuelFor_start _ _, by omega, by simp; omega, by omega, hl, HWB.out⟩
 case round =>
  obtain ⟨k, ii, f, gb, rb, acc, cuts, rfl, hB, hgb, hS, hK, hgo, hfu, hkf, hsz, hid, hcl, hcb⟩ := hrel
  obtain ⟨f, rfl⟩ : ∃ f', f = f' + 1 := ⟨f - 1, by have := hfu.1; omega⟩
  have hm0 : wr.cell? ⟨b, 4, none⟩ = some (.int .i64 k) := by obtain ⟨_, _, _, ⟨_, _, _, _, h4, _⟩, _⟩ := hS.parts; exact h4
  have HM0 := Lib.hid hm0
  clear hm0
  by_cases hfail : (k : Int) + 1 = fa
  ·have hres : T = ⟨[], 4, acc.length, k + 1⟩ := by rw [← hgo, comeGo_succ, if_pos hfail]
   have HR := Lib.hid hres
   have hcall := Read_fail b g rb cuts fa wt k false wr hS (by omega) hfail
   have HCA := Lib.hid hcall
   have HB := Lib.hid hB
   have HS := Lib.hid hS
   have HK := Lib.hid hK
   clear hcall hres hfail hgo hfu hB hS hK hcb
   -- FAIL
   go_wp2_with (go_at_call 170; refine HCA.out.mono ?_)
   rintro e w1 ⟨⟨lost, rfl⟩, hnew, hS1, hk1⟩
   have hB1 : BIs w1 w.heap.size gb (Lib.byteCells acc) := HB.out.kept hk1 (by omega) (fun _ => by omega)
   have hLen := Builder_Len _ gb _ _ hB1
   have hrd : w1.cell? ⟨b, 4, none⟩ = some (.int .i64 ((k + 1 : Nat) : Int)) := by obtain ⟨_, _, _, ⟨_, _, _, _, h4, _⟩, _⟩ := hS1.parts; exact h4
   have hk2 := HK.out.tr hk1
   have HK0 := Lib.hid HK.out
   have HK1s := Lib.hid hk1.size
   have hbl1 : b < w1.heap.size := hS1.lt
   have HLEN := Lib.hid hLen
   have HRD := Lib.hid hrd
   have HNEW := Lib.hid hnew
   have HK2 := Lib.hid hk2
   clear hLen hrd hnew hS1 hk1 hk2 hB1
   go_wp2_with (go_at_call 44; refine HLEN.out.mono ?_; rintro e w3 ⟨rfl, rfl⟩)
   go_ret2
   refine ⟨_, by rw [show T = _ from HR.out]; rfl, ⟨.inr (.inr (.inr (.inr (.inl ⟨by rw [show T = _ from HR.out], w1.heap.size, wr.heap.size, (k : Int) + 1, rfl, ?_, ?_⟩)))), ?_⟩, ?_, HK2.out.alloc _⟩
   ·rw [show T = _ from HR.out, heap_alloc_new]
    simp [Lib.byteCells_length]
   ·exact (Below.heap_alloc w1 _ _ (Array.getElem?_eq_some_iff.1 HNEW.out).1).trans HNEW.out
   ·have e1 := Nat.le_trans HK0.out.size HK1s.out
    intro a ha
    injection ha with _ ha
    injection ha with ha
    injection ha with ha
    injection ha with ha _ _
    subst ha
    refine ⟨e1, fun c hc => ?_⟩
    rw [Lib.cell_of_heap (heap_alloc_new w1 _)] at hc
    have hc2 : (Value.iface 82 (.pointer (some ⟨wr.heap.size, 0, none⟩))) = .iface 82 (.pointer (some ⟨c, 0, none⟩)) := by simpa using hc
    injection hc2 with _ hc2
    injection hc2 with hc2
    injection hc2 with hc2
    injection hc2 with hc2 _ _
    rw [← hc2]
    exact HK0.out.size
   ·rw [show T = _ from HR.out]
    exact (World.cell?_alloc_lt _ _ _ hbl1).trans HRD.out
  ·have hcall := Read_ok b g rb cuts fa wt k wr hS (by omega) (by omega) hcl hcb hfail
   have hsteps := hgo
   rw [comeGo_succ, if_neg hfail] at hsteps
   have hfs := @fuelFor_step _ _ _ wt hfu
   have hple := pieceOf_le rb.data.toList cuts
   have HCA := Lib.hid hcall
   have HB := Lib.hid hB
   have HS := Lib.hid hS
   have HK := Lib.hid hK
   have HSt0 := Lib.hid hsteps
   have HFs0 := Lib.hid hfs
   have HPL := Lib.hid hple
   have HCB := Lib.hid hcb
   clear hcall hfail hgo hfu hB hS hK hcb hsteps hfs hple
   go_wp2_with (go_at_call 170; refine HCA.out.mono ?_)
   rintro e w1 ⟨p, r, over, rfl, hp1, hr1, hS1, hov, hk1⟩
   have hB1 : BIs w1 w.heap.size gb (Lib.byteCells acc) := HB.out.kept hk1 (by omega) (fun _ => by omega)
   have hpsz : p.size ≤ rb.size := by
    have h1 := HPL.out
    rw [← hp1] at h1
    simpa using h1
   have hws := Builder_WriteString _ gb _ p w1 hB1 (by rw [Lib.byteCells_length]; omega)
   have hrs : acc.length + p.size + r.size ≤ acc.length + rb.size := by
    have : r.data.toList.length = rb.data.toList.length - p.data.toList.length := by rw [hr1, List.length_drop]
    simp at this
    omega
   have HSt : Hid _ := HSt0.out
   have HFs : Hid _ := HFs0.out
   rw [← hp1] at HSt HFs
   generalize doneOf wt rb.data.toList cuts = d at *
   have HWS := Lib.hid hws
   have HR1 := Lib.hid hr1
   have HS1 := Lib.hid hS1
   have HOV := Lib.hid hov
   have HK1 := Lib.hid hk1
   have HRS := Lib.hid hrs
   have hll : (acc ++ p.data.toList).length = acc.length + p.size := by simp
   have HLL := Lib.hid hll
   clear hws hp1 hr1 hS1 hov hk1 hrs hll hB1
   go_wp2_with (go_at_call 45; refine HWS.out.mono ?_)
   rintro e w2 ⟨rfl, g2, hB2, hg2, hk2⟩
   have hbl1 : b < w1.heap.size := HS1.out.lt
   have hw1s : w.heap.size ≤ w1.heap.size := Nat.le_trans HK.out.size HK1.out.size
   have hgg : w.heap.size ≤ g2 := by omega
   have hkb : Keeps (fun j => j = b) w w2 := (HK.out.tr HK1.out).trans hk2 (fun j h1 h2 => by omega)
   have hS2 : SrcAt w2 b g r cuts.tail fa wt (k + 1) over := HS1.out.kept hk2 (by omega) (by omega)
   have hrd : w2.cell? ⟨b, 4, none⟩ = some (.int .i64 ((k + 1 : Nat) : Int)) := by obtain ⟨_, _, _, ⟨_, _, _, _, h4, _⟩, _⟩ := hS2.parts; exact h4
   have hB3 : BIs w2 w.heap.size g2 (Lib.byteCells (acc ++ p.data.toList)) := by rw [Lib.byteCells_append, ← Lib.strCells_eq]; exact hB2
   have hLen : Calls Tryz.prog 44 #[.pointer (some ⟨w.heap.size, 0, none⟩)] w2 fun e w' => e = .returned (.int .i64 ((acc.length + p.size : Nat) : Int)) ∧ w2 = w' := by
    have := Builder_Len _ g2 _ _ hB3
    rw [Lib.byteCells_length, HLL.out] at this
    exact this
   have hgL : w2.cell? ⟨1, 0, none⟩ = some (.iface 241 (.pointer (some aL))) := hkb.cell_some HL.out (fun h => HBL.out h.symm)
   have hgI : w2.cell? ⟨2, 0, none⟩ = some (.iface 241 (.pointer (some aI))) := hkb.cell_some HI.out (fun h => HBI.out h.symm)
   have hne : ∀ j, j = b → j < w2.heap.size ∧ ¬ j = g2 := fun j h => by have := hk2.size; omega
   have HKB := Lib.hid hkb
   have HS2 := Lib.hid hS2
   have HRD := Lib.hid hrd
   have HB2 := Lib.hid hB3
   have HLEN := Lib.hid hLen
   have HG2 := Lib.hid hgg
   have HNE := Lib.hid hne
   clear hB2 hg2 hk2 hgg hkb hS2 hrd hB3 hLen hne
   by_cases hlong : 300 < acc.length + p.size
   ·have hres : T = ⟨[], 1, 0, k + 1⟩ := by rw [← HSt.out, if_pos (by rw [HLL.out]; exact hlong)]
    have HR := Lib.hid hres
    clear hres
    by_cases hp : p.data.toList = []
    ·have hb1 : p.toList.isEmpty = true := by rw [ByteArray.toList_eq, hp]; rfl
     have hb2 : p.toList = [] := by rw [ByteArray.toList_eq, hp]
     clear hp
     go_wp2_with (go_at_call 44; refine HLEN.out.mono ?_; rintro e w3 ⟨rfl, rfl⟩)
     go_quiet (fail)
     go_wp2_with fail
     go_ret2
     exact ⟨_, by rw [show T = _ from HR.out]; rfl, ⟨.inr (.inl ⟨by rw [show T = _ from HR.out], by rw [show T = _ from HR.out], rfl⟩), ErrN.str _ _ _⟩, by rw [show T = _ from HR.out]; exact HRD.out, HKB.out.drewN _⟩
    ·have hb1 : p.toList.isEmpty = false := by rw [ByteArray.toList_eq]; simpa using hp
     clear hp
     go_wp2_with (go_at_call 44; refine HLEN.out.mono ?_; rintro e w3 ⟨rfl, rfl⟩)
     go_quiet (fail)
     go_wp2_with fail
     go_ret2
     exact ⟨_, by rw [show T = _ from HR.out]; rfl, ⟨.inr (.inl ⟨by rw [show T = _ from HR.out], by rw [show T = _ from HR.out], rfl⟩), ErrN.str _ _ _⟩, by rw [show T = _ from HR.out]; exact HRD.out, HKB.out.drewN _⟩
   ·by_cases hp : p.data.toList = []
    ·have hb1 : p.toList.isEmpty = true := by rw [ByteArray.toList_eq, hp]; rfl
     have hb2 : p.toList = [] := by rw [ByteArray.toList_eq, hp]
     have HPE := Lib.hid hp
     clear hp
     cases d
     ·by_cases hidl : ii = 2
      ·have hres : T = ⟨[], 2, 0, k + 1⟩ := by rw [← HSt.out, if_neg (by rw [HLL.out]; exact hlong)]; simp [hidl, show p.data.toList = [] from HPE.out]
       have HR := Lib.hid hres
       subst hidl
       clear hres
       go_wp2_with (go_at_call 44; refine HLEN.out.mono ?_; rintro e w3 ⟨rfl, rfl⟩)
       go_quiet (fail)
       go_wp2_with fail
       go_ret2
       exact ⟨_, by rw [show T = _ from HR.out]; rfl, ⟨.inr (.inr (.inl ⟨by rw [show T = _ from HR.out], by rw [show T = _ from HR.out], rfl⟩)), ErrN.str _ _ _⟩, by rw [show T = _ from HR.out]; exact HRD.out, HKB.out.drewN _⟩
      ·have hff : fuelFor f (rb.data.toList.drop p.data.toList.length) cuts.tail := by
        obtain ⟨f2, e2, h2⟩ := HFs.out rfl
        have : f = f2 := by omega
        subst this
        exact h2
       have hgo2 : comeGo fa wt f (k + 1) (rb.data.toList.drop p.data.toList.length) (acc ++ p.data.toList) (ii + 1) cuts.tail = T := by
        rw [← HSt.out, if_neg (by rw [HLL.out]; exact hlong)]
        simp [show p.data.toList = [] from HPE.out, show ¬ 2 < ii + 1 by omega]
       have HGo := Lib.hid hgo2
       have HFF := Lib.hid hff
       clear hgo2 hff
       go_wp2_with (go_at_call 44; refine HLEN.out.mono ?_; rintro e w3 ⟨rfl, rfl⟩)
       go_roundw
       case rel =>
        refine ⟨k + 1, (ii + 1), f, g2, r, acc ++ p.data.toList, cuts.tail, by go_num, HB2.out, HG2.out, (HOV.out trivial) ▸ HS2.out, HKB.out, by rw [HR1.out]; exact HGo.out, by rw [HR1.out]; exact HFF.out, by omega, ?_, by omega, by simp; omega, fun x hx => HCB.out x (List.mem_of_mem_tail hx)⟩
        have h1 := HRS.out
        simp only [List.length_append]
        have h2 : p.data.toList.length = p.size := by simp
        omega
       case measure =>
        rw [HRD.out, HM0.out]
        simp
        omega
     ·have hres : T = ⟨regular ⟨(acc ++ p.data.toList).toArray⟩, 0, 0, k + 1⟩ := by
       rw [← HSt.out, if_neg (by rw [HLL.out]; exact hlong), if_neg (by simp), if_pos rfl]
      have HR := Lib.hid hres
      clear hres
      go_wp2_with (go_at_call 44; refine HLEN.out.mono ?_; rintro e w3 ⟨rfl, rfl⟩)
      refine (Builder_String _ g2 _ _ HB2.out).mono ?_
      rintro e w4 ⟨rfl, hk4⟩
      have HK4 := Lib.hid hk4
      clear hk4
      go_wp2_with fail
      have hsz5 : (⟨(acc ++ p.data.toList).toArray⟩ : ByteArray).size ≤ 1099511627776 := by
       show (acc ++ p.data.toList).toArray.size ≤ _
       have h1 := HLL.out
       rw [List.size_toArray, h1]
       omega
      refine (Regular_any _ _ hsz5).mono ?_
      rintro e w5 ⟨rfl, hf5⟩
      have HK5 := Lib.hid hf5
      clear hf5
      go_wp2_with fail
      go_ret2
      have hz : ∀ j, j = b → j < w2.heap.size ∧ ¬ j = g2 := HNE.out
      refine ⟨_, by rw [show T = _ from HR.out]; rfl, ⟨.inl ⟨by rw [show T = _ from HR.out], by rw [show T = _ from HR.out], rfl⟩, ErrN.nil _ _⟩, ?_, ?_⟩
      ·rw [show T = _ from HR.out]
       exact HK5.out.cell_some (HK4.out.cell_some HRD.out (hz b rfl).2) (fun h => h)
      ·exact (HKB.out.trans HK4.out (fun j h1 h2 => by subst h2; have := HG2.out; omega)).trans HK5.out (fun _ _ h => h.elim)
    ·have hb1 : p.toList.isEmpty = false := by rw [ByteArray.toList_eq]; simpa using hp
     have HPN := Lib.hid hp
     clear hp
     cases d
     ·have hff : fuelFor f (rb.data.toList.drop p.data.toList.length) cuts.tail := by
       obtain ⟨f2, e2, h2⟩ := HFs.out rfl
       have : f = f2 := by omega
       subst this
       exact h2
      have hgo2 : comeGo fa wt f (k + 1) (rb.data.toList.drop p.data.toList.length) (acc ++ p.data.toList) 0 cuts.tail = T := by
       rw [← HSt.out, if_neg (by rw [HLL.out]; exact hlong)]
       simp [show ¬ p.data.toList = [] from HPN.out]
      have HGo := Lib.hid hgo2
      have HFF := Lib.hid hff
      clear hgo2 hff
      go_wp2_with (go_at_call 44; refine HLEN.out.mono ?_; rintro e w3 ⟨rfl, rfl⟩)
      go_roundw
      case rel =>
       refine ⟨k + 1, 0, f, g2, r, acc ++ p.data.toList, cuts.tail, by go_num, HB2.out, HG2.out, (HOV.out trivial) ▸ HS2.out, HKB.out, by rw [HR1.out]; exact HGo.out, by rw [HR1.out]; exact HFF.out, by omega, ?_, by omega, by simp; omega, fun x hx => HCB.out x (List.mem_of_mem_tail hx)⟩
       have h1 := HRS.out
       simp only [List.length_append]
       have h2 : p.data.toList.length = p.size := by simp
       omega
      case measure =>
       rw [HRD.out, HM0.out]
       simp
       omega
     ·have hres : T = ⟨regular ⟨(acc ++ p.data.toList).toArray⟩, 0, 0, k + 1⟩ := by
       rw [← HSt.out, if_neg (by rw [HLL.out]; exact hlong), if_neg (by simp), if_pos rfl]
      have HR := Lib.hid hres
      clear hres
      go_wp2_with (go_at_call 44; refine HLEN.out.mono ?_; rintro e w3 ⟨rfl, rfl⟩)
      refine (Builder_String _ g2 _ _ HB2.out).mono ?_
      rintro e w4 ⟨rfl, hk4⟩
      have HK4 := Lib.hid hk4
      clear hk4
      go_wp2_with fail
      have hsz5 : (⟨(acc ++ p.data.toList).toArray⟩ : ByteArray).size ≤ 1099511627776 := by
       show (acc ++ p.data.toList).toArray.size ≤ _
       have h1 := HLL.out
       rw [List.size_toArray, h1]
       omega
      refine (Regular_any _ _ hsz5).mono ?_
      rintro e w5 ⟨rfl, hf5⟩
      have HK5 := Lib.hid hf5
      clear hf5
      go_wp2_with fail
      go_ret2
      have hz : ∀ j, j = b → j < w2.heap.size ∧ ¬ j = g2 := HNE.out
      refine ⟨_, by rw [show T = _ from HR.out]; rfl, ⟨.inl ⟨by rw [show T = _ from HR.out], by rw [show T = _ from HR.out], rfl⟩, ErrN.nil _ _⟩, ?_, ?_⟩
      ·rw [show T = _ from HR.out]
       exact HK5.out.cell_some (HK4.out.cell_some HRD.out (hz b rfl).2) (fun h => h)
      ·exact (HKB.out.trans HK4.out (fun j h1 h2 => by subst h2; have := HG2.out; omega)).trans HK5.out (fun _ _ h => h.elim)
end Go.Proofs.YtbioecifiogffabGreatDoor
namespace Go.Proofs.YtbioecifiogffabGreatDoor
open Go.RowKit Go.Extern.Stop Go.Stop Go.Extern
theorem as_own_R (a c : Nat) (t vb : Addr) (old : Value) (w : World) (hc : w.cell? ⟨a, 1, none⟩ = some (.iface 82 (.pointer (some ⟨c, 0, none⟩))))
 (ht : w.cell? t = some old) (hf : w.frozen? t = false) (hvb : w.cell? vb = some (.pointer (some t))) :
 Calls Tryz.prog 37 #[.iface 83 (.pointer (some ⟨a, 0, none⟩)), .iface 85 (.pointer (some t)), .agg #[.pointer (some ⟨10, 85, none⟩), .pointer (some vb), .int .u64 150], .iface 143 (.agg #[.pointer (some ⟨10, 82, none⟩)])] w
  fun ev w' => ev = .returned (.bool true) ∧ w'.cell? t = some (.pointer (some ⟨c, 0, none⟩)) ∧ Keeps (fun k => k = t.block) w w' := by
 have h10 := @run_callFunc_extern Tryz.prog 38 _ ReflectliteType.typeOf Tryz.func38 (by kernel_rfl) (by kernel_rfl) (by kernel_rfl) (by kernel_rfl)
 have h35 := @run_callFunc_extern Tryz.prog 182 _ (ReflectliteType.relation "AssignableTo" ReflectliteType.assignableTo) Tryz.func182 (by kernel_rfl) (by kernel_rfl) (by kernel_rfl) (by kernel_rfl)
 have h6 := @run_callFunc_extern Tryz.prog 34 _ (fun args => ReflectliteValue.unpack (args.getD 0 (.tuple #[]))) Tryz.func34 (by kernel_rfl) (by kernel_rfl) (by kernel_rfl) (by kernel_rfl)
 have h11 := @run_callFunc_extern Tryz.prog 52 _ (ReflectliteValue.method (ReflectliteValue.valueError "reflectlite.Value.Elem" 0) ReflectliteValue.elem) Tryz.func52 (by kernel_rfl) (by kernel_rfl) (by kernel_rfl) (by kernel_rfl)
 have h12 := @run_callFunc_extern Tryz.prog 53 _ ReflectliteValue.set Tryz.func53 (by kernel_rfl) (by kernel_rfl) (by kernel_rfl) (by kernel_rfl)
 have tO := Tryz.typeOfO
 have tR := Tryz.typeOfR
 have mA := Tryz.methodAssignableTo
 have aO := Tryz.assignableO
 have aR := Tryz.assignableR
 have vO := Tryz.valueOfO
 have mU := Tryz.methodUnwrapR ⟨a, 0, none⟩
 have sA := Tryz.assertAsR
 have sU := Tryz.assertUnR
 have hal := World.block_lt_of_cell? w _ hc
 have htl := World.block_lt_of_cell? w _ ht
 have hvl := World.block_lt_of_cell? w _ hvb
 have hc1 : ∀ o, (w.alloc o).cell? ⟨a, 1, none⟩ = some (.iface 82 (.pointer (some ⟨c, 0, none⟩))) := fun o => (World.cell?_alloc_lt _ _ _ hal).trans hc
 have el := Tryz.elemVT vb t (w.alloc (.cells #[.pointer (some ⟨10, 85, none⟩), .pointer (some vb), .int .u64 150] 108)) ((World.cell?_alloc_lt _ _ _ hvl).trans hvb)
 have ht2 : ∀ o p, ((w.alloc o).alloc p).cell? t = some old := fun o p => by rw [World.cell?_alloc_lt _ _ t (by simp; omega), World.cell?_alloc_lt _ _ t htl]; exact ht
 have st := Tryz.setO t ⟨w.heap.size + 1, 0, none⟩ ⟨c, 0, none⟩ old ((w.alloc (.cells #[.pointer (some ⟨10, 85, none⟩), .pointer (some vb), .int .u64 150] 108)).alloc (.cells #[.pointer (some ⟨c, 0, none⟩)] 82))
  (by rw [World.cell?_alloc_at _ _ _ _ (by simp)]; rfl)
  (ht2 _ _)
  (by rw [World.frozen?_alloc_old _ _ t (by simp; omega), World.frozen?_alloc_old _ _ t (Nat.ne_of_lt htl)]; exact hf)
 have HT := Lib.hid ht2
 clear hvb ht2
 go_enter Tryz.func37, Tryz.ntmps37
 go_wp2
 refine wp_loop_rounds 2 ?_
 rw [rounds_succ]
 go_wp2_with (go_at_call 174; refine (unwrapR a _ _ (hc1 _)).mono ?_; rintro e w' ⟨rfl, rfl⟩)
 rw [rounds_succ]
 go_wp2
 go_ret
 exact ⟨rfl, World.cell?_setCell_same' _ _ _ (by rw [HT.out]; rfl), (((Keeps.refl (fun k => k = t.block) w).alloc _).alloc _).setCell (p := t) (fun _ => rfl) _⟩
theorem As_own_R (a c : Nat) (t : Addr) (old : Value) (w : World) (hg : w.cell? ⟨3, 0, none⟩ = some (.iface 143 (.agg #[.pointer (some ⟨10, 54, none⟩)])))
 (hc : w.cell? ⟨a, 1, none⟩ = some (.iface 82 (.pointer (some ⟨c, 0, none⟩)))) (ht : w.cell? t = some old) (hf : w.frozen? t = false) :
 Calls Tryz.prog 25 #[.iface 83 (.pointer (some ⟨a, 0, none⟩)), .iface 85 (.pointer (some t))] w
  fun ev w' => ev = .returned (.bool true) ∧ w'.cell? t = some (.pointer (some ⟨c, 0, none⟩)) ∧ Keeps (fun k => k = t.block) w w' := by
 have h6 := @run_callFunc_extern Tryz.prog 34 _ (fun args => ReflectliteValue.unpack (args.getD 0 (.tuple #[]))) Tryz.func34 (by kernel_rfl) (by kernel_rfl) (by kernel_rfl) (by kernel_rfl)
 have h7 := @run_callFunc_extern Tryz.prog 35 _ (ReflectliteValue.methodAny (ReflectliteValue.valueError "reflectlite.Value.Type" 0) (fun t _ _ _ => ReflectliteType.toType t)) Tryz.func35 (by kernel_rfl) (by kernel_rfl) (by kernel_rfl) (by kernel_rfl)
 have h8 := @run_callFunc_extern Tryz.prog 36 _ (ReflectliteValue.method (ReflectliteValue.valueError "reflectlite.Value.IsNil" 0) ReflectliteValue.isNil) Tryz.func36 (by kernel_rfl) (by kernel_rfl) (by kernel_rfl) (by kernel_rfl)
 have h27 := @run_callFunc_extern Tryz.prog 166 _ (ReflectliteType.abiMethod fun t => do pure (.int .u8 (← Rtype.kind t))) Tryz.func166 (by kernel_rfl) (by kernel_rfl) (by kernel_rfl) (by kernel_rfl)
 have h37 := @run_callFunc_extern Tryz.prog 184 _ (ReflectliteType.method ReflectliteType.elem) Tryz.func184 (by kernel_rfl) (by kernel_rfl) (by kernel_rfl) (by kernel_rfl)
 have h38 := @run_callFunc_extern Tryz.prog 185 _ (ReflectliteType.relation "Implements" ReflectliteType.implements_) Tryz.func185 (by kernel_rfl) (by kernel_rfl) (by kernel_rfl) (by kernel_rfl)
 have f6 := Tryz.valueOfT
 have f7 := Tryz.typeT
 have mK := Tryz.methodKind
 have mE := Tryz.methodElem
 have mI := Tryz.methodImplements
 have k27 := Tryz.kindT
 have k25 := Tryz.kindO
 have e27 := Tryz.elemT
 have i25 := Tryz.implementsO
 have hal := World.block_lt_of_cell? w _ hc
 have htl := World.block_lt_of_cell? w _ ht
 have hgl := World.block_lt_of_cell? w _ hg
 have n8 := Tryz.isNilT ⟨w.heap.size, 0, none⟩ t ((w.alloc (.cells #[.pointer (some t)] 85)).alloc (.cells #[.pointer (some ⟨10, 85, none⟩), .pointer (some ⟨w.heap.size, 0, none⟩), .int .u64 150] 108)) (by simp)
 have hg2 : ∀ o p, ((w.alloc o).alloc p).cell? ⟨3, 0, none⟩ = some (.iface 143 (.agg #[.pointer (some ⟨10, 54, none⟩)])) := fun o p => by
  rw [World.cell?_alloc_lt _ _ _ (by simp; simp at hgl; omega), World.cell?_alloc_lt _ _ _ hgl]; exact hg
 have hlast := as_own_R a c t ⟨w.heap.size, 0, none⟩ old ((w.alloc (.cells #[.pointer (some t)] 85)).alloc (.cells #[.pointer (some ⟨10, 85, none⟩), .pointer (some ⟨w.heap.size, 0, none⟩), .int .u64 150] 108))
  (by rw [World.cell?_alloc_lt _ _ _ (by simp; simp at hal; omega), World.cell?_alloc_lt _ _ _ hal]; exact hc)
  (by rw [World.cell?_alloc_lt _ _ t (by simp; omega), World.cell?_alloc_lt _ _ t htl]; exact ht)
  (by rw [World.frozen?_alloc_old _ _ t (by simp; omega), World.frozen?_alloc_old _ _ t (Nat.ne_of_lt htl)]; exact hf)
  (by simp)
 have HL := Lib.hid hlast
 clear hlast ht hf hc hg
 go_enter Tryz.func25, Tryz.ntmps25
 go_wp2_with (go_at_call 37; refine HL.out.mono ?_; rintro e w' ⟨rfl, hcl, hk⟩)
 go_ret
 exact ⟨rfl, hcl, ((((Keeps.refl _ w).alloc _).alloc _).trans hk (fun _ _ h => h))⟩
theorem as_own_W (a c : Nat) (t vb : Addr) (old : Value) (w : World) (hc : w.cell? ⟨a, 1, none⟩ = some (.iface 82 (.pointer (some ⟨c, 0, none⟩))))
 (ht : w.cell? t = some old) (hf : w.frozen? t = false) (hvb : w.cell? vb = some (.pointer (some t))) :
 Calls Tryz.prog 37 #[.iface 90 (.pointer (some ⟨a, 0, none⟩)), .iface 85 (.pointer (some t)), .agg #[.pointer (some ⟨10, 85, none⟩), .pointer (some vb), .int .u64 150], .iface 143 (.agg #[.pointer (some ⟨10, 82, none⟩)])] w
  fun ev w' => ev = .returned (.bool true) ∧ w'.cell? t = some (.pointer (some ⟨c, 0, none⟩)) ∧ Keeps (fun k => k = t.block) w w' := by
 have h10 := @run_callFunc_extern Tryz.prog 38 _ ReflectliteType.typeOf Tryz.func38 (by kernel_rfl) (by kernel_rfl) (by kernel_rfl) (by kernel_rfl)
 have h35 := @run_callFunc_extern Tryz.prog 182 _ (ReflectliteType.relation "AssignableTo" ReflectliteType.assignableTo) Tryz.func182 (by kernel_rfl) (by kernel_rfl) (by kernel_rfl) (by kernel_rfl)
 have h6 := @run_callFunc_extern Tryz.prog 34 _ (fun args => ReflectliteValue.unpack (args.getD 0 (.tuple #[]))) Tryz.func34 (by kernel_rfl) (by kernel_rfl) (by kernel_rfl) (by kernel_rfl)
 have h11 := @run_callFunc_extern Tryz.prog 52 _ (ReflectliteValue.method (ReflectliteValue.valueError "reflectlite.Value.Elem" 0) ReflectliteValue.elem) Tryz.func52 (by kernel_rfl) (by kernel_rfl) (by kernel_rfl) (by kernel_rfl)
 have h12 := @run_callFunc_extern Tryz.prog 53 _ ReflectliteValue.set Tryz.func53 (by kernel_rfl) (by kernel_rfl) (by kernel_rfl) (by kernel_rfl)
 have tO := Tryz.typeOfO
 have tR := Tryz.typeOfW
 have mA := Tryz.methodAssignableTo
 have aO := Tryz.assignableO
 have aR := Tryz.assignableW
 have vO := Tryz.valueOfO
 have mU := Tryz.methodUnwrapW ⟨a, 0, none⟩
 have sA := Tryz.assertAsW
 have sU := Tryz.assertUnW
 have hal := World.block_lt_of_cell? w _ hc
 have htl := World.block_lt_of_cell? w _ ht
 have hvl := World.block_lt_of_cell? w _ hvb
 have hc1 : ∀ o, (w.alloc o).cell? ⟨a, 1, none⟩ = some (.iface 82 (.pointer (some ⟨c, 0, none⟩))) := fun o => (World.cell?_alloc_lt _ _ _ hal).trans hc
 have el := Tryz.elemVT vb t (w.alloc (.cells #[.pointer (some ⟨10, 85, none⟩), .pointer (some vb), .int .u64 150] 108)) ((World.cell?_alloc_lt _ _ _ hvl).trans hvb)
 have ht2 : ∀ o p, ((w.alloc o).alloc p).cell? t = some old := fun o p => by rw [World.cell?_alloc_lt _ _ t (by simp; omega), World.cell?_alloc_lt _ _ t htl]; exact ht
 have st := Tryz.setO t ⟨w.heap.size + 1, 0, none⟩ ⟨c, 0, none⟩ old ((w.alloc (.cells #[.pointer (some ⟨10, 85, none⟩), .pointer (some vb), .int .u64 150] 108)).alloc (.cells #[.pointer (some ⟨c, 0, none⟩)] 82))
  (by rw [World.cell?_alloc_at _ _ _ _ (by simp)]; rfl)
  (ht2 _ _)
  (by rw [World.frozen?_alloc_old _ _ t (by simp; omega), World.frozen?_alloc_old _ _ t (Nat.ne_of_lt htl)]; exact hf)
 have HT := Lib.hid ht2
 clear hvb ht2
 go_enter Tryz.func37, Tryz.ntmps37
 go_wp2
 refine wp_loop_rounds 2 ?_
 rw [rounds_succ]
 go_wp2_with (go_at_call 176; refine (unwrapW a _ _ (hc1 _)).mono ?_; rintro e w' ⟨rfl, rfl⟩)
 rw [rounds_succ]
 go_wp2
 go_ret
 exact ⟨rfl, World.cell?_setCell_same' _ _ _ (by rw [HT.out]; rfl), (((Keeps.refl (fun k => k = t.block) w).alloc _).alloc _).setCell (p := t) (fun _ => rfl) _⟩
theorem As_own_W (a c : Nat) (t : Addr) (old : Value) (w : World) (hg : w.cell? ⟨3, 0, none⟩ = some (.iface 143 (.agg #[.pointer (some ⟨10, 54, none⟩)])))
 (hc : w.cell? ⟨a, 1, none⟩ = some (.iface 82 (.pointer (some ⟨c, 0, none⟩)))) (ht : w.cell? t = some old) (hf : w.frozen? t = false) :
 Calls Tryz.prog 25 #[.iface 90 (.pointer (some ⟨a, 0, none⟩)), .iface 85 (.pointer (some t))] w
  fun ev w' => ev = .returned (.bool true) ∧ w'.cell? t = some (.pointer (some ⟨c, 0, none⟩)) ∧ Keeps (fun k => k = t.block) w w' := by
 have h6 := @run_callFunc_extern Tryz.prog 34 _ (fun args => ReflectliteValue.unpack (args.getD 0 (.tuple #[]))) Tryz.func34 (by kernel_rfl) (by kernel_rfl) (by kernel_rfl) (by kernel_rfl)
 have h7 := @run_callFunc_extern Tryz.prog 35 _ (ReflectliteValue.methodAny (ReflectliteValue.valueError "reflectlite.Value.Type" 0) (fun t _ _ _ => ReflectliteType.toType t)) Tryz.func35 (by kernel_rfl) (by kernel_rfl) (by kernel_rfl) (by kernel_rfl)
 have h8 := @run_callFunc_extern Tryz.prog 36 _ (ReflectliteValue.method (ReflectliteValue.valueError "reflectlite.Value.IsNil" 0) ReflectliteValue.isNil) Tryz.func36 (by kernel_rfl) (by kernel_rfl) (by kernel_rfl) (by kernel_rfl)
 have h27 := @run_callFunc_extern Tryz.prog 166 _ (ReflectliteType.abiMethod fun t => do pure (.int .u8 (← Rtype.kind t))) Tryz.func166 (by kernel_rfl) (by kernel_rfl) (by kernel_rfl) (by kernel_rfl)
 have h37 := @run_callFunc_extern Tryz.prog 184 _ (ReflectliteType.method ReflectliteType.elem) Tryz.func184 (by kernel_rfl) (by kernel_rfl) (by kernel_rfl) (by kernel_rfl)
 have h38 := @run_callFunc_extern Tryz.prog 185 _ (ReflectliteType.relation "Implements" ReflectliteType.implements_) Tryz.func185 (by kernel_rfl) (by kernel_rfl) (by kernel_rfl) (by kernel_rfl)
 have f6 := Tryz.valueOfT
 have f7 := Tryz.typeT
 have mK := Tryz.methodKind
 have mE := Tryz.methodElem
 have mI := Tryz.methodImplements
 have k27 := Tryz.kindT
 have k25 := Tryz.kindO
 have e27 := Tryz.elemT
 have i25 := Tryz.implementsO
 have hal := World.block_lt_of_cell? w _ hc
 have htl := World.block_lt_of_cell? w _ ht
 have hgl := World.block_lt_of_cell? w _ hg
 have n8 := Tryz.isNilT ⟨w.heap.size, 0, none⟩ t ((w.alloc (.cells #[.pointer (some t)] 85)).alloc (.cells #[.pointer (some ⟨10, 85, none⟩), .pointer (some ⟨w.heap.size, 0, none⟩), .int .u64 150] 108)) (by simp)
 have hg2 : ∀ o p, ((w.alloc o).alloc p).cell? ⟨3, 0, none⟩ = some (.iface 143 (.agg #[.pointer (some ⟨10, 54, none⟩)])) := fun o p => by
  rw [World.cell?_alloc_lt _ _ _ (by simp; simp at hgl; omega), World.cell?_alloc_lt _ _ _ hgl]; exact hg
 have hlast := as_own_W a c t ⟨w.heap.size, 0, none⟩ old ((w.alloc (.cells #[.pointer (some t)] 85)).alloc (.cells #[.pointer (some ⟨10, 85, none⟩), .pointer (some ⟨w.heap.size, 0, none⟩), .int .u64 150] 108))
  (by rw [World.cell?_alloc_lt _ _ _ (by simp; simp at hal; omega), World.cell?_alloc_lt _ _ _ hal]; exact hc)
  (by rw [World.cell?_alloc_lt _ _ t (by simp; omega), World.cell?_alloc_lt _ _ t htl]; exact ht)
  (by rw [World.frozen?_alloc_old _ _ t (by simp; omega), World.frozen?_alloc_old _ _ t (Nat.ne_of_lt htl)]; exact hf)
  (by simp)
 have HL := Lib.hid hlast
 clear hlast ht hf hc hg
 go_enter Tryz.func25, Tryz.ntmps25
 go_wp2_with (go_at_call 37; refine HL.out.mono ?_; rintro e w' ⟨rfl, hcl, hk⟩)
 go_ret
 exact ⟨rfl, hcl, ((((Keeps.refl _ w).alloc _).alloc _).trans hk (fun _ _ h => h))⟩
theorem as_no_W (a : Nat) (p : Option Addr) (t vb : Addr) (w : World) (hc : w.cell? ⟨a, 1, none⟩ = some (.iface 241 (.pointer p))) :
 Calls Tryz.prog 37 #[.iface 90 (.pointer (some ⟨a, 0, none⟩)), .iface 85 (.pointer (some t)), .agg #[.pointer (some ⟨10, 85, none⟩), .pointer (some vb), .int .u64 150], .iface 143 (.agg #[.pointer (some ⟨10, 82, none⟩)])] w
  fun ev w' => ev = .returned (.bool false) ∧ Fresh w w' := by
 have h10 := @run_callFunc_extern Tryz.prog 38 _ ReflectliteType.typeOf Tryz.func38 (by kernel_rfl) (by kernel_rfl) (by kernel_rfl) (by kernel_rfl)
 have h35 := @run_callFunc_extern Tryz.prog 182 _ (ReflectliteType.relation "AssignableTo" ReflectliteType.assignableTo) Tryz.func182 (by kernel_rfl) (by kernel_rfl) (by kernel_rfl) (by kernel_rfl)
 have tW := Tryz.typeOfW
 have tS := Tryz.typeOfS
 have mA := Tryz.methodAssignableTo
 have aS := Tryz.assignableS
 have aW := Tryz.assignableW
 have mU := Tryz.methodUnwrapW ⟨a, 0, none⟩
 have sA := Tryz.assertAsW
 have sU := Tryz.assertUnW
 have sA2 := Tryz.assertAsS
 have sU2 := Tryz.assertUnS
 have sU3 := Tryz.assertUsS
 have hal := World.block_lt_of_cell? w _ hc
 have hc1 : ∀ o, (w.alloc o).cell? ⟨a, 1, none⟩ = some (.iface 241 (.pointer p)) := fun o => (World.cell?_alloc_lt _ _ _ hal).trans hc
 go_enter Tryz.func37, Tryz.ntmps37
 go_wp2
 refine wp_loop_rounds 2 ?_
 rw [rounds_succ]
 go_wp2_with (go_at_call 176; refine (unwrapW a _ _ (hc1 _)).mono ?_; rintro e w' ⟨rfl, rfl⟩)
 rw [rounds_succ]
 go_wp2
 go_ret
 exact ⟨rfl, ((Keeps.refl _ w).alloc _)⟩
theorem As_no_W (a : Nat) (p : Option Addr) (t : Addr) (old : Value) (w : World) (hg : w.cell? ⟨3, 0, none⟩ = some (.iface 143 (.agg #[.pointer (some ⟨10, 54, none⟩)])))
 (hc : w.cell? ⟨a, 1, none⟩ = some (.iface 241 (.pointer p))) (ht : w.cell? t = some old) :
 Calls Tryz.prog 25 #[.iface 90 (.pointer (some ⟨a, 0, none⟩)), .iface 85 (.pointer (some t))] w
  fun ev w' => ev = .returned (.bool false) ∧ Fresh w w' := by
 have h6 := @run_callFunc_extern Tryz.prog 34 _ (fun args => ReflectliteValue.unpack (args.getD 0 (.tuple #[]))) Tryz.func34 (by kernel_rfl) (by kernel_rfl) (by kernel_rfl) (by kernel_rfl)
 have h7 := @run_callFunc_extern Tryz.prog 35 _ (ReflectliteValue.methodAny (ReflectliteValue.valueError "reflectlite.Value.Type" 0) (fun t _ _ _ => ReflectliteType.toType t)) Tryz.func35 (by kernel_rfl) (by kernel_rfl) (by kernel_rfl) (by kernel_rfl)
 have h8 := @run_callFunc_extern Tryz.prog 36 _ (ReflectliteValue.method (ReflectliteValue.valueError "reflectlite.Value.IsNil" 0) ReflectliteValue.isNil) Tryz.func36 (by kernel_rfl) (by kernel_rfl) (by kernel_rfl) (by kernel_rfl)
 have h27 := @run_callFunc_extern Tryz.prog 166 _ (ReflectliteType.abiMethod fun t => do pure (.int .u8 (← Rtype.kind t))) Tryz.func166 (by kernel_rfl) (by kernel_rfl) (by kernel_rfl) (by kernel_rfl)
 have h37 := @run_callFunc_extern Tryz.prog 184 _ (ReflectliteType.method ReflectliteType.elem) Tryz.func184 (by kernel_rfl) (by kernel_rfl) (by kernel_rfl) (by kernel_rfl)
 have h38 := @run_callFunc_extern Tryz.prog 185 _ (ReflectliteType.relation "Implements" ReflectliteType.implements_) Tryz.func185 (by kernel_rfl) (by kernel_rfl) (by kernel_rfl) (by kernel_rfl)
 have f6 := Tryz.valueOfT
 have f7 := Tryz.typeT
 have mK := Tryz.methodKind
 have mE := Tryz.methodElem
 have mI := Tryz.methodImplements
 have k27 := Tryz.kindT
 have k25 := Tryz.kindO
 have e27 := Tryz.elemT
 have i25 := Tryz.implementsO
 have hal := World.block_lt_of_cell? w _ hc
 have htl := World.block_lt_of_cell? w _ ht
 have hgl := World.block_lt_of_cell? w _ hg
 have n8 := Tryz.isNilT ⟨w.heap.size, 0, none⟩ t ((w.alloc (.cells #[.pointer (some t)] 85)).alloc (.cells #[.pointer (some ⟨10, 85, none⟩), .pointer (some ⟨w.heap.size, 0, none⟩), .int .u64 150] 108)) (by simp)
 have hg2 : ∀ o p, ((w.alloc o).alloc p).cell? ⟨3, 0, none⟩ = some (.iface 143 (.agg #[.pointer (some ⟨10, 54, none⟩)])) := fun o p => by
  rw [World.cell?_alloc_lt _ _ _ (by simp; simp at hgl; omega), World.cell?_alloc_lt _ _ _ hgl]; exact hg
 have hlast := as_no_W a p t ⟨w.heap.size, 0, none⟩ ((w.alloc (.cells #[.pointer (some t)] 85)).alloc (.cells #[.pointer (some ⟨10, 85, none⟩), .pointer (some ⟨w.heap.size, 0, none⟩), .int .u64 150] 108))
  (by rw [World.cell?_alloc_lt _ _ _ (by simp; simp at hal; omega), World.cell?_alloc_lt _ _ _ hal]; exact hc)
 have HL := Lib.hid hlast
 clear hlast ht hc hg
 go_enter Tryz.func25, Tryz.ntmps25
 go_wp2_with (go_at_call 37; refine HL.out.mono ?_; rintro e w' ⟨rfl, hk⟩)
 go_ret
 exact ⟨rfl, ((((Keeps.refl _ w).alloc _).alloc _).tr hk)⟩
end Go.Proofs.YtbioecifiogffabGreatDoor
namespace Go.Proofs.YtbioecifiogffabGreatDoor
open Go.RowKit
structure LaidVars (aL aI aS : Addr) (w : World) : Prop where
 long : w.cell? ⟨1, 0, none⟩ = some (.iface 241 (.pointer (some aL)))
 idle : w.cell? ⟨2, 0, none⟩ = some (.iface 241 (.pointer (some aI)))
 sink : w.cell? ⟨0, 0, none⟩ = some (.iface 241 (.pointer (some aS)))
 etype : w.cell? ⟨3, 0, none⟩ = some (.iface 143 (.agg #[.pointer (some ⟨10, 54, none⟩)]))
 n01 : aL ≠ aI
 n02 : aL ≠ aS
 n12 : aI ≠ aS
 b0 : ∃ c t, w.heap[aL.block]? = some (.cells c t (0, 0))
 b1 : ∃ c t, w.heap[aI.block]? = some (.cells c t (0, 0))
 b2 : ∃ c t, w.heap[aS.block]? = some (.cells c t (0, 0))
theorem LaidVars.kept {aL aI aS : Addr} {D : Nat → Prop} {w w' : World} (h : LaidVars aL aI aS w) (hk : Keeps D w w') (hD : ∀ j, j < 4 → ¬ D j) (h0 : ¬ D aL.block) (h1 : ¬ D aI.block) (h2 : ¬ D aS.block) : LaidVars aL aI aS w' where
 long := hk.cell_some h.long (hD _ (by simp))
 idle := hk.cell_some h.idle (hD _ (by simp))
 sink := hk.cell_some h.sink (hD _ (by simp))
 etype := hk.cell_some h.etype (hD _ (by simp))
 n01 := h.n01
 n02 := h.n02
 n12 := h.n12
 b0 := by obtain ⟨c, t, hc⟩ := h.b0; exact ⟨c, t, hk.heap_some hc h0⟩
 b1 := by obtain ⟨c, t, hc⟩ := h.b1; exact ⟨c, t, hk.heap_some hc h1⟩
 b2 := by obtain ⟨c, t, hc⟩ := h.b2; exact ⟨c, t, hk.heap_some hc h2⟩
theorem LaidVars.fresh {aL aI aS : Addr} {w w' : World} (h : LaidVars aL aI aS w) (hk : Fresh w w') : LaidVars aL aI aS w' := h.kept hk (fun _ _ h => h) (fun h => h) (fun h => h) (fun h => h)
theorem eql_same (W : World) (a : Addr) : (binOp .eql 54 (.iface 241 (.pointer (some a))) (.iface 241 (.pointer (some a)))).run Tryz.prog W = .ok (.bool true) W := by
 obtain ⟨i, hi, hc⟩ := Option.map_eq_some_iff.1 (show (Tryz.prog.info? 241).map (·.comparable) = some true by kernel_rfl)
 obtain ⟨j, hj, hs⟩ := Option.map_eq_some_iff.1 (show (Tryz.prog.info? 261).map (·.size) = some 1 by kernel_rfl)
 exact run_eql_iface_ptr_same (te := 261) W a Tryz.underlying54 Tryz.underlying241 hi hc hj
theorem eql_other (W : World) (a b : Addr) (ca cb : Array Value) (ta tb : TypeId) (hne : a ≠ b) (ha : W.heap[a.block]? = some (.cells ca ta (0, 0))) (hb : W.heap[b.block]? = some (.cells cb tb (0, 0))) :
 (binOp .eql 54 (.iface 241 (.pointer (some a))) (.iface 241 (.pointer (some b)))).run Tryz.prog W = .ok (.bool false) W := by
 obtain ⟨i, hi, hc⟩ := Option.map_eq_some_iff.1 (show (Tryz.prog.info? 241).map (·.comparable) = some true by kernel_rfl)
 obtain ⟨j, hj, hs⟩ := Option.map_eq_some_iff.1 (show (Tryz.prog.info? 261).map (·.size) = some 1 by kernel_rfl)
 exact run_eql_iface_ptr_other (te := 261) W Tryz.underlying54 Tryz.underlying241 hi hc hj (by rw [hs]; decide) hne ha hb
theorem eql_own (W : World) (a : Addr) : (binOp .eql 54 (.iface 82 (.pointer (some a))) (.iface 82 (.pointer (some a)))).run Tryz.prog W = .ok (.bool true) W := by
 obtain ⟨i, hi, hc⟩ := Option.map_eq_some_iff.1 (show (Tryz.prog.info? 82).map (·.comparable) = some true by kernel_rfl)
 obtain ⟨j, hj, hs⟩ := Option.map_eq_some_iff.1 (show (Tryz.prog.info? 255).map (·.size) = some 1 by kernel_rfl)
 exact run_eql_iface_ptr_same (te := 255) W a Tryz.underlying54 Tryz.underlying82 hi hc hj
theorem Tryz.toldNoR (a : Addr) (w : World) : (Instr.typeAssert (.iface 241 (.pointer (some a))) 54 83 true).run Tryz.prog w = .ok (.tuple #[.pointer none, .bool false]) w := by kernel_rfl
theorem Tryz.toldNoW (a : Addr) (w : World) : (Instr.typeAssert (.iface 241 (.pointer (some a))) 54 90 true).run Tryz.prog w = .ok (.tuple #[.pointer none, .bool false]) w := by kernel_rfl
theorem Tryz.toldR (a : Addr) (w : World) : (Instr.typeAssert (.iface 83 (.pointer (some a))) 54 83 true).run Tryz.prog w = .ok (.tuple #[.pointer (some a), .bool true]) w := by kernel_rfl
theorem Tryz.toldWR (a : Addr) (w : World) : (Instr.typeAssert (.iface 90 (.pointer (some a))) 54 83 true).run Tryz.prog w = .ok (.tuple #[.pointer none, .bool false]) w := by kernel_rfl
theorem Tryz.toldW (a : Addr) (w : World) : (Instr.typeAssert (.iface 90 (.pointer (some a))) 54 90 true).run Tryz.prog w = .ok (.tuple #[.pointer (some a), .bool true]) w := by kernel_rfl
theorem Of_nil (w : World) :
 Calls Tryz.prog 14 #[.nilIface] w fun e w' => e = .returned (.agg #[.int .i64 0, .int .i64 0]) ∧ Fresh w w' := by
 go_enter Tryz.func14, Tryz.ntmps14
 go_wp2_with fail
 refine bodyPost_ret (v := .agg #[.int .i64 0, .int .i64 0]) (by simp [results, Tryz.results14, go_sem]) rfl ⟨rfl, ((Keeps.refl _ w).alloc _).alloc _⟩
theorem Of_long (aL aI aS : Addr) (w : World) (h : LaidVars aL aI aS w) :
 Calls Tryz.prog 14 #[.iface 241 (.pointer (some aL))] w fun e w' => e = .returned (.agg #[.int .i64 1, .int .i64 0]) ∧ Fresh w w' := by
 have t1 := Tryz.toldNoR aL
 have t2 := Tryz.toldNoW aL
 have e1 := fun W => eql_same W aL
 have hg : ∀ o p, ((w.alloc o).alloc p).cell? ⟨1, 0, none⟩ = some (.iface 241 (.pointer (some aL))) := fun o p => (h.fresh (((Keeps.refl _ w).alloc o).alloc p)).long
 clear h
 go_enter Tryz.func14, Tryz.ntmps14
 go_wp2_with fail
 refine bodyPost_ret (v := .agg #[.int .i64 1, .int .i64 0]) (by simp [results, Tryz.results14, go_sem]) rfl ⟨rfl, ?_⟩
 exact (((Keeps.refl _ w).alloc _).alloc _)
theorem Of_idle (aL aI aS : Addr) (w : World) (h : LaidVars aL aI aS w) :
 Calls Tryz.prog 14 #[.iface 241 (.pointer (some aI))] w fun e w' => e = .returned (.agg #[.int .i64 2, .int .i64 0]) ∧ Fresh w w' := by
 have t1 := Tryz.toldNoR aI
 have t2 := Tryz.toldNoW aI
 have e1 := fun W => eql_same W aI
 have e2 : ∀ o p, (binOp .eql 54 (.iface 241 (.pointer (some aI))) (.iface 241 (.pointer (some aL)))).run Tryz.prog ((w.alloc o).alloc p) = .ok (.bool false) ((w.alloc o).alloc p) := fun o p => by
  have h2 := h.fresh (((Keeps.refl _ w).alloc o).alloc p)
  obtain ⟨c0, t0, b0⟩ := h2.b0
  obtain ⟨c1, t1, b1⟩ := h2.b1
  exact eql_other _ _ _ _ _ _ _ (Ne.symm h.n01) b1 b0
 have hg : ∀ o p, ((w.alloc o).alloc p).cell? ⟨1, 0, none⟩ = some (.iface 241 (.pointer (some aL))) := fun o p => (h.fresh (((Keeps.refl _ w).alloc o).alloc p)).long
 have hg2 : ∀ o p, ((w.alloc o).alloc p).cell? ⟨2, 0, none⟩ = some (.iface 241 (.pointer (some aI))) := fun o p => (h.fresh (((Keeps.refl _ w).alloc o).alloc p)).idle
 clear h
 go_enter Tryz.func14, Tryz.ntmps14
 go_wp2_with fail
 refine bodyPost_ret (v := .agg #[.int .i64 2, .int .i64 0]) (by simp [results, Tryz.results14, go_sem]) rfl ⟨rfl, ?_⟩
 exact (((Keeps.refl _ w).alloc _).alloc _)
theorem Of_read (aL aI aS : Addr) (a c : Nat) (n : Int) (w : World) (h : LaidVars aL aI aS w)
 (ha : w.heap[a]? = some (.cells #[.int .i64 n, .iface 82 (.pointer (some ⟨c, 0, none⟩))] 89 (0, 0))) :
 Calls Tryz.prog 14 #[.iface 83 (.pointer (some ⟨a, 0, none⟩))] w fun e w' => e = .returned (.agg #[.int .i64 4, .int .i64 n]) ∧ Fresh w w' := by
 have t1 := Tryz.toldR ⟨a, 0, none⟩
 have e1 := fun W => eql_own W ⟨c, 0, none⟩
 have hal : a < w.heap.size := (Array.getElem?_eq_some_iff.1 ha).1
 obtain ⟨W, hW⟩ : ∃ W, W = (w.alloc (.cells #[.int .i64 0, .int .i64 0] 25)).alloc (.cells #[.pointer none] 82) := ⟨_, rfl⟩
 have hF : Fresh w W := by rw [hW]; exact ((Keeps.refl _ w).alloc _).alloc _
 have hsz : W.heap.size = w.heap.size + 2 := by rw [hW]; simp
 have o0 : W.cell? ⟨w.heap.size + 1, 0, none⟩ = some (.pointer none) := by rw [hW]; simp
 have of0 : W.frozen? ⟨w.heap.size + 1, 0, none⟩ = false := by rw [hW]; simp
 have r0 : W.cell? ⟨w.heap.size, 0, none⟩ = some (.int .i64 0) := by rw [hW]; simp
 have r1 : W.cell? ⟨w.heap.size, 1, none⟩ = some (.int .i64 0) := by rw [hW]; simp
 have f0 : W.frozen? ⟨w.heap.size, 0, none⟩ = false := by rw [hW]; simp
 have f1 : W.frozen? ⟨w.heap.size, 1, none⟩ = false := by rw [hW]; simp
 have ha2 := hF.heap_some ha (fun h => h)
 have a0 : W.cell? ⟨a, 0, none⟩ = some (.int .i64 n) := by rw [Lib.cell_of_heap ha2]; rfl
 have a1 : W.cell? ⟨a, 1, none⟩ = some (.iface 82 (.pointer (some ⟨c, 0, none⟩))) := by rw [Lib.cell_of_heap ha2]; rfl
 have hAs : ∀ X : World, X = W.drew → Calls Tryz.prog 25 #[.iface 83 (.pointer (some ⟨a, 0, none⟩)), .iface 85 (.pointer (some ⟨w.heap.size + 1, 0, none⟩))] X fun ev w' =>
  ev = .returned (.bool true) ∧ w'.cell? ⟨w.heap.size + 1, 0, none⟩ = some (.pointer (some ⟨c, 0, none⟩)) ∧ w'.cell? ⟨a, 1, none⟩ = some (.iface 82 (.pointer (some ⟨c, 0, none⟩))) ∧ Keeps (fun k => k = w.heap.size + 1) W w' := by
  intro X hX
  subst hX
  refine (As_own_R a c ⟨w.heap.size + 1, 0, none⟩ (.pointer none) W.drew (h.fresh hF).etype a1 o0 of0).mono ?_
  rintro e w' ⟨rfl, h1, h2⟩
  refine ⟨rfl, h1, h2.cell_some a1 (by simp; omega), ⟨h2.os, h2.tape, h2.output, h2.size, h2.block⟩⟩
 have HAS := Lib.hid hAs
 have HF := Lib.hid hF
 have HS := Lib.hid hsz
 clear hAs hF hsz h ha ha2 o0 of0
 go_enter Tryz.func14, Tryz.ntmps14
 go_upto_region 14 with fail
 rw [← hW]
 clear hW
 go_cut [34] (fun v wx => v = .bool true ∧ Keeps (fun k => k = w.heap.size + 1) W wx)
 case first =>
  go_region_with (go_at_call 25; refine (HAS.out _ rfl).mono ?_; rintro e w' ⟨rfl, hcl, hx, hk⟩)
  all_goals (go_wp2_with fail; go_meet; exact ⟨rfl, by repeat (first | exact hk | refine Keeps.drew ?_ | refine Keeps.drewN ?_ _)⟩)
 case rest =>
  obtain ⟨rfl, hk⟩ := hcut
  have q0 := hk.cell_some r0 (by simp)
  have q1 := hk.cell_some r1 (by simp)
  have b0 := hk.cell_some a0 (by simp; omega)
  have g0 := (hk.frozen (p := ⟨w.heap.size, 0, none⟩) (by rw [HS.out]; simp) (by simp)).trans f0
  have g1 := (hk.frozen (p := ⟨w.heap.size, 1, none⟩) (by rw [HS.out]; simp) (by simp)).trans f1
  have hfin := HF.out.trans hk (fun j h1 h2 => by omega)
  have HFIN := Lib.hid hfin
  clear r0 r1 a0 a1 f0 f1 hfin hk
  go_wp2_with fail
  refine bodyPost_ret (v := .agg #[.int .i64 4, .int .i64 n]) (by simp [results, Tryz.results14, go_sem, *]) rfl ⟨rfl, ?_⟩
  exact (HFIN.out.setCell (p := ⟨w.heap.size, 0, none⟩) (fun h => by simp at h) _).setCell (p := ⟨w.heap.size, 1, none⟩) (fun h => by simp at h) _
end Go.Proofs.YtbioecifiogffabGreatDoor
namespace Go.Proofs.YtbioecifiogffabGreatDoor.laidVars
open Go.ChangeShapes Go.WideShapes Go.ChangeAt Go.RowKit
end Go.Proofs.YtbioecifiogffabGreatDoor.laidVars
namespace Go.Proofs.YtbioecifiogffabGreatDoor
open Go.RowKit
theorem IntsAt.kept {D : Nat → Prop} {w w' : World} {v : Value} {l : List Int} (h : IntsAt w v l) (hk : Keeps D w w') (hD : ∀ j, j < w.heap.size → ¬ D j) : IntsAt w' v l := by
 obtain ⟨ao, cap, rfl, h1, h2, h3⟩ := h
 refine ⟨ao, cap, rfl, h1, h2, fun hne => ?_⟩
 obtain ⟨b, off, rfl, hc⟩ := h3 hne
 exact ⟨b, off, rfl, fun j hj => hk.cell_some (hc j hj) (hD _ (World.block_lt_of_cell? w _ (hc j hj)))⟩
theorem comeGo_err (fa : Int) (wt : Bool) : ∀ (f k : Nat) (rest all : List UInt8) (idle : Nat) (cuts : List Int), (comeGo fa wt f k rest all idle cuts).err = 0 ∨ (comeGo fa wt f k rest all idle cuts).err = 1 ∨ (comeGo fa wt f k rest all idle cuts).err = 2 ∨ (comeGo fa wt f k rest all idle cuts).err = 4 := by
 intro f
 induction f with
 | zero => intro k rest all idle cuts; left; rfl
 | succ f ih =>
  intro k rest all idle cuts
  rw [comeGo_succ]
  repeat' split
  all_goals first | exact ih _ _ _ _ _ | simp
theorem comeL_err (t : List UInt8) (cuts : List Int) (fa : Int) (wt : Bool) : (comeL t cuts fa wt).err = 0 ∨ (comeL t cuts fa wt).err = 1 ∨ (comeL t cuts fa wt).err = 2 ∨ (comeL t cuts fa wt).err = 4 := comeGo_err _ _ _ _ _ _ _ _
theorem Of_come (aL aI aS : Addr) (w : World) (v : Value) (code n : Nat) (h : LaidVars aL aI aS w) (he : ErrIs aL aI aS w v code n) (hc : code = 0 ∨ code = 1 ∨ code = 2 ∨ code = 4) :
 Calls Tryz.prog 14 #[v] w fun e w' => e = .returned (.agg #[.int .i64 code, .int .i64 n]) ∧ Fresh w w' := by
 rcases he with ⟨rfl, rfl, rfl⟩ | ⟨rfl, rfl, rfl⟩ | ⟨rfl, rfl, rfl⟩ | ⟨rfl, _⟩ | ⟨rfl, a, c, x, rfl, ha, _⟩ | ⟨rfl, _⟩
 ·exact Of_nil w
 ·exact Of_long aL aI aS w h
 ·exact Of_idle aL aI aS w h
 ·omega
 ·exact Of_read aL aI aS a c n w h ha
 ·omega
theorem All_nil (w : World) : Calls Tryz.prog 41 #[.nilIface] w fun e w' => e = .returned (.tuple #[.string ⟨#[]⟩, .nilIface]) ∧ w = w' := by
 have hnn : (binOp .eql 74 .nilIface .nilIface).run Tryz.prog w = .ok (.bool true) w := by kernel_rfl
 go_enter Tryz.func41, Tryz.ntmps41
 go_wp2_with fail
 go_ret2
 exact ⟨rfl, rfl⟩
end Go.Proofs.YtbioecifiogffabGreatDoor
namespace Go.Proofs.YtbioecifiogffabGreatDoor
open Go.RowKit Go.Extern.Stop Go.Stop Go.Extern
theorem Tryz.callComparableS (w : World) : (callFunc 183 #[.agg #[.pointer (some ⟨10, 241, none⟩)]]).run Tryz.prog w = .ok (.value (.bool true)) w := by kernel_rfl
theorem Is_sink_W (a : Nat) (b : Addr) (w : World) (h1 : w.cell? ⟨a, 1, none⟩ = some (.iface 241 (.pointer (some b)))) :
 Calls Tryz.prog 26 #[.iface 90 (.pointer (some ⟨a, 0, none⟩)), .iface 241 (.pointer (some b))] w fun e w' => e = .returned (.bool true) ∧ w' = w := by
 have heq := eql_same w b
 have hty := run_eql_iface_types (P := Tryz.prog) 90 241 (.pointer (some ⟨a, 0, none⟩)) (.pointer (some b)) Tryz.underlying54 (by decide) w
 have h8 := @run_callFunc_extern Tryz.prog 38 _ ReflectliteType.typeOf Tryz.func38 (by kernel_rfl) (by kernel_rfl) (by kernel_rfl) (by kernel_rfl)
 have tS := Tryz.typeOfS
 have cS := Tryz.callComparableS
 have mC := Tryz.methodComparable
 have nW := Tryz.assertIsW
 have uW := Tryz.assertUnW
 have mU := Tryz.methodUnwrapW ⟨a, 0, none⟩
 have hu := unwrapW a _ w h1
 go_enter Tryz.func26, Tryz.ntmps26
 go_wp2
 refine wp_loop_rounds 2 ?_
 rw [rounds_succ]
 go_wp2_with (go_at_call 176; refine hu.mono ?_; rintro e w' ⟨rfl, rfl⟩)
 rw [rounds_succ]
 go_wp2
 go_ret
 exact ⟨rfl, rfl⟩
theorem Of_write (aL aI aS : Addr) (a c : Nat) (n : Int) (w : World) (h : LaidVars aL aI aS w)
 (ha : w.heap[a]? = some (.cells #[.int .i64 n, .iface 82 (.pointer (some ⟨c, 0, none⟩))] 91 (0, 0))) :
 Calls Tryz.prog 14 #[.iface 90 (.pointer (some ⟨a, 0, none⟩))] w fun e w' => e = .returned (.agg #[.int .i64 5, .int .i64 n]) ∧ Fresh w w' := by
 have t1 := Tryz.toldW ⟨a, 0, none⟩
 have t2 := Tryz.toldWR ⟨a, 0, none⟩
 have e1 := fun W => eql_own W ⟨c, 0, none⟩
 have hal : a < w.heap.size := (Array.getElem?_eq_some_iff.1 ha).1
 obtain ⟨W, hW⟩ : ∃ W, W = (w.alloc (.cells #[.int .i64 0, .int .i64 0] 25)).alloc (.cells #[.pointer none] 82) := ⟨_, rfl⟩
 have hF : Fresh w W := by rw [hW]; exact ((Keeps.refl _ w).alloc _).alloc _
 have hsz : W.heap.size = w.heap.size + 2 := by rw [hW]; simp
 have o0 : W.cell? ⟨w.heap.size + 1, 0, none⟩ = some (.pointer none) := by rw [hW]; simp
 have of0 : W.frozen? ⟨w.heap.size + 1, 0, none⟩ = false := by rw [hW]; simp
 have r0 : W.cell? ⟨w.heap.size, 0, none⟩ = some (.int .i64 0) := by rw [hW]; simp
 have r1 : W.cell? ⟨w.heap.size, 1, none⟩ = some (.int .i64 0) := by rw [hW]; simp
 have f0 : W.frozen? ⟨w.heap.size, 0, none⟩ = false := by rw [hW]; simp
 have f1 : W.frozen? ⟨w.heap.size, 1, none⟩ = false := by rw [hW]; simp
 have ha2 := hF.heap_some ha (fun h => h)
 have a0 : W.cell? ⟨a, 0, none⟩ = some (.int .i64 n) := by rw [Lib.cell_of_heap ha2]; rfl
 have a1 : W.cell? ⟨a, 1, none⟩ = some (.iface 82 (.pointer (some ⟨c, 0, none⟩))) := by rw [Lib.cell_of_heap ha2]; rfl
 have hAs : ∀ X : World, X = W.drew → Calls Tryz.prog 25 #[.iface 90 (.pointer (some ⟨a, 0, none⟩)), .iface 85 (.pointer (some ⟨w.heap.size + 1, 0, none⟩))] X fun ev w' =>
  ev = .returned (.bool true) ∧ w'.cell? ⟨w.heap.size + 1, 0, none⟩ = some (.pointer (some ⟨c, 0, none⟩)) ∧ w'.cell? ⟨a, 1, none⟩ = some (.iface 82 (.pointer (some ⟨c, 0, none⟩))) ∧ Keeps (fun k => k = w.heap.size + 1) W w' := by
  intro X hX
  subst hX
  refine (As_own_W a c ⟨w.heap.size + 1, 0, none⟩ (.pointer none) W.drew (h.fresh hF).etype a1 o0 of0).mono ?_
  rintro e w' ⟨rfl, h1, h2⟩
  refine ⟨rfl, h1, h2.cell_some a1 (by simp; omega), ⟨h2.os, h2.tape, h2.output, h2.size, h2.block⟩⟩
 have HAS := Lib.hid hAs
 have HF := Lib.hid hF
 have HS := Lib.hid hsz
 clear hAs hF hsz h ha ha2 o0 of0
 go_enter Tryz.func14, Tryz.ntmps14
 go_upto_region 18 with fail
 rw [← hW]
 clear hW
 go_cut [55] (fun v wx => v = .bool true ∧ Keeps (fun k => k = w.heap.size + 1) W wx)
 case first =>
  go_region_with (go_at_call 25; refine (HAS.out _ rfl).mono ?_; rintro e w' ⟨rfl, hcl, hx, hk⟩)
  all_goals (go_wp2_with fail; go_meet; exact ⟨rfl, by repeat (first | exact hk | refine Keeps.drew ?_ | refine Keeps.drewN ?_ _)⟩)
 case rest =>
  obtain ⟨rfl, hk⟩ := hcut
  have q0 := hk.cell_some r0 (by simp)
  have q1 := hk.cell_some r1 (by simp)
  have b0 := hk.cell_some a0 (by simp; omega)
  have g0 := (hk.frozen (p := ⟨w.heap.size, 0, none⟩) (by rw [HS.out]; simp) (by simp)).trans f0
  have g1 := (hk.frozen (p := ⟨w.heap.size, 1, none⟩) (by rw [HS.out]; simp) (by simp)).trans f1
  have hfin := HF.out.trans hk (fun j h1 h2 => by omega)
  have HFIN := Lib.hid hfin
  clear r0 r1 a0 a1 f0 f1 hfin hk
  go_wp2_with fail
  refine bodyPost_ret (v := .agg #[.int .i64 5, .int .i64 n]) (by simp [results, Tryz.results14, go_sem, *]) rfl ⟨rfl, ?_⟩
  exact (HFIN.out.setCell (p := ⟨w.heap.size, 0, none⟩) (fun h => by simp at h) _).setCell (p := ⟨w.heap.size, 1, none⟩) (fun h => by simp at h) _
theorem Of_sink (aL aI aS : Addr) (a : Nat) (n : Int) (w : World) (h : LaidVars aL aI aS w)
 (ha : w.heap[a]? = some (.cells #[.int .i64 n, .iface 241 (.pointer (some aS))] 91 (0, 0))) :
 Calls Tryz.prog 14 #[.iface 90 (.pointer (some ⟨a, 0, none⟩))] w fun e w' => e = .returned (.agg #[.int .i64 3, .int .i64 n]) ∧ Fresh w w' := by
 have t1 := Tryz.toldW ⟨a, 0, none⟩
 have t2 := Tryz.toldWR ⟨a, 0, none⟩
 have e1 := fun W => eql_same W aS
 have hal : a < w.heap.size := (Array.getElem?_eq_some_iff.1 ha).1
 obtain ⟨W, hW⟩ : ∃ W, W = (w.alloc (.cells #[.int .i64 0, .int .i64 0] 25)).alloc (.cells #[.pointer none] 82) := ⟨_, rfl⟩
 have hF : Fresh w W := by rw [hW]; exact ((Keeps.refl _ w).alloc _).alloc _
 have hsz : W.heap.size = w.heap.size + 2 := by rw [hW]; simp
 have o0 : W.cell? ⟨w.heap.size + 1, 0, none⟩ = some (.pointer none) := by rw [hW]; simp
 have r0 : W.cell? ⟨w.heap.size, 0, none⟩ = some (.int .i64 0) := by rw [hW]; simp
 have r1 : W.cell? ⟨w.heap.size, 1, none⟩ = some (.int .i64 0) := by rw [hW]; simp
 have f0 : W.frozen? ⟨w.heap.size, 0, none⟩ = false := by rw [hW]; simp
 have f1 : W.frozen? ⟨w.heap.size, 1, none⟩ = false := by rw [hW]; simp
 have ha2 := hF.heap_some ha (fun h => h)
 have a0 : W.cell? ⟨a, 0, none⟩ = some (.int .i64 n) := by rw [Lib.cell_of_heap ha2]; rfl
 have a1 : W.cell? ⟨a, 1, none⟩ = some (.iface 241 (.pointer (some aS))) := by rw [Lib.cell_of_heap ha2]; rfl
 have hAs : ∀ X : World, X = W.drew → Calls Tryz.prog 25 #[.iface 90 (.pointer (some ⟨a, 0, none⟩)), .iface 85 (.pointer (some ⟨w.heap.size + 1, 0, none⟩))] X fun ev w' => ev = .returned (.bool false) ∧ Fresh W w' := by
  intro X hX
  subst hX
  refine (As_no_W a (some aS) ⟨w.heap.size + 1, 0, none⟩ (.pointer none) W.drew (h.fresh hF).etype a1 o0).mono ?_
  rintro e w' ⟨rfl, h2⟩
  exact ⟨rfl, ⟨h2.os, h2.tape, h2.output, h2.size, h2.block⟩⟩
 have hIs := fun (X : World) (hX : Fresh W X) => Is_sink_W a aS X (hX.cell_some a1 (fun h => h))
 have hg := fun (X : World) (hX : Fresh W X) => ((h.fresh hF).fresh hX).sink
 have HAS := Lib.hid hAs
 have HIS := Lib.hid hIs
 have HG := Lib.hid hg
 have HF := Lib.hid hF
 have HS := Lib.hid hsz
 clear hAs hIs hg hF hsz h ha ha2 o0
 go_enter Tryz.func14, Tryz.ntmps14
 go_upto_region 18 with fail
 rw [← hW]
 clear hW
 go_cut [55] (fun v wx => v = .bool false ∧ Fresh W wx)
 case first =>
  refine wp_region_K 11 (fun w' => Fresh W w') (by kernel_rfl) ?_
  have hHeld : Fresh W W.drew := (Keeps.refl _ W).drew
  refine K_is [0, 1] ?_
  iterate 2 (refine K_yD (v := ?_) rfl rfl (by kernel_rfl) (fun _ _ _ h => h) (by rfl) ?_ (by assumption) ?_; rotate_left; (· intro _ hSw; (have hS0 := hSw); first | (go_simp; done) | (go_simp; with_reducible rfl)); try simp only [List.setIfInBounds_toArray, List.set_cons_zero, List.set_cons_succ])
  refine K_no ?_
  refine K_one (i := 2) (by kernel_rfl) rfl (fun K hK => ?_)
  go_simp
  refine (HAS.out _ rfl).mono ?_
  rintro e w' ⟨rfl, hk⟩
  refine hK.out _ _ hk (fun hHeld2 => ?_)
  clear hK K hHeld
  try simp only [Act.put, List.setIfInBounds_toArray, List.set_cons_zero, List.set_cons_succ]
  refine K_is [3, 4, 5, 6, 7, 8, 9, 10] ?_
  iterate 1 (refine K_yD (v := ?_) rfl rfl (by kernel_rfl) (fun _ _ _ h => h) (by rfl) ?_ (by assumption) ?_; rotate_left; (· intro _ hSw; (have hS0 := hSw); first | (go_simp; done) | (go_simp; with_reducible rfl)); try simp only [List.setIfInBounds_toArray, List.set_cons_zero, List.set_cons_succ])
  iterate 7 (refine K_nD rfl rfl (by kernel_rfl) (fun _ _ _ h => h) (by rfl) (by assumption) ?_; try simp only [List.setIfInBounds_toArray, List.set_cons_zero, List.set_cons_succ])
  refine K_no ?_
  refine K_last (by kernel_rfl) rfl (fun K hK => ?_)
  go_simp
  refine hK.out _ _ ?_
  clear hK K hHeld2
  try simp only [Act.put, List.setIfInBounds_toArray, List.set_cons_zero, List.set_cons_succ]
  refine K_done (by kernel_rfl) ?_ _
  go_wp2_with fail
  go_meet
  exact ⟨rfl, hk⟩
 case rest =>
  obtain ⟨rfl, hk⟩ := hcut
  obtain ⟨wd, rfl⟩ : ∃ wd : World, wd = wc := ⟨_, rfl⟩
  have q0 := hk.cell_some r0 (fun h => h)
  have q1 := hk.cell_some r1 (fun h => h)
  have b0 := hk.cell_some a0 (fun h => h)
  have b1 := hk.cell_some a1 (fun h => h)
  have gs := HG.out _ hk
  have g0 := (hk.frozen (p := ⟨w.heap.size, 0, none⟩) (by rw [HS.out]; simp) (fun h => h)).trans f0
  have g1 := (hk.frozen (p := ⟨w.heap.size, 1, none⟩) (by rw [HS.out]; simp) (fun h => h)).trans f1
  have HK := Lib.hid hk
  clear r0 r1 a0 a1 f0 f1 hk
  go_upto_region 20 with fail
  go_cut [72] (fun v w2 => v = .bool true ∧ Fresh wd w2)
  case first =>
   go_region_with (go_at_call 26; refine (HIS.out _ (HK.out.drew)).mono ?_; rintro e w' ⟨rfl, rfl⟩)
   all_goals (go_wp2_with fail; go_meet; exact ⟨rfl, by repeat (first | exact Keeps.refl _ _ | refine Keeps.drew ?_ | refine Keeps.drewN ?_ _)⟩)
  case rest =>
   obtain ⟨rfl, hk2⟩ := hcut
   have z0 := hk2.cell_some q0 (fun h => h)
   have z1 := hk2.cell_some q1 (fun h => h)
   have zb := hk2.cell_some b0 (fun h => h)
   have hwl : w.heap.size < wd.heap.size := by have := HK.out.size; have := HS.out; omega
   have y0 := (hk2.frozen (p := ⟨w.heap.size, 0, none⟩) hwl (fun h => h)).trans g0
   have y1 := (hk2.frozen (p := ⟨w.heap.size, 1, none⟩) hwl (fun h => h)).trans g1
   have hfin := HF.out.tr (HK.out.tr hk2)
   have HFIN := Lib.hid hfin
   clear q0 q1 b0 b1 gs g0 g1 hfin hk2
   go_wp2_with fail
   refine bodyPost_ret (v := .agg #[.int .i64 3, .int .i64 n]) (by simp [results, Tryz.results14, go_sem, *]) rfl ⟨rfl, ?_⟩
   exact (HFIN.out.setCell (p := ⟨w.heap.size, 0, none⟩) (fun h => by simp at h) _).setCell (p := ⟨w.heap.size, 1, none⟩) (fun h => by simp at h) _
end Go.Proofs.YtbioecifiogffabGreatDoor
