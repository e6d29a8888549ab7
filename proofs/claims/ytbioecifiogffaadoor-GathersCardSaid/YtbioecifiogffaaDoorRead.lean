/- (*plain.source).Read gives the next piece, or fails. Condition: texts and lists of at most 2^20 elements. -/
import Derived.Test.YtbioecifiogffaaDoorSrc
namespace Go.Proofs.YtbioecifiogffaaDoor
open Go.RowKit

theorem heap_set {w : World} {b i : Nat} {c : Array Value} {t : TypeId} {fr : Nat × Nat} (h : w.heap[b]? = some (.cells c t fr)) (v : Value) : (w.setCell ⟨b, i, none⟩ v).heap[b]? = some (.cells (c.setIfInBounds i v) t fr) := by
  simp [World.setCell, Array.getElem?_modify, h]

/-- What a walk wants of a source's block. -/
theorem SrcAt.parts {w : World} {b g : Nat} {rest : ByteArray} {cuts : List Int} {fa : Int} {wt : Bool} {reads : Nat} {over : Bool} (h : SrcAt w b g rest cuts fa wt reads over) :
    ∃ ao cap, w.heap[b]? = some (.cells #[.string rest, .slice ao cuts.length cap, .int .i64 fa, .bool wt, .int .i64 reads, .bool over] 53 (0, 0)) ∧
      (w.cell? ⟨b, 0, none⟩ = some (.string rest) ∧ w.cell? ⟨b, 1, none⟩ = some (.slice ao cuts.length cap) ∧ w.cell? ⟨b, 2, none⟩ = some (.int .i64 fa) ∧ w.cell? ⟨b, 3, none⟩ = some (.bool wt) ∧ w.cell? ⟨b, 4, none⟩ = some (.int .i64 reads) ∧ w.cell? ⟨b, 5, none⟩ = some (.bool over)) ∧
      (∀ i, w.frozen? ⟨b, i, none⟩ = false) ∧
      cuts.length ≤ cap ∧ (ao = none → cuts = [] ∧ cap = 0) ∧ (cuts ≠ [] → ∃ off, ao = some ⟨g, off, none⟩ ∧ ∀ j, j < cuts.length → w.cell? ⟨g, off + j, none⟩ = some (.int .i64 (cuts.getD j 0))) ∧ g ≠ b := by
  obtain ⟨ao, cap, h1, h2, h3, h4, h5⟩ := h
  refine ⟨ao, cap, h1, ⟨?_, ?_, ?_, ?_, ?_, ?_⟩, fun i => Lib.frozen_of_heap h1 i, h2, h3, h4, h5⟩
  all_goals (rw [Lib.cell_of_heap h1]; rfl)

set_option maxHeartbeats 4000000 in
set_option maxRecDepth 1000000 in
theorem Read_fail (b g : Nat) (rest : ByteArray) (cuts : List Int) (fa : Int) (wt : Bool) (reads : Nat) (over : Bool) (w : World) (h : SrcAt w b g rest cuts fa wt reads over) (hr : reads ≤ 4194304) (hf : (reads : Int) + 1 = fa) :
    Calls Tryd.prog 165 #[.pointer (some ⟨b, 0, none⟩)] w fun e w' =>
      (∃ lost, e = .returned (.tuple #[.string lost, .bool wt, .iface 70 (.pointer (some ⟨w.heap.size, 0, none⟩))])) ∧
      w'.heap[w.heap.size]? = some (.cells #[.int .i64 ((reads : Int) + 1)] 211 (0, 0)) ∧ SrcAt w' b g rest cuts fa wt (reads + 1) over ∧ Keeps (fun k => k = b) w w' := by
  obtain ⟨ao, cap, hb, ⟨c0, c1, c2, c3, c4, c5⟩, hfr, h2, h3, h4, h5⟩ := h.parts
  have hbl := h.lt
  subst hf
  have f4 := hfr 4
  have e1 : ((reads : Int) + 1 == (reads : Int) + 1) = true := by simp
  have HB := Lib.hid hb
  have H2 := Lib.hid h2
  have H3 := Lib.hid h3
  have H4 := Lib.hid h4
  have H5 := Lib.hid h5
  clear hb h2 h3 h4 h5 hfr h
  go_enter Tryd.func165, Tryd.ntmps165
  go_wp2_with fail
  go_quiet (fail)
  go_wp2_with fail
  obtain ⟨X, hX⟩ : ∃ X, X = (w.setCell ⟨b, 4, none⟩ (.int .i64 ((reads : Int) + 1))).drewN nq := ⟨_, rfl⟩
  rw [← hX]
  have hXb : X.heap[b]? = some (.cells (#[.string rest, .slice ao cuts.length cap, .int .i64 ((reads : Int) + 1), .bool wt, .int .i64 reads, .bool over].setIfInBounds 4 (.int .i64 ((reads : Int) + 1))) 53 (0, 0)) := by
    rw [hX]; exact heap_set HB.out _
  have d3 : X.cell? ⟨b, 3, none⟩ = some (.bool wt) := by rw [Lib.cell_of_heap hXb]; rfl
  have d4 : X.cell? ⟨b, 4, none⟩ = some (.int .i64 ((reads : Int) + 1)) := by rw [Lib.cell_of_heap hXb]; rfl
  have hXs : X.heap.size = w.heap.size := by rw [hX]; simp
  have hXk : Keeps (fun k => k = b) w X := by rw [hX]; exact ((Keeps.refl (fun k => k = b) w).setCell (p := ⟨b, 4, none⟩) (fun _ => rfl) _).drewN _
  have hXh : X.heap = (w.setCell ⟨b, 4, none⟩ (.int .i64 ((reads : Int) + 1))).heap := by rw [hX]; rfl
  have HXS := Lib.hid hXs
  have HXK := Lib.hid hXk
  have HXH := Lib.hid hXh
  clear hX hXb hXs hXk hXh c0 c1 c2 c3 c4 c5 f4
  go_region_held3 (fun w' => w'.cell? ⟨b, 3, none⟩ = some (.bool wt) ∧ w'.cell? ⟨b, 4, none⟩ = some (.int .i64 ((reads : Int) + 1))) (go_keep) (fail)
  all_goals
    go_wp2
    go_ret3
    refine ⟨⟨_, by rw [HXS.out]; rfl⟩, ?_, ?_, ?_⟩
    · rw [show w.heap.size = X.heap.size from HXS.out.symm]
      exact heap_alloc_new _ _
    · refine SrcAt.kept (D := fun _ => False) (w := X) ⟨ao, cap, by rw [HXH.out, heap_set HB.out]; simp, H2.out, H3.out, fun hne => ?_, H5.out⟩ (by repeat (first | exact Keeps.refl _ _ | refine Keeps.alloc ?_ _ | refine Keeps.drewN ?_ _ | refine Keeps.drew ?_)) (fun h => h) (fun h => h)
      obtain ⟨off, e0, hc⟩ := H4.out hne
      exact ⟨off, e0, fun j hj => HXK.out.cell_some (hc j hj) H5.out⟩
    · repeat (first | exact HXK.out | refine Keeps.alloc ?_ _ | refine Keeps.drewN ?_ _ | refine Keeps.drew ?_)

set_option maxHeartbeats 4000000 in
set_option maxRecDepth 1000000 in
/-- Where the cuts are at an end: the rest. -/
theorem Read_rest (b g : Nat) (rest : ByteArray) (fa : Int) (wt : Bool) (reads : Nat) (w : World) (h : SrcAt w b g rest [] fa wt reads false) (hr : reads ≤ 4194304) (hf : ¬ (reads : Int) + 1 = fa) :
    Calls Tryd.prog 165 #[.pointer (some ⟨b, 0, none⟩)] w fun e w' =>
      e = .returned (.tuple #[.string rest, .bool (doneOf wt rest.data.toList []), .nilIface]) ∧
      SrcAt w' b g .empty [] fa wt (reads + 1) (doneOf wt rest.data.toList []) ∧ Keeps (fun k => k = b) w w' := by
  obtain ⟨ao, cap, hb, ⟨c0, c1, c2, c3, c4, c5⟩, hfr, h2, h3, h4, h5⟩ := h.parts
  have hbl := h.lt
  have f4 := hfr 4
  have f0 := hfr 0
  have f5 := hfr 5
  have e1 : ((reads : Int) + 1 == fa) = false := by rw [beq_eq_false_iff_ne]; exact hf
  have HB := Lib.hid hb
  have H2 := Lib.hid h2
  have H3 := Lib.hid h3
  have H5 := Lib.hid h5
  clear hb h2 h3 h4 h5 hfr h hf
  obtain ⟨d, hd⟩ : ∃ d, d = doneOf wt rest.data.toList [] := ⟨_, rfl⟩
  rw [← hd]
  have fin : ∀ (X : World), X.heap = (((w.setCell ⟨b, 4, none⟩ (.int .i64 ((reads : Int) + 1))).setCell ⟨b, 0, none⟩ (.string ⟨#[]⟩)).setCell ⟨b, 5, none⟩ (.bool d)).heap → X.os = w.os → X.tape = w.tape → X.output = w.output →
      SrcAt X b g .empty [] fa wt (reads + 1) d ∧ Keeps (fun k => k = b) w X := by
    intro X hX h1 h2 h3
    have hk : Keeps (fun k => k = b) w (((w.setCell ⟨b, 4, none⟩ (.int .i64 ((reads : Int) + 1))).setCell ⟨b, 0, none⟩ (.string ⟨#[]⟩)).setCell ⟨b, 5, none⟩ (.bool d)) :=
      (((Keeps.refl (fun k => k = b) w).setCell (p := ⟨b, 4, none⟩) (fun _ => rfl) _).setCell (p := ⟨b, 0, none⟩) (fun _ => rfl) _).setCell (p := ⟨b, 5, none⟩) (fun _ => rfl) _
    refine ⟨⟨ao, cap, ?_, H2.out, H3.out, fun hne => absurd rfl hne, H5.out⟩, ⟨h1, h2, h3, by rw [hX]; exact hk.size, fun k h4 h5 => by rw [hX]; exact hk.block k h4 h5⟩⟩
    rw [hX, heap_set (heap_set (heap_set HB.out _) _) _]
    simp
    rfl
  have FIN := Lib.hid fin
  clear fin
  by_cases hre : rest.data.toList = []
  · have hb1 : rest.toList.isEmpty = true := by rw [ByteArray.toList_eq, hre]; rfl
    have hb2 : rest.toList = [] := by rw [ByteArray.toList_eq, hre]
    have hd1 : d = true := by rw [hd, hre]; simp [doneOf]
    subst hd1
    clear hd hre
    go_enter Tryd.func165, Tryd.ntmps165
    go_wp2_with fail
    go_quiet (fail)
    go_wp2_with fail
    go_quiet (fail)
    go_wp2_with fail
    go_ret3
    exact ⟨rfl, FIN.out _ rfl rfl rfl rfl⟩
  · have hb1 : rest.toList.isEmpty = false := by rw [ByteArray.toList_eq]; simpa using hre
    have hd1 : d = wt := by rw [hd]; simp [doneOf]; intro h; exact absurd h (by simpa using hre)
    subst hd1
    clear hd hre
    go_enter Tryd.func165, Tryd.ntmps165
    go_wp2_with fail
    go_quiet (fail)
    go_wp2_with fail
    go_quiet (fail)
    go_wp2_with fail
    go_ret3
    exact ⟨rfl, FIN.out _ rfl rfl rfl rfl⟩

set_option maxHeartbeats 4000000 in
set_option maxRecDepth 1000000 in
/-- Where there is a cut: its piece. -/
theorem Read_cut (b g : Nat) (rest : ByteArray) (c : Int) (cs : List Int) (fa : Int) (wt : Bool) (reads : Nat) (w : World) (h : SrcAt w b g rest (c :: cs) fa wt reads false) (hr : reads ≤ 4194304) (hs : rest.size ≤ 1048576) (hcs : cs.length ≤ 1048576)
    (hc : -9223372036854775808 ≤ c ∧ c ≤ 9223372036854775807) (hf : ¬ (reads : Int) + 1 = fa) :
    Calls Tryd.prog 165 #[.pointer (some ⟨b, 0, none⟩)] w fun e w' => ∃ (p rest' : ByteArray),
      e = .returned (.tuple #[.string p, .bool (doneOf wt rest.data.toList (c :: cs)), .nilIface]) ∧ p.data.toList = pieceOf rest.data.toList (c :: cs) ∧ rest'.data.toList = rest.data.toList.drop p.data.toList.length ∧
      SrcAt w' b g rest' cs fa wt (reads + 1) false ∧ Keeps (fun k => k = b) w w' := by
  obtain ⟨ao, cap, hb, ⟨c0, c1, c2, c3, c4, c5⟩, hfr, h2, h3, h4, h5⟩ := h.parts
  obtain ⟨off, rfl, hcell⟩ := h4 (by simp)
  have hbl := h.lt
  have f0 := hfr 0
  have f1 := hfr 1
  have f4 := hfr 4
  have g0 : w.cell? ⟨g, off, none⟩ = some (.int .i64 c) := by have := hcell 0 (by simp); simpa using this
  have g1 : ∀ v, (w.setCell ⟨b, 4, none⟩ v).cell? ⟨g, off, none⟩ = some (.int .i64 c) := fun v => ((Keeps.refl (fun k => k = b) w).setCell (p := ⟨b, 4, none⟩) (fun _ => rfl) v).cell_some g0 h5
  have e1 : ((reads : Int) + 1 == fa) = false := by rw [beq_eq_false_iff_ne]; exact hf
  simp only [List.length_cons] at c1 h2 hb hcell
  obtain ⟨m, hm⟩ : ∃ m, m = (pieceOf rest.data.toList (c :: cs)).length := ⟨_, rfl⟩
  have hlen : rest.data.toList.length = rest.size := by simp
  have hmr : m ≤ rest.size := by rw [hm, ← hlen]; exact pieceOf_le _ _
  have hple : pieceOf rest.data.toList (c :: cs) = rest.data.toList.take m := by
    rw [hm]
    simp only [pieceOf]
    split
    · simp
    · simp only [List.length_take]
      rw [List.take_eq_take_iff]
      simp
  have hp2 : (rest.extract 0 m).data.toList = pieceOf rest.data.toList (c :: cs) := by rw [Lib.extract_data, List.drop_zero, Nat.sub_zero]; exact hple.symm
  have hr2 : (rest.extract m rest.size).data.toList = rest.data.toList.drop (rest.extract 0 m).data.toList.length := by
    rw [hp2, ← hm, Lib.extract_data, List.take_of_length_le (by simp)]
  have hdn : doneOf wt rest.data.toList (c :: cs) = (wt && m == rest.size && cs.isEmpty) := by rw [doneOf_cons, ← hm, hlen]
  have hclm : c < 0 ∨ (rest.size : Int) < c → m = 0 := by intro hh; rw [hm]; simp only [pieceOf]; rw [if_pos (by rw [hlen]; exact hh)]; rfl
  have hncl : ¬ (c < 0 ∨ (rest.size : Int) < c) → c = m := by intro hh; rw [hm]; simp only [pieceOf]; rw [if_neg (by rw [hlen]; exact hh)]; simp; omega
  obtain ⟨ao, hao⟩ : ∃ ao, ao = (if cap = 1 then some (⟨g, off, none⟩ : Addr) else some ⟨g, off + 1, none⟩) := ⟨_, rfl⟩
  have fin : ∀ (X : World), X.heap = (((w.setCell ⟨b, 4, none⟩ (.int .i64 ((reads : Int) + 1))).setCell ⟨b, 1, none⟩ (.slice ao cs.length (cap - 1))).setCell ⟨b, 0, none⟩ (.string (rest.extract m rest.size))).heap → X.os = w.os → X.tape = w.tape → X.output = w.output →
      SrcAt X b g (rest.extract m rest.size) cs fa wt (reads + 1) false ∧ Keeps (fun k => k = b) w X := by
    intro X hX x1 x2 x3
    have hk : Keeps (fun k => k = b) w (((w.setCell ⟨b, 4, none⟩ (.int .i64 ((reads : Int) + 1))).setCell ⟨b, 1, none⟩ (.slice ao cs.length (cap - 1))).setCell ⟨b, 0, none⟩ (.string (rest.extract m rest.size))) :=
      (((Keeps.refl (fun k => k = b) w).setCell (p := ⟨b, 4, none⟩) (fun _ => rfl) _).setCell (p := ⟨b, 1, none⟩) (fun _ => rfl) _).setCell (p := ⟨b, 0, none⟩) (fun _ => rfl) _
    have hkX : Keeps (fun k => k = b) w X := ⟨x1, x2, x3, by rw [hX]; exact hk.size, fun k h4 h5 => by rw [hX]; exact hk.block k h4 h5⟩
    refine ⟨⟨ao, cap - 1, ?_, by omega, fun hn => ?_, fun hne => ?_, h5⟩, hkX⟩
    · rw [hX, heap_set (heap_set (heap_set hb _) _) _]
      simp
    · rw [hao] at hn
      split at hn <;> cases hn
    · have hl : 0 < cs.length := List.length_pos_iff.2 hne
      refine ⟨off + 1, by rw [hao, if_neg (by omega)], fun j hj => ?_⟩
      refine hkX.cell_some ?_ h5
      have := hcell (j + 1) (by omega)
      rw [show off + 1 + j = off + (j + 1) by omega]
      simpa using this
  have hslice : ∀ W : World, (Instr.slice 23 (.slice (some ⟨g, off, none⟩) (cs.length + 1) cap) (some (.int .i64 1)) none none).run Tryd.prog W = .ok (.slice ao cs.length (cap - 1)) W := by
    intro W
    rw [hao]
    have e := run_slice_l (P := Tryd.prog) W 23 (some ⟨g, off, none⟩) (cs.length + 1) cap (by kernel_rfl) .i64 1 (by omega) (by omega)
    have hs : (sizeOf (Tryd.prog.elem 23)).run Tryd.prog W = .ok 1 W := by kernel_rfl
    rw [e, hs]
    simp only [Result.andThen, sliced]
    by_cases h1 : cap = 1
    · simp [h1]
    · have h1' : ¬ cap = (1 : Int).toNat := by simpa using h1
      rw [if_neg h1, if_neg h1']
      simp [Addr.add]
  have FIN := Lib.hid fin
  have HBL := Lib.hid hb
  have HP2 := Lib.hid hp2
  have HR2 := Lib.hid hr2
  have HDN := Lib.hid hdn
  have HCL := Lib.hid hclm
  have HNC := Lib.hid hncl
  have HAO := Lib.hid hao
  clear fin hp2 hr2 hdn hclm hncl hple hcell h3 h4 h5 hfr h hf hb hm hlen hao
  go_enter Tryd.func165, Tryd.ntmps165
  go_wp2_with fail
  go_quiet (fail)
  go_upto_region 7 with fail
  refine name_world fun X hX => ?_
  have hXh : X.heap = ((w.setCell ⟨b, 4, none⟩ (.int .i64 ((reads : Int) + 1))).setCell ⟨b, 1, none⟩ (.slice ao cs.length (cap - 1))).heap := by rw [hX]; rfl
  have hXo : X.os = w.os ∧ X.tape = w.tape ∧ X.output = w.output := by rw [hX]; exact ⟨rfl, rfl, rfl⟩
  have hXb : X.heap[b]? = some (.cells ((#[.string rest, .slice (some ⟨g, off, none⟩) (cs.length + 1) cap, .int .i64 fa, .bool wt, .int .i64 reads, .bool false].setIfInBounds 4 (.int .i64 ((reads : Int) + 1))).setIfInBounds 1 (.slice ao cs.length (cap - 1))) 53 (0, 0)) := by
    rw [hXh]; exact heap_set (heap_set HBL.out _) _
  have d0 : X.cell? ⟨b, 0, none⟩ = some (.string rest) := by rw [Lib.cell_of_heap hXb]; rfl
  have d1 : X.cell? ⟨b, 1, none⟩ = some (.slice ao cs.length (cap - 1)) := by rw [Lib.cell_of_heap hXb]; rfl
  have d3 : X.cell? ⟨b, 3, none⟩ = some (.bool wt) := by rw [Lib.cell_of_heap hXb]; rfl
  have k0 : X.frozen? ⟨b, 0, none⟩ = false := Lib.frozen_of_heap hXb 0
  have FIN2 : Hid (SrcAt (X.setCell ⟨b, 0, none⟩ (.string (rest.extract m rest.size))) b g (rest.extract m rest.size) cs fa wt (reads + 1) false ∧ Keeps (fun k => k = b) w (X.setCell ⟨b, 0, none⟩ (.string (rest.extract m rest.size)))) := by
    refine FIN.out _ ?_ hXo.1 hXo.2.1 hXo.2.2
    exact heap_setCell_congr hXh
  clear hX hXh hXo hXb c0 c1 c2 c3 c4 c5 f0 f1 f4 g0 g1 hslice FIN
  obtain ⟨cl, hcl⟩ : ∃ cl : Bool, cl = decide (c < 0 ∨ (rest.size : Int) < c) := ⟨_, rfl⟩
  have HCB := Lib.hid hcl
  clear hcl
  go_cut [65] (fun v wx => v = .bool cl ∧ X = wx)
  case first =>
    by_cases hc0 : c < 0
    · go_wp2
      go_meet
      exact ⟨by rw [show cl = _ from HCB.out]; simp [hc0], rfl⟩
    · by_cases hc1 : (rest.size : Int) < c
      · go_wp2
        go_meet
        exact ⟨by rw [show cl = _ from HCB.out]; simp [hc1], rfl⟩
      · go_wp2
        go_meet
        exact ⟨by rw [show cl = _ from HCB.out]; simp [hc0, hc1], rfl⟩
  case rest =>
    obtain ⟨rfl, rfl⟩ := hcut
    go_upto_if 65 with fail
    go_cut [5] (fun v wx => v = .int .i64 m ∧ X = wx)
    case first =>
      cases cl
      · have e3 := HNC.out (by have := HCB.out; simpa using this.symm)
        have E3 := Lib.hid e3
        clear e3
        go_wp2
        go_meet
        exact ⟨by rw [show c = m from E3.out], rfl⟩
      · have e3 := HCL.out (by have := HCB.out; simpa using this.symm)
        have E3 := Lib.hid e3
        clear e3
        go_wp2
        go_meet
        exact ⟨by rw [show m = 0 from E3.out]; rfl, rfl⟩
    case rest =>
      obtain ⟨rfl, rfl⟩ := hcut
      go_upto_region 11 with fail
      cases wt
      · have HDD : Hid (doneOf false rest.data.toList (c :: cs) = false) := by show _ = _; rw [HDN.out]; simp
        go_quiet (fail)
        go_wp2_with fail
        go_ret3
        exact ⟨_, _, by rw [show doneOf _ _ _ = _ from HDD.out]; rfl, HP2.out, HR2.out, FIN2.out.1.kept (Keeps.drewN (Keeps.refl (fun _ => False) _) _) (fun h => h) (fun h => h), FIN2.out.2.drewN _⟩
      · by_cases hz : m = rest.size
        · have q1 : (rest.extract m rest.size).toList.isEmpty = true := by rw [Lib.extract_toList]; simp [hz]
          have q4 : (rest.extract m rest.size).toList = [] := by rw [Lib.extract_toList]; simp [hz]
          by_cases hcs0 : cs.length = 0
          · have q2 : ((cs.length : Int) == 0) = true := by rw [hcs0]; rfl
            have q3 : (cs.length == 0) = true := by rw [hcs0]; rfl
            have HDD : Hid (doneOf true rest.data.toList (c :: cs) = true) := by show _ = _; rw [HDN.out]; simp [hz, List.eq_nil_of_length_eq_zero hcs0]
            clear hz hcs0
            go_quiet (fail)
            go_wp2_with fail
            go_ret3
            exact ⟨_, _, by rw [show doneOf _ _ _ = _ from HDD.out]; rfl, HP2.out, HR2.out, FIN2.out.1.kept (Keeps.drewN (Keeps.refl (fun _ => False) _) _) (fun h => h) (fun h => h), FIN2.out.2.drewN _⟩
          · have q2 : ((cs.length : Int) == 0) = false := by rw [beq_eq_false_iff_ne]; omega
            have q3 : (cs.length == 0) = false := by rw [beq_eq_false_iff_ne]; exact hcs0
            have HDD : Hid (doneOf true rest.data.toList (c :: cs) = false) := by show _ = _; rw [HDN.out]; simp; intro _; intro e; rw [e] at hcs0; simp at hcs0
            clear hz hcs0
            go_quiet (fail)
            go_wp2_with fail
            go_ret3
            exact ⟨_, _, by rw [show doneOf _ _ _ = _ from HDD.out]; rfl, HP2.out, HR2.out, FIN2.out.1.kept (Keeps.drewN (Keeps.refl (fun _ => False) _) _) (fun h => h) (fun h => h), FIN2.out.2.drewN _⟩
        · have q1 : (rest.extract m rest.size).toList.isEmpty = false := by rw [Lib.extract_toList]; simp; omega
          have HDD : Hid (doneOf true rest.data.toList (c :: cs) = false) := by show _ = _; rw [HDN.out]; simp [hz]
          clear hz
          go_quiet (fail)
          go_wp2_with fail
          go_ret3
          exact ⟨_, _, by rw [show doneOf _ _ _ = _ from HDD.out]; rfl, HP2.out, HR2.out, FIN2.out.1.kept (Keeps.drewN (Keeps.refl (fun _ => False) _) _) (fun h => h) (fun h => h), FIN2.out.2.drewN _⟩
end Go.Proofs.YtbioecifiogffaaDoor
