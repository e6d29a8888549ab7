/- Texts of this proof, joined: Prs1, Prs2, Prs3, Prs4, Prs5, Prs6, Prs7, Par1, Par2, Par3, SameSl, Round. Conditions: as each theorem names them. -/
import Derived.Test.YtbioecifiogffaaGreatDoorR7
import Derived.Test.YtbioecifiogffaaGreatDoorR1
import Derived.Test.YtbioecifiogffaaGreatDoorR2
import Derived.Test.YtbioecifiogffaaGreatDoorR5
import Derived.Test.YtbioecifiogffaaGreatDoorR3
import Derived.Test.YtbioecifiogffaaGreatDoorR4
import Derived.Maps.Keyed
import Derived.DeepKeys4
import Derived.Laws.StructEq
import Derived.Laws.ResultCell
import Derived.Laws.Rows
import Derived.RangeFuncNested
import Derived.RangeFuncCalls
import Derived.RangeFuncLeaves
import Derived.OwnWalkIn
import Derived.TacticsInMore
import Derived.LoopNIn
import Derived.LoopIn
import Derived.Shelf.RegionOpen
set_option linter.unusedVariables false
set_option linter.unusedSimpArgs false
set_option maxHeartbeats 8000000
set_option maxRecDepth 1000000
namespace Go.Proofs.YtbioecifiogffaaGreatDoor
open Go.RowKit
theorem Tryz.infoNode : (Tryz.prog.info? 148).map (fun i => (i.zero, i.size, i.bytes)) = some (some (.agg #[.int .i64 0, .bool false, .int .i64 0, .string ⟨#[]⟩, .int .i64 0, .int .i64 0]), 6, 56) := by kernel_rfl
abbrev Nd := EvL × Nat × Nat
def ndCells (x : Nd) : List Value := x.1.1.cells ++ [.int .i64 x.2.1, .int .i64 x.2.2]
def ndsCells (l : List Nd) : List Value := l.flatMap ndCells
theorem ndCells_length (x : Nd) : (ndCells x).length = 6 := by simp [ndCells, Ev.cells]
theorem ndsCells_length (l : List Nd) : (ndsCells l).length = l.length * 6 := by
 induction l with
 | nil => rfl
 | cons x r ih => unfold ndsCells at ih ⊢; rw [List.flatMap_cons, List.length_append, ndCells_length, ih, List.length_cons]; omega
theorem ndsCells_append (a b : List Nd) : ndsCells (a ++ b) = ndsCells a ++ ndsCells b := by simp [ndsCells]
def txts (L : List EvL) : List UInt8 := L.flatMap fun x => if x.2 then x.1.text else []
theorem txts_append (a b : List EvL) : txts (a ++ b) = txts a ++ txts b := by simp [txts]
def ndsOf : Nat → List EvL → List Nd
 | _, [] => []
 | lo, x :: r => if x.2 then (x, lo, lo + x.1.text.length) :: ndsOf (lo + x.1.text.length) r else (x, 0, 0) :: ndsOf lo r
def ndOf (lo : Nat) (x : EvL) : Nd := if x.2 then (x, lo, lo + x.1.text.length) else (x, 0, 0)
theorem ndsOf_snoc (x : EvL) : ∀ (L : List EvL) (lo : Nat), ndsOf lo (L ++ [x]) = ndsOf lo L ++ [ndOf (lo + (txts L).length) x] := by
 intro L
 induction L with
 | nil => intro lo; simp only [List.nil_append, ndsOf, ndOf, txts, List.flatMap_nil, List.length_nil, Nat.add_zero]; split <;> rfl
 | cons y r ih =>
  intro lo
  rw [List.cons_append]
  unfold ndsOf
  split
  ·rename_i h
   rw [ih]
   have e : txts (y :: r) = y.1.text ++ txts r := by simp [txts, h]
   rw [e, List.length_append, Nat.add_assoc]
   rfl
  ·rename_i h
   rw [ih]
   have e : txts (y :: r) = txts r := by simp [txts, h]
   rw [e]
   rfl
theorem ndsOf_length (L : List EvL) : ∀ lo, (ndsOf lo L).length = L.length := by
 induction L with
 | nil => intro lo; rfl
 | cons x r ih => intro lo; unfold ndsOf; split <;> simp [ih]
def BgF (P Bb Bp mb : Nat) (w : World) (L : List EvL) (o : Nat → Prop) : Prop :=
 ∃ nv gb, w.heap[P]? = some (.cells #[.nilIface, .bool true, .nilIface, nv, .string ⟨#[]⟩, .map (some mb), .slice none 0 0] 144 (0, 0)) ∧ w.ownsRow 0 148 6 nv L.length (ndsCells (ndsOf 0 L)) ∧
  BIs w Bb gb (Lib.byteCells (txts L)) ∧ gb < w.heap.size ∧ w.heap[Bp]? = some (.cells #[.pointer (some ⟨P, 0, none⟩)] 91 (0, 0)) ∧ (∀ b, o b ↔ (b = P ∨ nv.ownBlock = some b ∨ b = Bb ∨ b = gb ∨ b = Bp)) ∧ (gb = Bb ∨ ∃ cs, w.heap[gb]? = some (.cells cs 5 (0, 0)))
theorem node_new (w : World) (x : Nd) (t : TypeId) (H : Nat) (hH : w.heap.size = H) : ∀ ad, some (⟨H, 0, none⟩ : Addr) = some ad → ∀ j u, (ndCells x)[j]? = some u → (w.alloc (.cells (ndCells x).toArray t)).cell? (ad.add j) = some u := by
 intro ad had j u hj
 cases had
 subst hH
 rw [Addr.add_lit, Nat.zero_add, Lib.cell_of_heap (heap_alloc_new w _)]
 simpa using hj
theorem node_one (x : Nd) : ∀ u ∈ ndCells x, u.oneCell' = true := by
 intro u hu
 simp [ndCells, Ev.cells] at hu
 rcases hu with rfl | rfl | rfl | rfl | rfl | rfl <;> rfl
theorem BIs.low2 {w : World} {b g : Nat} {bs : List Value} (h : BIs w b g bs) : ∃ g', BIs w b g' bs ∧ (g' = b ∨ ∃ cs, w.heap[g']? = some (.cells cs 5 (0, 0))) ∧ (g' = g ∨ g' = b) ∧ g' < w.heap.size := by
 have hlt := h.lt
 obtain ⟨p, v, hb, hp, hr⟩ := h
 rcases hr.1.2 with ⟨h0, h1⟩ | ⟨g', cap, cur, hv, hbg, hgg, rest⟩
 ·exact ⟨b, ⟨p, v, hb, hp, hr.1, fun k hk => by rw [h0] at hk; cases hk⟩, .inl rfl, .inr rfl, hlt⟩
 ·have e1 : g' = g := hr.2 g' (by rw [hv]; rfl)
  subst e1
  exact ⟨g', ⟨p, v, hb, hp, hr⟩, .inr ⟨cur, hgg⟩, .inl rfl, (Array.getElem?_eq_some_iff.1 hgg).1⟩
theorem ne_of_types {w : World} {a b : Nat} {cs cs' : Array Value} {t t' : TypeId} {f f' : Nat × Nat} (h : w.heap[a]? = some (.cells cs t f)) (h' : w.heap[b]? = some (.cells cs' t' f')) (hne : t ≠ t') : a ≠ b := by
 rintro rfl
 rw [h] at h'
 cases h'
 exact hne rfl
def NodeS (P Bp Nb : Nat) (nv : Value) (x : Nd) (w : World) : Prop :=
 w.cell? ⟨Bp, 0, none⟩ = some (.pointer (some ⟨P, 0, none⟩)) ∧ w.cell? ⟨P, 3, none⟩ = some nv ∧ w.cell? ⟨Nb, 0, none⟩ = some (.int .i64 x.1.1.kind) ∧ w.cell? ⟨Nb, 1, none⟩ = some (.bool x.1.1.fin) ∧ w.cell? ⟨Nb, 2, none⟩ = some (.int .i64 x.1.1.level) ∧ w.cell? ⟨Nb, 3, none⟩ = some (.string ⟨x.1.1.text.toArray⟩) ∧ w.cell? ⟨Nb, 4, none⟩ = some (.int .i64 x.2.1) ∧ w.cell? ⟨Nb, 5, none⟩ = some (.int .i64 x.2.2)
theorem NodeS.kept {D : Nat → Prop} {w w' : World} {P Bp Nb : Nat} {nv : Value} {x : Nd} (h : NodeS P Bp Nb nv x w) (hk : Keeps D w w') (h1 : ¬ D Bp) (h2 : ¬ D P) (h3 : ¬ D Nb) : NodeS P Bp Nb nv x w' := by
 obtain ⟨a, b, c, d, e, f, g, i⟩ := h
 exact ⟨hk.cell_some a h1, hk.cell_some b h2, hk.cell_some c h3, hk.cell_some d h3, hk.cell_some e h3, hk.cell_some f h3, hk.cell_some g h3, hk.cell_some i h3⟩
theorem begin1_any (P Bb Bp mb : Nat) (x : EvL) (w : World) (L : List EvL) (o : Nat → Prop) (h : BgF P Bb Bp mb w L o) (hl : L.length ≤ 1048576) (ht : (txts L).length ≤ 1048576 ∧ (x.2 = true → (txts L).length + x.1.text.length ≤ 1048576)) :
 Calls Tryz.prog 99 (#[evV x.1, .bool x.2] ++ #[.pointer (some ⟨Bb, 0, none⟩), .pointer (some ⟨Bp, 0, none⟩)]) w fun e w' => e = .returned (.tuple #[]) ∧ ∃ o', BgF P Bb Bp mb w' (L ++ [x]) o' ∧ Mv o o' w w' := by
 obtain ⟨nv, gb, hP, hnv, hB, hgl, hBp, ho, hgt⟩ := h
 obtain ⟨e, lf⟩ := x
 obtain ⟨kd, fn, lv, tx⟩ := e
 have hPl : P < w.heap.size := (Array.getElem?_eq_some_iff.1 hP).1
 have hBpl : Bp < w.heap.size := (Array.getElem?_eq_some_iff.1 hBp).1
 have hBbl := hB.lt
 have hnt := hnv.1
 have HP := Lib.hid hP
 have HNV := Lib.hid hnv
 have HB := Lib.hid hB
 have HBP := Lib.hid hBp
 have HO := Lib.hid ho
 have HGT := Lib.hid hgt
 obtain ⟨ht0, ht1⟩ := ht
 simp only at ht1
 clear hP hnv hB hBp ho hgt hnt
 unfold evV
 go_enter Tryz.func99, Tryz.ntmps99
 go_upto_if 9 with (fail)
 refine name_world fun W hW => ?_
 have hFW : Fresh w W := by rw [hW]; exact ((Keeps.refl _ _).alloc _).alloc _
 have hNW : W.heap[w.heap.size + 1]? = some (.cells #[.int .i64 kd, .bool fn, .int .i64 lv, .string ⟨tx.toArray⟩, .int .i64 0, .int .i64 0] 148 (0, 0)) := by
  rw [hW]
  have := heap_alloc_new (w.alloc (.cells #[.int .i64 kd, .bool fn, .int .i64 lv, .string ⟨tx.toArray⟩] 97)) (.cells #[.int .i64 kd, .bool fn, .int .i64 lv, .string ⟨tx.toArray⟩, .int .i64 0, .int .i64 0] 148)
  simpa using this
 have hEW : W.heap[w.heap.size]? = some (.cells #[.int .i64 kd, .bool fn, .int .i64 lv, .string ⟨tx.toArray⟩] 97 (0, 0)) := by
  rw [hW, Below.heap_alloc _ _ _ (by simp)]
  exact heap_alloc_new w _
 clear hW
 obtain ⟨N, hN⟩ : ∃ N, ndOf (txts L).length ((⟨kd, fn, lv, tx⟩, lf) : EvL) = N := ⟨_, rfl⟩
 have hbl : (Lib.byteCells (txts L)).length = (txts L).length := by simp [Lib.byteCells]
 have hPB : P ≠ Bb := by obtain ⟨_, _, hb, _⟩ := HB.out; exact ne_of_types HP.out hb (by decide)
 have hpB : Bp ≠ Bb := by obtain ⟨_, _, hb, _⟩ := HB.out; exact ne_of_types HBP.out hb (by decide)
 have hPg : P ≠ gb := by
  rcases HGT.out with h | ⟨cs, h⟩
  ·rw [h]; exact hPB
  ·exact ne_of_types HP.out h (by decide)
 have hpg : Bp ≠ gb := by
  rcases HGT.out with h | ⟨cs, h⟩
  ·rw [h]; exact hpB
  ·exact ne_of_types HBP.out h (by decide)
 have hnB : ¬ nv.ownBlock = some Bb := by obtain ⟨_, _, hb, _⟩ := HB.out; exact own_ne HNV.out hb (by decide)
 have hng : ¬ nv.ownBlock = some gb := by
  rcases HGT.out with h | ⟨cs, h⟩
  ·rw [h]; exact hnB
  ·exact own_ne HNV.out h (by decide)
 have hnP : ¬ nv.ownBlock = some P := own_ne HNV.out HP.out (by decide)
 have hnp : ¬ nv.ownBlock = some Bp := own_ne HNV.out HBP.out (by decide)
 have hBW := HB.out.kept hFW (fun h => h) (fun _ h => h)
 have n0 : W.cell? ⟨w.heap.size, 3, none⟩ = some (.string ⟨tx.toArray⟩) := by rw [Lib.cell_of_heap hEW]; rfl
 have n4 : W.cell? ⟨w.heap.size + 1, 4, none⟩ = some (.int .i64 0) := by rw [Lib.cell_of_heap hNW]; rfl
 have nf : ∀ j, W.frozen? ⟨w.heap.size + 1, j, none⟩ = false := fun j => Lib.frozen_of_heap hNW j
 have HFW := Lib.hid hFW
 have HNW := Lib.hid hNW
 have HNN := Lib.hid hN
 have HBW := Lib.hid hBW
 have HBL := Lib.hid hbl
 have HI := Lib.hid Tryz.infoNode
 clear hFW hNW hEW hN hBW hbl
 go_cut [] (fun wx => ∃ gb2, wx.heap[w.heap.size + 1]? = some (.cells (ndCells N).toArray 148 (0, 0)) ∧ BIs wx Bb gb2 (Lib.byteCells (txts (L ++ [((⟨kd, fn, lv, tx⟩, lf) : EvL)]))) ∧ (gb2 = gb ∨ w.heap.size ≤ gb2) ∧ Keeps (fun j => j = Bb ∨ j = gb) w wx)
 case first =>
  cases lf with
  | false =>
   have hN2 : ndOf (txts L).length ((⟨kd, fn, lv, tx⟩, false) : EvL) = ((⟨kd, fn, lv, tx⟩, false), 0, 0) := rfl
   have ht2 : txts (L ++ [((⟨kd, fn, lv, tx⟩, false) : EvL)]) = txts L := by simp [txts]
   have HN2 := Lib.hid hN2
   have HT2 := Lib.hid ht2
   clear hN2 ht2
   go_wp2
   go_meet
   refine ⟨gb, ?_, by rw [HT2.out]; exact HBW.out, .inl rfl, HFW.out.mono (fun _ _ h => h.elim)⟩
   rw [← HNN.out, HN2.out]
   exact HNW.out
  | true =>
   have ht := ht1 rfl
   obtain ⟨T, hT⟩ : ∃ T, (txts L).length = T := ⟨_, rfl⟩
   have hN2 : ndOf (txts L).length ((⟨kd, fn, lv, tx⟩, true) : EvL) = ((⟨kd, fn, lv, tx⟩, true), T, T + tx.length) := by rw [hT]; rfl
   have ht2 : txts (L ++ [((⟨kd, fn, lv, tx⟩, true) : EvL)]) = txts L ++ tx := by simp [txts]
   have hlen1 := Builder_Len Bb gb (Lib.byteCells (txts L)) W HBW.out
   rw [HBL.out, hT] at hlen1
   have hws := fun (X : World) (hX : Keeps (fun j => j = w.heap.size + 1) W X) => Builder_WriteString Bb gb _ ⟨tx.toArray⟩ X (HBW.out.kept hX (by omega) (fun _ => by omega)) (by have := HBL.out; simp [ByteArray.size]; omega)
   have hNX : ∀ X : World, W.setCell ⟨w.heap.size + 1, 4, none⟩ (.int .i64 T) = X → X.heap[w.heap.size + 1]? = some (.cells #[.int .i64 kd, .bool fn, .int .i64 lv, .string ⟨tx.toArray⟩, .int .i64 T, .int .i64 0] 148 (0, 0)) := fun X hX => by
    rw [← hX]
    simp [World.setCell, Array.getElem?_modify, HNW.out]
   have HLEN1 := Lib.hid hlen1
   have HWS := Lib.hid hws
   have HNX := Lib.hid hNX
   have HT := Lib.hid hT
   have HN2 := Lib.hid hN2
   have HT2 := Lib.hid ht2
   clear hlen1 hws hNX hT hN2 ht2
   go_wp2_with fail
   refine HLEN1.out.mono ?_
   rintro r w2 ⟨rfl, rfl⟩
   go_wp2_with fail
   refine (HWS.out _ ((Keeps.refl (fun j => j = w.heap.size + 1) W).setCell (p := ⟨w.heap.size + 1, 4, none⟩) (fun _ => rfl) _)).mono ?_
   rintro r w3 ⟨rfl, gb3, hB3, hg3, hk3⟩
   have hWsz : w.heap.size + 1 < W.heap.size := (Array.getElem?_eq_some_iff.1 HNW.out).1
   have hN3 := hk3.heap_some (HNX.out _ rfl) (fun h => by omega)
   have hlen3 := Builder_Len Bb gb3 _ w3 hB3
   have hl3 : ((Lib.byteCells (txts L) ++ Lib.strCells ⟨tx.toArray⟩).length : Int) = ((T + tx.length : Nat) : Int) := by
    have := HBL.out
    have := HT.out
    rw [List.length_append, Lib.strCells_length]
    simp [ByteArray.size]
    omega
   rw [hl3] at hlen3
   have m5 : w3.cell? ⟨w.heap.size + 1, 5, none⟩ = some (.int .i64 0) := by rw [Lib.cell_of_heap hN3]; rfl
   have mf : ∀ j, w3.frozen? ⟨w.heap.size + 1, j, none⟩ = false := fun j => Lib.frozen_of_heap hN3 j
   have hkw3 : Keeps (fun j => j = Bb ∨ j = gb) w w3 := by
    refine (HFW.out.mono (fun _ _ h => h.elim) : Keeps (fun j => j = Bb ∨ j = gb) w W).trans (((Keeps.refl (fun j => j = w.heap.size + 1 ∨ j = Bb ∨ j = gb) W).setCell (p := ⟨w.heap.size + 1, 4, none⟩) (fun _ => .inl rfl) (.int .i64 T)).tr (hk3.mono (fun _ _ h => .inr h))) (fun j h1 h2 => ?_)
    rcases h2 with h | h
    ·omega
    ·exact h
   have hg4 : gb3 = gb ∨ w.heap.size ≤ gb3 := by
    rcases hg3 with h | h
    ·exact .inl h
    ·have : W.heap.size ≤ gb3 := by simpa using h
     exact .inr (by omega)
   have hgne : gb3 ≠ w.heap.size + 1 := by
    rcases hg3 with h | h
    ·omega
    ·have : W.heap.size ≤ gb3 := by simpa using h
     omega
   have hB4 : ∀ X : World, Keeps (fun j => j = w.heap.size + 1) w3 X → BIs X Bb gb3 (Lib.byteCells (txts L ++ tx)) := fun X hX => by
    have := hB3.kept hX (by omega) (fun _ => hgne)
    rw [Lib.byteCells_append]
    exact this
   have HLEN3 := Lib.hid hlen3
   have HN3 := Lib.hid hN3
   have HKW3 := Lib.hid hkw3
   have HB4 := Lib.hid hB4
   have HG4 := Lib.hid hg4
   clear hB3 hg3 hk3 hN3 hlen3 hl3 hkw3 hg4 hB4 hgne n0 n4 nf
   go_wp2_with fail
   refine HLEN3.out.mono ?_
   rintro r w4 ⟨rfl, rfl⟩
   go_wp2
   go_meet
   refine ⟨gb3, ?_, ?_, HG4.out, ?_⟩
   ·rw [← HNN.out, HN2.out]
    simp [World.setCell, Array.getElem?_modify, HN3.out, ndCells, Ev.cells]
   ·rw [HT2.out]
    exact HB4.out _ ((Keeps.refl (fun j => j = w.heap.size + 1) w3).setCell (p := ⟨w.heap.size + 1, 5, none⟩) (fun _ => rfl) _)
   ·exact HKW3.out.trans ((Keeps.refl (fun j => j = w.heap.size + 1) w3).setCell (p := ⟨w.heap.size + 1, 5, none⟩) (fun _ => rfl) _) (fun j h1 h2 => by omega)
 case rest =>
  obtain ⟨gb2, hNc, hBc, hgc, hkc⟩ := hcut
  obtain ⟨⟨⟨k1, f1, l1, t1⟩, lf1⟩, a1, b1⟩ := N
  obtain ⟨g3, hB3, hgt3, hg3, hgl3⟩ := hBc.low2
  have hg3n : g3 = gb ∨ g3 = Bb ∨ w.heap.size ≤ g3 := by
   rcases hg3 with h | h
   ·rcases hgc with h' | h'
    ·exact .inl (h.trans h')
    ·exact .inr (.inr (by omega))
   ·exact .inr (.inl h)
  obtain ⟨q, c, rfl, -, -, -⟩ := own_form HNV.out
  have hPc := hkc.heap_some HP.out (fun h => by rcases h with h | h; exact hPB h; exact hPg h)
  have hBpc := hkc.heap_some HBP.out (fun h => by rcases h with h | h; exact hpB h; exact hpg h)
  have hnc := own_kept HNV.out hkc (fun k hk h => by
    rcases h with h | h
    ·exact hnB (h ▸ hk)
    ·exact hng (h ▸ hk))
  have hS : NodeS P Bp (w.heap.size + 1) (.slice q L.length c) ((⟨k1, f1, l1, t1⟩, lf1), a1, b1) wc := by
   refine ⟨by rw [Lib.cell_of_heap hBpc]; rfl, by rw [Lib.cell_of_heap hPc]; rfl, ?_, ?_, ?_, ?_, ?_, ?_⟩ <;> (rw [Lib.cell_of_heap hNc]; rfl)
  have HS := Lib.hid hS
  have HPC := Lib.hid hPc
  have HBPC := Lib.hid hBpc
  have HNC := Lib.hid hnc
  have HB3 := Lib.hid hB3
  have HGT3 := Lib.hid hgt3
  have HKC := Lib.hid hkc
  have HNB := Lib.hid hNc
  clear hS hPc hBpc hnc hB3 hgt3 hkc hNc hBc hgc hg3
  go_upto_region 6 with fail
  refine wp_region_K 10 (NodeS P Bp (w.heap.size + 1) (.slice q L.length c) ((⟨k1, f1, l1, t1⟩, lf1), a1, b1)) (by kernel_rfl) ?_
  have hHeld := HS.out.kept ((Keeps.refl (fun _ => False) wc).drew) (fun h => h) (fun h => h) (fun h => h)
  refine K_is [0, 1, 2, 3, 4, 5] ?_
  iterate 6 (refine K_yD (v := ?_) rfl rfl (by kernel_rfl) (fun _ _ _ h => h) (by rfl) ?_ (by assumption) ?_; rotate_left; (· intro _ hSw; (obtain ⟨hS0, hS1, hS2, hS3, hS4, hS5, hS6, hS7⟩ := hSw); first | (go_simp; done) | (go_simp; with_reducible rfl)); try simp only [List.setIfInBounds_toArray, List.set_cons_zero, List.set_cons_succ])
  refine K_no ?_
  refine K_one (i := 6) (by kernel_rfl) rfl (fun K hK => ?_)
  go_simp
  refine hK.out _ _ (hHeld.kept ((Keeps.refl (fun _ => False) _).alloc _) (fun h => h) (fun h => h) (fun h => h)) (fun hHeld2 => ?_)
  clear hK K hHeld
  try simp only [Act.put, List.setIfInBounds_toArray, List.set_cons_zero, List.set_cons_succ]
  have hr6 := own_kept HNC.out (((Keeps.refl (fun _ => False) wc).drew).alloc (.cells #[.int .i64 k1, .bool f1, .int .i64 l1, .string ⟨t1.toArray⟩, .int .i64 a1, .int .i64 b1] 148)) (fun _ _ h => h)
  have HR6 := Lib.hid hr6
  clear hr6
  refine K_one (i := 7) (by kernel_rfl) rfl (fun K hK => ?_)
  refine step_append_mine _ (by rfl) _ _ 142 (by rfl) 148 _ 6 56 Tryz.underlying142 HI.out rfl (by decide) (.slice q L.length c) L.length (ndsCells (ndsOf 0 L)) (by rfl) HR6.out (some ⟨wc.heap.size, 0, none⟩) 1 1 (ndCells ((⟨k1, f1, l1, t1⟩, lf1), a1, b1)) (by rfl) rfl (fun h => (by cases h)) (node_new wc.drew ((⟨k1, f1, l1, t1⟩, lf1), a1, b1) 148 _ rfl) (node_one _) (by unfold maxLen; omega) (by omega) ?_
  intro pp cc w7 hrow hgr hkp
  have hnl : ∀ k, (Value.slice q L.length c).ownBlock = some k → k < w.heap.size := fun k hk => own_lt HNV.out hk
  have hwc : w.heap.size ≤ wc.heap.size := HKC.out.size
  refine hK.out _ _ (hHeld2.kept hkp hnp hnP (fun h => by have := hnl _ h; omega)) (fun hHeld3 => ?_)
  clear hK K hHeld2
  try simp only [Act.put, List.setIfInBounds_toArray, List.set_cons_zero, List.set_cons_succ]
  have hF6 : Fresh wc (wc.drew.alloc (.cells #[.int .i64 k1, .bool f1, .int .i64 l1, .string ⟨t1.toArray⟩, .int .i64 a1, .int .i64 b1] 148)) := ((Keeps.refl (fun _ => False) wc).drew).alloc _
  have hP7 := hkp.heap_some (hF6.heap_some HPC.out (fun h => h)) hnP
  have hBp7 := hkp.heap_some (hF6.heap_some HBPC.out (fun h => h)) hnp
  have fP7 : w7.frozen? ⟨P, 3, none⟩ = false := Lib.frozen_of_heap hP7 3
  have hg3o : ¬ (Value.slice q L.length c).ownBlock = some g3 := fun h => by
   rcases hg3n with h' | h' | h'
   ·exact hng (h' ▸ h)
   ·exact hnB (h' ▸ h)
   ·have := hnl _ h; omega
  have hB7 := (HB3.out.kept hF6 (fun h => h) (fun _ h => h)).kept hkp hnB (fun _ => hg3o)
  have hgt7 : g3 = Bb ∨ ∃ cs, w7.heap[g3]? = some (.cells cs 5 (0, 0)) := by
   rcases HGT3.out with h | ⟨cs, h⟩
   ·exact .inl h
   ·exact .inr ⟨cs, hkp.heap_some (hF6.heap_some h (fun h => h)) hg3o⟩
  have hn7 : ∀ k, (Value.slice pp (L.length + 1) cc).ownBlock = some k → ¬ k = P := fun k hk e => by rw [e] at hk; exact own_ne hrow hP7 (by decide) hk
  obtain ⟨X, hX⟩ : ∃ X, w7.setCell ⟨P, 3, none⟩ (.slice pp (L.length + 1) cc) = X := ⟨_, rfl⟩
  have hkX : Keeps (fun j => j = P) w7 X := by rw [← hX]; exact (Keeps.refl (fun j => j = P) w7).setCell (p := ⟨P, 3, none⟩) (fun _ => rfl) _
  have hPX : X.heap[P]? = some (.cells #[.nilIface, .bool true, .nilIface, .slice pp (L.length + 1) cc, .string ⟨#[]⟩, .map (some mb), .slice none 0 0] 144 (0, 0)) := by
   rw [← hX]
   simp [World.setCell, Array.getElem?_modify, hP7]
  have hrX := own_kept hrow hkX hn7
  have hg3P : g3 ≠ P := by
   rcases hgt7 with h | ⟨cs, h⟩
   ·rw [h]; exact hPB.symm
   ·exact (ne_of_types hP7 h (by decide)).symm
  have hpP : Bp ≠ P := ne_of_types hBp7 hP7 (by decide)
  have hfin : BgF P Bb Bp mb X (L ++ [((⟨kd, fn, lv, tx⟩, lf) : EvL)]) (fun b => b = P ∨ (Value.slice pp (L.length + 1) cc).ownBlock = some b ∨ b = Bb ∨ b = g3 ∨ b = Bp) := by
   have hsz : wc.heap.size ≤ w7.heap.size := Nat.le_trans hF6.size hkp.size
   refine ⟨_, g3, hPX, ?_, hB7.kept hkX hPB.symm (fun _ => hg3P), by have := hkX.size; omega, hkX.heap_some hBp7 hpP, fun b => Iff.rfl, ?_⟩
   ·rw [ndsOf_snoc, Nat.zero_add, HNN.out, ndsCells_append, List.length_append]
    have e1 : ndsCells [(((⟨k1, f1, l1, t1⟩, lf1), a1, b1) : Nd)] = ndCells ((⟨k1, f1, l1, t1⟩, lf1), a1, b1) := by simp [ndsCells]
    rw [e1]
    exact hrX
   ·rcases hgt7 with h | ⟨cs, h⟩
    ·exact .inl h
    ·exact .inr ⟨cs, hkX.heap_some h hg3P⟩
  have hmv : Mv o (fun b => b = P ∨ (Value.slice pp (L.length + 1) cc).ownBlock = some b ∨ b = Bb ∨ b = g3 ∨ b = Bp) w X := by
   refine ⟨((HKC.out.mono (fun j _ h => (HO.out j).2 (by rcases h with h | h; exact .inr (.inr (.inl h)); exact .inr (.inr (.inr (.inl h)))))).tr (hF6.mono (fun _ _ h => h.elim))).tr ((hkp.mono (fun j _ h => (HO.out j).2 (.inr (.inl h)))).tr (hkX.mono (fun j _ h => (HO.out j).2 (.inl h)))), fun j hj => ?_⟩
   rcases hj with h | h | h | h | h
   ·exact .inl ((HO.out j).2 (.inl h))
   ·rcases hgr j h with h | h
    ·exact .inl ((HO.out j).2 (.inr (.inl h)))
    ·exact .inr (Nat.le_trans hwc (Nat.le_trans hF6.size h))
   ·exact .inl ((HO.out j).2 (.inr (.inr (.inl h))))
   ·rcases hg3n with h' | h' | h'
    ·exact .inl ((HO.out j).2 (.inr (.inr (.inr (.inl (h.trans h'))))))
    ·exact .inl ((HO.out j).2 (.inr (.inr (.inl (h.trans h')))))
    ·exact .inr (by omega)
   ·exact .inl ((HO.out j).2 (.inr (.inr (.inr (.inr h)))))
  have HFIN := Lib.hid hfin
  have HMV := Lib.hid hmv
  clear hrow hgr hkp hF6 hP7 hBp7 hB7 hgt7 hkX hPX hrX hfin hmv
  refine K_is [8, 9] ?_
  iterate 2 (refine K_yD (v := ?_) rfl rfl (by kernel_rfl) (fun _ _ _ h => h) (by rfl) ?_ (by assumption) ?_; rotate_left; (· intro _ hSw; (obtain ⟨hS0, hS1, hS2, hS3, hS4, hS5, hS6, hS7⟩ := hSw); first | (go_simp; done) | (go_simp; with_reducible rfl)); try simp only [List.setIfInBounds_toArray, List.set_cons_zero, List.set_cons_succ])
  refine K_no ?_
  have u3 := hHeld3.2.1
  refine K_last (by kernel_rfl) rfl (fun K hK => ?_)
  go_simp
  refine hK.out _ _ ?_
  clear hK K hHeld3
  try simp only [Act.put, List.setIfInBounds_toArray, List.set_cons_zero, List.set_cons_succ]
  refine K_done (by kernel_rfl) ?_ _
  clear hX
  go_wp2
  go_end0
  exact ⟨rfl, _, HFIN.out, HMV.out⟩
theorem bg_emit (P Bb Bp mb : Nat) (R : List EvL) (hR : R.length ≤ 1048576) (ht : (txts R).length ≤ 1048576) : EmitOK 99 #[.pointer (some ⟨Bb, 0, none⟩), .pointer (some ⟨Bp, 0, none⟩)] R (BgF P Bb Bp mb) where
 enter := enters_of Tryz.func99 (by kernel_rfl) rfl
 lt := by
  rintro w L o ⟨nv, gb, hP, hnv, hB, hgl, hBp, ho, -⟩ b hb
  rcases (ho b).1 hb with h | h | h | h | h
  ·rw [h]; exact (Array.getElem?_eq_some_iff.1 hP).1
  ·exact own_lt hnv h
  ·rw [h]; exact hB.lt
  ·rw [h]; exact hgl
  ·rw [h]; exact (Array.getElem?_eq_some_iff.1 hBp).1
 keep := by
  rintro D w w' L o ⟨nv, gb, hP, hnv, hB, hgl, hBp, ho, hgt⟩ hk hD
  have hD' : ∀ b, o b → ¬ D b := fun b h1 h2 => hD b h2 h1
  refine ⟨nv, gb, hk.heap_some hP (hD' _ ((ho _).2 (.inl rfl))), own_kept hnv hk (fun b hb => hD' _ ((ho _).2 (.inr (.inl hb)))), hB.kept hk (hD' _ ((ho _).2 (.inr (.inr (.inl rfl))))) (fun _ => hD' _ ((ho _).2 (.inr (.inr (.inr (.inl rfl)))))), Nat.lt_of_lt_of_le hgl hk.size, hk.heap_some hBp (hD' _ ((ho _).2 (.inr (.inr (.inr (.inr rfl)))))), ho, ?_⟩
  rcases hgt with h | ⟨cs, h⟩
  ·exact .inl h
  ·exact .inr ⟨cs, hk.heap_some h (hD' _ ((ho _).2 (.inr (.inr (.inr (.inl rfl))))))⟩
 call := by
  rintro x w L o h ⟨rest, hr⟩
  refine begin1_any P Bb Bp mb x w L o h ?_ ?_
  ·rw [← hr] at hR; simp at hR; omega
  ·rw [← hr] at ht
   have e : txts (L ++ x :: rest) = txts L ++ (txts [x] ++ txts rest) := by rw [txts_append, ← txts_append [x] rest]; rfl
   rw [e] at ht
   simp only [List.length_append] at ht
   refine ⟨by omega, fun hx => ?_⟩
   have : txts [x] = x.1.text := by simp [txts, hx]
   rw [this] at ht
   omega
end Go.Proofs.YtbioecifiogffaaGreatDoor
namespace Go.Proofs.YtbioecifiogffaaGreatDoor
open Go.RowKit
def SlAt (w : World) (k g : Nat) (v : Value) (xs : List (List Value)) : Prop :=
 ∃ a cap off, v = .slice a xs.length cap ∧ xs.length ≤ cap ∧ cap ≤ maxLen ∧ (xs ≠ [] → a = some ⟨g, off, none⟩ ∧ ∀ (j : Nat) (r : List Value), xs[j]? = some r → ∀ (i : Nat) (u : Value), i < k → r[i]? = some u → w.cell? ⟨g, off + j * k + i, none⟩ = some u)
theorem SlAt.kept {D : Nat → Prop} {w w' : World} {k g : Nat} {v : Value} {xs : List (List Value)} (h : SlAt w k g v xs) (hk : Keeps D w w') (hn : xs ≠ [] → ¬ D g) : SlAt w' k g v xs := by
 obtain ⟨a, cap, off, h1, h2, h3, h4⟩ := h
 exact ⟨a, cap, off, h1, h2, h3, fun hne => ⟨(h4 hne).1, fun j r hr i u hi hu => hk.cell_some ((h4 hne).2 j r hr i u hi hu) (hn hne)⟩⟩
theorem SlAt.nil (w : World) (k g : Nat) : SlAt w k g (.slice none 0 0) [] := ⟨none, 0, 0, rfl, Nat.le_refl _, by decide, fun h => absurd rfl h⟩
theorem SlAt.form {w : World} {k g : Nat} {v : Value} {xs : List (List Value)} (h : SlAt w k g v xs) : ∃ a cap, v = .slice a xs.length cap := by
 obtain ⟨a, cap, off, h1, -⟩ := h
 exact ⟨a, cap, h1⟩
theorem SlAt.head {w : World} {k g : Nat} {v : Value} {r : List Value} {t : List (List Value)} (h : SlAt w k g v (r :: t)) : ∃ cap off, v = .slice (some ⟨g, off, none⟩) (t.length + 1) cap ∧ t.length + 1 ≤ cap ∧ ∀ (i : Nat) (u : Value), i < k → r[i]? = some u → w.cell? ⟨g, off + i, none⟩ = some u := by
 obtain ⟨a, cap, off, rfl, h2, h3, h4⟩ := h
 obtain ⟨rfl, hc⟩ := h4 (by simp)
 refine ⟨cap, off, by simp, by simpa using h2, fun i u hi hu => ?_⟩
 have := hc 0 r rfl i u hi hu
 simpa using this
theorem SlAt.cut {w : World} {k g off n cap : Nat} {r : List Value} {t : List (List Value)} (h : SlAt w k g (.slice (some ⟨g, off, none⟩) n cap) (r :: t)) : SlAt w k g (.slice (if cap = 1 then some ⟨g, off, none⟩ else some ⟨g, off + k, none⟩) t.length (cap - 1)) t := by
 obtain ⟨a, cap', off', he, h2, h3, h4⟩ := h
 cases he
 simp only [List.length_cons] at h2
 refine ⟨_, _, off + k, rfl, by omega, by omega, fun hne => ?_⟩
 have : 0 < t.length := List.length_pos_iff.2 hne
 rw [if_neg (by omega)]
 obtain ⟨hh, hc⟩ := h4 (by simp)
 injection hh with hh
 injection hh with _ ho _
 subst ho
 refine ⟨rfl, fun j r' hr i u hi hu => ?_⟩
 have h9 := hc (j + 1) r' (by simpa using hr) i u hi hu
 rw [Nat.add_mul] at h9
 rw [show off + k + j * k + i = off + (j * k + 1 * k) + i by omega]
 exact h9
theorem own_sl {w : World} {e : TypeId} {k : Nat} {v : Value} {xs : List (List Value)} (hx : ∀ r ∈ xs, r.length = k) (h : w.ownsRow 0 e k v xs.length xs.flatten) : SlAt w k ((v.ownBlock).getD 0) v xs := by
 rcases h.2 with ⟨rfl, h0⟩ | ⟨g, cap, cur, rfl, hb, hg, hc, hm, -⟩
 ·have : xs = [] := List.eq_nil_of_length_eq_zero h0
  subst this
  exact SlAt.nil _ _ _
 ·refine ⟨_, cap, 0, rfl, hc, hm, fun hne => ⟨rfl, fun j r hr i u hi hu => ?_⟩⟩
  have hfl : ∀ (l : List (List Value)), (∀ r ∈ l, r.length = k) → ∀ (j : Nat) (r : List Value), l[j]? = some r → ∀ (i : Nat) (u : Value), i < k → r[i]? = some u → l.flatten[j * k + i]? = some u := by
   intro l
   induction l with
   | nil => intro _ j r hr; simp at hr
   | cons a t ih =>
    intro hl j r hr i u hi hu
    have ha := hl a (List.mem_cons_self ..)
    cases j with
    | zero =>
     simp at hr
     subst hr
     rw [List.flatten_cons, List.getElem?_append_left (by omega)]
     simpa using hu
    | succ j =>
     rw [List.flatten_cons, List.getElem?_append_right (by rw [ha, Nat.add_mul]; omega)]
     have := ih (fun r hr => hl r (List.mem_cons_of_mem _ hr)) j r (by simpa using hr) i u hi hu
     rw [ha, Nat.add_mul, show j * k + 1 * k + i - k = j * k + i by omega]
     exact this
  have := World.ownsRow.cells (v := .slice (some ⟨g, 0, none⟩) xs.length cap) h (g := g) rfl (j * k + i) u (hfl xs hx j r hr i u hi hu)
  rw [Addr.add_lit, Nat.zero_add] at this
  show w.cell? ⟨g, 0 + j * k + i, none⟩ = some u
  rw [Nat.zero_add]
  exact this
def nodeOK (T : List UInt8) : Nat → List Nd → Prop
 | _, [] => True
 | lo, (x, a, b) :: r => if x.2 then lo ≤ a ∧ a < b ∧ b ≤ T.length ∧ (T.take b).drop a = x.1.text ∧ nodeOK T b r else a = 0 ∧ b = 0 ∧ nodeOK T lo r
theorem nodeOK_of (L : List EvL) (hne : ∀ x ∈ L, x.2 = true → x.1.text ≠ []) : ∀ (T : List UInt8) (lo : Nat), T.drop lo = txts L → lo ≤ T.length → nodeOK T lo (ndsOf lo L) := by
 induction L with
 | nil => intro T lo _ _; trivial
 | cons x r ih =>
  intro T lo hT hlo
  unfold ndsOf
  have hr := fun y hy => hne y (List.mem_cons_of_mem _ hy)
  split
  ·rename_i h
   have e : txts (x :: r) = x.1.text ++ txts r := by simp [txts, h]
   rw [e] at hT
   have hx := hne x (List.mem_cons_self ..) h
   have hxl := List.length_pos_iff.2 hx
   have hl := congrArg List.length hT
   rw [List.length_drop, List.length_append] at hl
   unfold nodeOK
   rw [if_pos h]
   refine ⟨Nat.le_refl _, by omega, by omega, ?_, ih hr T _ ?_ (by omega)⟩
   ·rw [List.drop_take, hT]
    rw [show lo + x.1.text.length - lo = x.1.text.length by omega, List.take_append_of_le_length (Nat.le_refl _), List.take_of_length_le (Nat.le_refl _)]
   ·rw [← List.drop_drop, hT, List.drop_append_of_le_length (Nat.le_refl _), List.drop_of_length_le (Nat.le_refl _), List.nil_append]
  ·rename_i h
   have e : txts (x :: r) = txts r := by simp [txts, h]
   rw [e] at hT
   unfold nodeOK
   rw [if_neg h]
   exact ⟨rfl, rfl, ih hr T lo hT hlo⟩
def rem (nds : List Nd) (wt : List Ev) : List Ev := wt ++ nds.flatMap fun x => expand x.1
theorem rem_ndsOf (L : List EvL) : ∀ lo, rem (ndsOf lo L) [] = L.flatMap expand := by
 unfold rem
 induction L with
 | nil => intro lo; rfl
 | cons x r ih =>
  intro lo
  unfold ndsOf
  split
  ·simp only [List.flatMap_cons, List.nil_append] at ih ⊢
   rw [ih]
  ·simp only [List.flatMap_cons, List.nil_append] at ih ⊢
   rw [ih]
theorem Tryz.laidOutB : laidOutB Tryz.prog = true := by kernel_rfl
theorem spanKeyed : Maps.Keyed Tryz.prog 146 := Maps.Keyed.of_law (deep_law_laid Tryz.laidOutB (m := 2) (by omega) (of_decide_eq_true (by kernel_rfl)) (by kernel_rfl) (by kernel_rfl))
theorem lit_wf (a : Nat) (h : a ≤ 1073741824) : (Lit.int .i64 a).wf = true := by
 simp [Lit.wf, IntKind.min, IntKind.max, IntKind.signed, IntKind.bits]
 omega
theorem keyInt (d n : Nat) (h : (Lit.int .i64 n).wf = true) : Tryz.prog.keyLits (d + 1) 3 [.int .i64 n] = some [.int .i64 n] := by
 unfold Program.keyLits
 rw [Tryz.underlying3]
 simp [h]
theorem spanKey (a b : Nat) (ha : a ≤ 1073741824) (hb : b ≤ 1073741824) : ∃ l, keyOf Tryz.prog 146 (.agg #[.int .i64 a, .int .i64 b]) = some l := by
 have h1 := lit_wf a ha
 have h2 := lit_wf b hb
 have h3 : Tryz.prog.keyType 146 = true := by kernel_rfl
 have hf : (Value.agg #[.int .i64 a, .int .i64 b]).formed Tryz.prog 146 = true := by kernel_rfl
 have hc : Tryz.prog.cellsOf 146 = 2 := by kernel_rfl
 have hc3 : Tryz.prog.cellsOf 3 = 1 := by kernel_rfl
 have hn : Tryz.prog.types.size = 314 := by kernel_rfl
 have hk : Tryz.prog.keyLits (Tryz.prog.types.size + 1) 146 [.int .i64 a, .int .i64 b] = some [.int .i64 a, .int .i64 b] := by
  rw [hn]
  unfold Program.keyLits
  rw [Tryz.underlying146]
  simp only [hc, List.length_cons, List.length_nil]
  simp [hc3, keyInt _ _ h1, keyInt _ _ h2]
 unfold keyOf
 rw [Tryz.underlying146]
 simp only [h3, hf, Bool.and_self, if_true]
 rw [show (Value.agg #[.int .i64 a, .int .i64 b]).cells.toList = [.int .i64 a, .int .i64 b] from rfl, hk]
 exact ⟨_, rfl⟩
theorem map_miss {mb : Nat} {es : Array MapEntry} {clock : Nat} {key : Value} {kl : Lit} {w : World} (hb : w.heap[mb]? = some (.map es clock)) (hkey : keyOf Tryz.prog 146 key = some kl) (hall : ∀ e ∈ es.toList, ∃ l, keyOf Tryz.prog 146 e.key = some l) (hne : ∀ e ∈ es.toList, e.key ≠ key) :
 (Instr.lookup 141 (.map (some mb)) key true).run Tryz.prog w = .ok (.tuple #[.slice none 0 0, .bool false]) w ∧
 ∀ val, (Instr.mapUpdate 141 (.map (some mb)) key val).run Tryz.prog w = .ok () (ChangeMaps.setBlock w mb (.map (es.push { key, val, born := clock }) (clock + 1))) := by
 have K := spanKeyed
 have hz : (zeroValue 131).run Tryz.prog w = .ok (.slice none 0 0) w := by kernel_rfl
 have hc := fun em => K.check w em hkey
 have hf : (Instr.findKey 146 key es.toList).run Tryz.prog w = .ok none w := by
  rcases K.find w hkey es.toList hall with ⟨h1, _⟩ | ⟨j, e, _, h2, h3⟩
  ·exact h1
  ·exact absurd h3 (hne e (List.mem_of_getElem? h2))
 constructor
 ·simp [Instr.lookup, run_underlying Tryz.underlying141, MapKept.run_getObj_map hb, hc, hf, hz, Result.andThen]
 ·intro val
  simp [Instr.mapUpdate, run_underlying Tryz.underlying141, MapKept.run_getObj_map hb, hc, hf, MapKept.run_setObj_map _ hb, Result.andThen, ChangeMaps.setBlock]
theorem setBlock_keeps {w : World} {mb : Nat} {o : Obj} : Keeps (fun j => j = mb) w (ChangeMaps.setBlock w mb o) :=
 ⟨rfl, rfl, rfl, by simp [ChangeMaps.setBlock], fun k _ hn => by simp [ChangeMaps.setBlock, Ne.symm hn]⟩
theorem setBlock_heap {w : World} {mb : Nat} {o o' : Obj} (h : w.heap[mb]? = some o') : (ChangeMaps.setBlock w mb o).heap[mb]? = some o := by
 have := (Array.getElem?_eq_some_iff.1 h).1
 simp [ChangeMaps.setBlock, this]
def MapOK (w : World) (mb lo : Nat) : Prop := ∃ es clock, w.heap[mb]? = some (.map es clock) ∧ ∀ e ∈ es.toList, ∃ a b : Nat, e.key = .agg #[.int .i64 a, .int .i64 b] ∧ a < b ∧ b ≤ lo
theorem MapOK.kept {D : Nat → Prop} {w w' : World} {mb lo : Nat} (h : MapOK w mb lo) (hk : Keeps D w w') (hn : ¬ D mb) : MapOK w' mb lo := by
 obtain ⟨es, clock, h1, h2⟩ := h
 exact ⟨es, clock, hk.heap_some h1 hn, h2⟩
theorem MapOK.miss {w : World} {mb lo a b : Nat} (h : MapOK w mb lo) (hla : lo ≤ a) (hab : a < b) (hb : b ≤ 1073741824) :
 (Instr.lookup 141 (.map (some mb)) (.agg #[.int .i64 a, .int .i64 b]) true).run Tryz.prog w = .ok (.tuple #[.slice none 0 0, .bool false]) w ∧
 ∀ val, ∃ w', (Instr.mapUpdate 141 (.map (some mb)) (.agg #[.int .i64 a, .int .i64 b]) val).run Tryz.prog w = .ok () w' ∧ MapOK w' mb b ∧ Keeps (fun j => j = mb) w w' := by
 obtain ⟨es, clock, h1, h2⟩ := h
 obtain ⟨kl, hkl⟩ := spanKey a b (by omega) hb
 have hall : ∀ e ∈ es.toList, ∃ l, keyOf Tryz.prog 146 e.key = some l := fun e he => by
  obtain ⟨a', b', hk, h3, h4⟩ := h2 e he
  rw [hk]
  exact spanKey a' b' (by omega) (by omega)
 have hne : ∀ e ∈ es.toList, e.key ≠ .agg #[.int .i64 a, .int .i64 b] := fun e he h => by
  obtain ⟨a', b', hk, h3, h4⟩ := h2 e he
  rw [hk] at h
  simp at h
  omega
 obtain ⟨m1, m2⟩ := map_miss h1 hkl hall hne
 refine ⟨m1, fun val => ⟨_, m2 val, ⟨_, _, setBlock_heap h1, fun e he => ?_⟩, setBlock_keeps⟩⟩
 simp only [Array.toList_push, List.mem_append, List.mem_singleton] at he
 rcases he with he | rfl
 ·obtain ⟨a', b', hk, h3, h4⟩ := h2 e he
  exact ⟨a', b', hk, h3, by omega⟩
 ·exact ⟨a, b, rfl, hab, Nat.le_refl _⟩
end Go.Proofs.YtbioecifiogffaaGreatDoor
namespace Go.Proofs.YtbioecifiogffaaGreatDoor
open Go.RowKit
theorem evs_sl {w : World} {v : Value} {L : List Ev} (h : Evs w 97 v L) : SlAt w 4 ((v.ownBlock).getD 0) v (L.map Ev.cells) := by
 refine own_sl (e := 97) (fun r hr => ?_) ?_
 ·simp only [List.mem_map] at hr
  obtain ⟨e, -, rfl⟩ := hr
  rfl
 ·rw [List.length_map]
  have e : (L.map Ev.cells).flatten = evCells L := by simp [evCells, List.flatMap]
  rw [e]
  exact h
theorem eqSl (a : Addr) (n c : Nat) (w : World) : (binOp .eql 131 (.slice (some a) n c) (.slice none 0 0)).run Tryz.prog w = .ok (.bool false) w := by kernel_rfl
theorem eqSl0 (w : World) : (binOp .eql 131 (.slice none 0 0) (.slice none 0 0)).run Tryz.prog w = .ok (.bool true) w := by kernel_rfl
theorem Clone_any (v : Value) (L : List Ev) (w : World) (h : Evs w 97 v L) (hL : L.length ≤ 1000000000) :
 Calls Tryz.prog 103 #[v] w fun e w' => ∃ u, e = .returned u ∧ Evs w' 97 u L ∧ (∀ k, u.ownBlock = some k → w.heap.size ≤ k) ∧ Fresh w w' := by
 obtain ⟨q, c, rfl, -, hn, hg⟩ := own_form h
 have HI := Lib.hid Tryz.infoAE
 have H := Lib.hid h
 cases q with
 | none =>
  obtain ⟨h0, rfl⟩ := hn rfl
  have hL0 : L = [] := List.eq_nil_of_length_eq_zero h0
  subst hL0
  have e1 := eqSl0
  clear h
  go_enter Tryz.func103, Tryz.ntmps103
  go_wp2
  go_ret
  exact ⟨_, rfl, Evs.nil _ _, (fun k hk => by cases hk), Keeps.refl _ _⟩
 | some a =>
  obtain ⟨g, rfl, hgl⟩ := hg a rfl
  have e1 := eqSl ⟨g, 0, none⟩ L.length c
  have hrow : (w.alloc (.cells #[] 97)).ownsRow 0 97 4 (.slice (some ⟨w.heap.size, 0, none⟩) 0 0) 0 [] := World.ownsRow_made (base := 0) w #[] 0 (Nat.zero_le _) (Nat.zero_le _) (by simp)
  have hcells : ∀ ad, some (⟨g, 0, none⟩ : Addr) = some ad → ∀ j u, (evCells L)[j]? = some u → (w.alloc (.cells #[] 97)).cell? (ad.add j) = some u := fun ad had j u hu => by
   have h2 := own_cells (H.out.fresh ((Keeps.refl (fun _ => False) w).alloc (.cells #[] 97))) rfl ad had j u hu
   exact h2
  have HROW := Lib.hid hrow
  have HCE := Lib.hid hcells
  have hone : ∀ u ∈ evCells L, u.oneCell' = true := by
   intro u hu
   simp only [evCells, List.mem_flatMap] at hu
   obtain ⟨e, -, hu⟩ := hu
   exact ev_one e u hu
  have HONE := Lib.hid hone
  clear h hrow hcells hn hg hone
  go_enter Tryz.func103, Tryz.ntmps103
  go_wp2_with (at_builtin; refine wpList_append_mine _ rfl _ _ 131 rfl 97 _ 4 40 Tryz.underlying131 HI.out rfl (by decide) _ _ _ rfl HROW.out _ L.length c (evCells L) rfl (evCells_length L) (fun h => (by cases h)) HCE.out HONE.out (by unfold maxLen; omega) (by omega) ?_)
  intro p7 c7 w7 hr7 hg7 hk7
  try rw [Nat.zero_add, List.nil_append] at hr7
  have hF7 : Fresh w w7 := ((Keeps.refl (fun _ => False) w).alloc _).trans hk7 (fun j h1 h2 => by simp [Value.ownBlock] at h2; omega)
  have ho7 : ∀ k, (Value.slice p7 L.length c7).ownBlock = some k → w.heap.size ≤ k := fun k hk => by
   rcases hg7 k (by first | exact hk | (rw [Nat.zero_add]; exact hk)) with h | h
   ·simp [Value.ownBlock] at h; omega
   ·simp at h; omega
  have HR7 := Lib.hid hr7
  have HF7 := Lib.hid hF7
  have HO7 := Lib.hid ho7
  clear hr7 hg7 hk7 hF7 ho7
  go_wp2
  go_ret
  exact ⟨_, rfl, HR7.out, HO7.out, HF7.out⟩
def InnS (P mb Bs a b : Nat) (T : List UInt8) (w : World) : Prop :=
 w.cell? ⟨P, 4, none⟩ = some (.string ⟨T.toArray⟩) ∧ w.cell? ⟨P, 5, none⟩ = some (.map (some mb)) ∧ w.cell? ⟨Bs, 0, none⟩ = some (.int .i64 a) ∧ w.cell? ⟨Bs, 1, none⟩ = some (.int .i64 b)
theorem InnS.fresh {w w' : World} {P mb Bs a b : Nat} {T : List UInt8} (h : InnS P mb Bs a b T w) (hk : Fresh w w') : InnS P mb Bs a b T w' :=
 ⟨hk.cell_some h.1 (fun h => h), hk.cell_some h.2.1 (fun h => h), hk.cell_some h.2.2.1 (fun h => h), hk.cell_some h.2.2.2 (fun h => h)⟩
theorem inner_any (P mb lo a b : Nat) (T : List UInt8) (w : World) (h4 : w.cell? ⟨P, 4, none⟩ = some (.string ⟨T.toArray⟩)) (h5 : w.cell? ⟨P, 5, none⟩ = some (.map (some mb))) (hM : MapOK w mb lo) (hla : lo ≤ a) (hab : a < b) (hbT : b ≤ T.length) (hT : T.length ≤ 1048576) (hG : Gl w) (hPm : P ≠ mb) (hgm : 10 ≤ mb) :
 Calls Tryz.prog 71 #[.pointer (some ⟨P, 0, none⟩), .agg #[.int .i64 a, .int .i64 b]] w fun e w' => ∃ v, e = .returned v ∧ Evs w' 97 v (inlF (((T.take b).drop a).length + 1) false ((T.take b).drop a) []) ∧ (∀ k, v.ownBlock = some k → w.heap.size ≤ k) ∧ MapOK w' mb b ∧ Keeps (fun j => j = mb) w w' := by
 obtain ⟨W, hW⟩ : ∃ W, w.alloc (.cells #[.int .i64 a, .int .i64 b] 146) = W := ⟨_, rfl⟩
 have hFW : Fresh w W := by rw [← hW]; exact (Keeps.refl _ _).alloc _
 have hsW : W.heap[w.heap.size]? = some (.cells #[.int .i64 a, .int .i64 b] 146 (0, 0)) := by rw [← hW]; exact heap_alloc_new w _
 have hS : InnS P mb w.heap.size a b T W := ⟨hFW.cell_some h4 (fun h => h), hFW.cell_some h5 (fun h => h), by rw [Lib.cell_of_heap hsW]; rfl, by rw [Lib.cell_of_heap hsW]; rfl⟩
 obtain ⟨X, hX⟩ : ∃ X, (T.take b).drop a = X := ⟨_, rfl⟩
 have hXl : X.length = b - a := by rw [← hX]; simp; omega
 have hext : ((⟨T.toArray⟩ : ByteArray).extract a b).data.toList = X := by rw [ext_list, ← hX, List.drop_take]
 have hexs : ((⟨T.toArray⟩ : ByteArray).extract a b).size = X.length := by rw [hXl, ByteArray.size_extract]; simp [ByteArray.size]; omega
 have hXle : X.length ≤ 1048576 := by omega
 have hil := inlF_length (X.length + 1) false X []
 rw [flushE_nil] at hil
 simp only [List.length_nil, Nat.add_zero] at hil
 have hmiss := fun (W' : World) (hW' : Fresh W W') => ((hM.kept hFW (fun h => h)).kept hW' (fun h => h)).miss hla hab (by omega)
 have hfd := fun (W' : World) (hW' : Fresh W W') => Find_any ((⟨T.toArray⟩ : ByteArray).extract a b) W' (by omega) ((hG.fresh hFW).fresh hW')
 rw [hext, hexs] at hfd
 rw [hX]
 generalize inlF (X.length + 1) false X [] = I at *
 have ha1 : (a : Int) ≤ (b : Int) := by omega
 have hb1 : (b : Int) ≤ (T.length : Int) := by omega
 have hb2 : b ≤ T.toArray.size := by simpa using hbT
 have HS := Lib.hid hS
 have HFW := Lib.hid hFW
 have HM := Lib.hid hmiss
 have HFD := Lib.hid hfd
 have HIL := Lib.hid hil
 have hmbl : mb < w.heap.size := by obtain ⟨es, ck, h1, -⟩ := hM; exact (Array.getElem?_eq_some_iff.1 h1).1
 have HMB := Lib.hid hmbl
 clear hmbl
 clear hS hFW hmiss hfd hsW h4 h5 hM hext hexs hX hXl hG hil
 go_enter Tryz.func71, Tryz.ntmps71
 go_upto_region 1 with fail
 refine wp_region_K 10 (fun w' => InnS P mb w.heap.size a b T w' ∧ Fresh W w' ∧ (Instr.lookup 141 (.map (some mb)) (.agg #[.int .i64 a, .int .i64 b]) true).run Tryz.prog w' = .ok (.tuple #[.slice none 0 0, .bool false]) w') (by kernel_rfl) ?_
 have hHeld : InnS P mb w.heap.size a b T W.drew ∧ Fresh W W.drew ∧ (Instr.lookup 141 (.map (some mb)) (.agg #[.int .i64 a, .int .i64 b]) true).run Tryz.prog W.drew = .ok (.tuple #[.slice none 0 0, .bool false]) W.drew := ⟨HS.out.fresh ((Keeps.refl _ _).drew), (Keeps.refl _ _).drew, (HM.out _ ((Keeps.refl _ _).drew)).1⟩
 try clear hW
 refine K_is [0, 1, 2, 3, 4, 5, 6, 7, 8, 9] ?_
 iterate 10 (refine K_yD (v := ?_) rfl rfl (by kernel_rfl) (fun _ _ _ h => h) (by rfl) ?_ (by assumption) ?_; rotate_left; (· intro _ hSw; (obtain ⟨⟨hS0, hS1, hS2, hS3⟩, -, hS4⟩ := hSw); first | (go_simp; done) | (go_simp; with_reducible rfl)); try simp only [List.setIfInBounds_toArray, List.set_cons_zero, List.set_cons_succ])
 refine K_no ?_
 refine K_last (by kernel_rfl) rfl (fun K hK => ?_)
 go_simp
 refine hK.out _ _ ?_
 clear hK K hHeld
 try simp only [Act.put, List.setIfInBounds_toArray, List.set_cons_zero, List.set_cons_succ]
 refine K_done (by kernel_rfl) ?_ _
 go_upto_region 3 with fail
 refine wp_region_K 10 (fun w' => InnS P mb w.heap.size a b T w' ∧ Fresh W w') (by kernel_rfl) ?_
 have hHeld : InnS P mb w.heap.size a b T W.drew.drew ∧ Fresh W W.drew.drew := ⟨HS.out.fresh (((Keeps.refl _ _).drew).drew), ((Keeps.refl _ _).drew).drew⟩
 refine K_is [0, 1, 2, 3, 4, 5, 6, 7, 8] ?_
 iterate 9 (refine K_yD (v := ?_) rfl rfl (by kernel_rfl) (fun _ _ _ h => h) (by rfl) ?_ (by assumption) ?_; rotate_left; (· intro _ hSw; (obtain ⟨⟨hS0, hS1, hS2, hS3⟩, -⟩ := hSw); first | (go_simp; done) | (go_simp; with_reducible rfl)); try simp only [List.setIfInBounds_toArray, List.set_cons_zero, List.set_cons_succ])
 refine K_no ?_
 refine K_one (i := 9) (by kernel_rfl) rfl (fun K hK => ?_)
 go_simp
 refine (HFD.out _ hHeld.2).mono ?_
 rintro e w2 ⟨v2, rfl, he2, ho2, hk2⟩
 refine hK.out _ _ ⟨hHeld.1.fresh hk2, hHeld.2.tr hk2⟩ (fun hHeld2 => ?_)
 clear hK K
 try simp only [Act.put, List.setIfInBounds_toArray, List.set_cons_zero, List.set_cons_succ]
 have hF2 : Fresh W w2 := hHeld2.2
 have hS2 := hHeld2.1
 obtain ⟨w3, hmu, hM3, hk3⟩ := (HM.out w2.drew (hF2.drew)).2 v2
 have hsz : W.heap.size ≤ w2.heap.size := hF2.size
 have hWs : w.heap.size ≤ W.heap.size := HFW.out.size
 have hmbl : mb < w.heap.size := HMB.out
 have he3 : Evs w3 97 v2 I := (he2.fresh ((Keeps.refl _ w2).drew)).kept hk3 (fun k hk h => by have := ho2 k hk; simp at this; omega)
 have hcl := Clone_any v2 I w3 he3 (by have := HIL.out; omega)
 have hkW : Keeps (fun j => j = mb) w w3 := (((HFW.out.tr (hF2.drew)).mono (fun _ _ h => h.elim) : Keeps (fun j => j = mb) w w2.drew)).tr hk3
 have HMU := Lib.hid hmu
 have HM3 := Lib.hid hM3
 have HCL := Lib.hid hcl
 have HKW := Lib.hid hkW
 have HS2 := Lib.hid hS2
 clear hHeld hHeld2 he2 ho2 hk2 hF2 hS2 hmu hM3 hk3 he3 hcl hkW
 refine K_last (by kernel_rfl) rfl (fun K hK => ?_)
 go_simp
 refine hK.out _ _ ?_
 clear hK K
 try simp only [Act.put, List.setIfInBounds_toArray, List.set_cons_zero, List.set_cons_succ]
 refine K_done (by kernel_rfl) ?_ _
 go_upto_region 4 with fail
 refine wp_region_K 6 (fun w' => InnS P mb w.heap.size a b T w') (by kernel_rfl) ?_
 have hHeld : InnS P mb w.heap.size a b T w2.drew := HS2.out.fresh ((Keeps.refl _ _).drew)
 refine K_is [0, 1, 2, 3, 4, 5] ?_
 iterate 6 (refine K_yD (v := ?_) rfl rfl (by kernel_rfl) (fun _ _ _ h => h) (by rfl) ?_ (by assumption) ?_; rotate_left; (· intro _ hSw; (obtain ⟨hS0, hS1, hS2, hS3⟩ := hSw); first | (go_simp; done) | (go_simp; with_reducible rfl)); try simp only [List.setIfInBounds_toArray, List.set_cons_zero, List.set_cons_succ])
 refine K_no ?_
 have hmu := HMU.out
 refine K_last (by kernel_rfl) rfl (fun K hK => ?_)
 go_simp
 refine hK.out _ _ ?_
 clear hK K hHeld hmu
 try simp only [Act.put, List.setIfInBounds_toArray, List.set_cons_zero, List.set_cons_succ]
 refine K_done (by kernel_rfl) ?_ _
 go_wp2_with fail
 refine HCL.out.mono ?_
 rintro e w4 ⟨u, rfl, he4, ho4, hk4⟩
 have HE4 := Lib.hid he4
 have HO4 := Lib.hid ho4
 have HK4 := Lib.hid hk4
 clear he4 ho4 hk4
 go_wp2
 go_ret
 exact ⟨_, rfl, HE4.out, fun k hk => Nat.le_trans HKW.out.size (HO4.out k hk), HM3.out.kept HK4.out (fun h => h), HKW.out.tr (HK4.out.mono (fun _ _ h => h.elim))⟩
end Go.Proofs.YtbioecifiogffaaGreatDoor
namespace Go.Proofs.YtbioecifiogffaaGreatDoor
open Go.RowKit
def ErrO (aL aI aS : Addr) (o : Nat → Prop) (w : World) (v : Value) (code n : Nat) : Prop :=
 ∃ E : Nat → Prop, (∀ j, E j → o j ∧ ∃ cs t, w.heap[j]? = some (.cells cs t (0, 0)) ∧ (t = 123 ∨ t = 297)) ∧ ∀ w' : World, (∀ j, E j → w'.heap[j]? = w.heap[j]?) → ErrIs aL aI aS w' v code n
theorem ErrO.of {aL aI aS : Addr} {N : Nat} {w : World} {v : Value} {code n : Nat} {o : Nat → Prop} (h : ErrIs aL aI aS w v code n) (hN : ErrN N w v) (hc : code = 0 ∨ code = 1 ∨ code = 2 ∨ code = 4) (ho : ∀ j, N ≤ j → j < w.heap.size → o j) : ErrO aL aI aS o w v code n := by
 rcases h with h | h | h | ⟨h, -⟩ | ⟨h, a, c, x, rfl, ha, hx⟩ | ⟨h, -⟩
 ·exact ⟨fun _ => False, fun j h => h.elim, fun w' _ => .inl h⟩
 ·exact ⟨fun _ => False, fun j h => h.elim, fun w' _ => .inr (.inl h)⟩
 ·exact ⟨fun _ => False, fun j h => h.elim, fun w' _ => .inr (.inr (.inl h))⟩
 ·omega
 ·obtain ⟨h1, h2⟩ := hN a rfl
  have h3 := h2 c (by rw [Lib.cell_of_heap ha]; rfl)
  refine ⟨fun j => j = a ∨ j = c, fun j hj => ?_, fun w' hw => .inr (.inr (.inr (.inr (.inl ⟨h, a, c, x, rfl, (hw a (.inl rfl)).trans ha, (hw c (.inr rfl)).trans hx⟩))))⟩
  rcases hj with rfl | rfl
  ·exact ⟨ho _ h1 (Array.getElem?_eq_some_iff.1 ha).1, _, _, ha, .inl rfl⟩
  ·exact ⟨ho _ h3 (Array.getElem?_eq_some_iff.1 hx).1, _, _, hx, .inr rfl⟩
 ·omega
theorem ErrO.kept {aL aI aS : Addr} {o o' D : Nat → Prop} {w w' : World} {v : Value} {code n : Nat} (h : ErrO aL aI aS o w v code n) (hk : Keeps D w w')
 (hD : ∀ j, o j → D j → (∃ cs t, w.heap[j]? = some (.cells cs t (0, 0)) ∧ (t = 123 ∨ t = 297)) → False) (ho : ∀ j, o j → o' j) : ErrO aL aI aS o' w' v code n := by
 obtain ⟨E, h1, h2⟩ := h
 have he : ∀ j, E j → w'.heap[j]? = w.heap[j]? := fun j hj => by
  obtain ⟨hoj, cs, t, hc, ht⟩ := h1 j hj
  rw [hc]
  exact hk.heap_some hc (fun hd => hD j hoj hd ⟨cs, t, hc, ht⟩)
 exact ⟨E, fun j hj => by obtain ⟨hoj, cs, t, hc, ht⟩ := h1 j hj; exact ⟨ho j hoj, cs, t, (he j hj).trans hc, ht⟩, fun w2 hw2 => h2 w2 (fun j hj => (hw2 j hj).trans (he j hj))⟩
theorem ErrO.is {aL aI aS : Addr} {o : Nat → Prop} {w : World} {v : Value} {code n : Nat} (h : ErrO aL aI aS o w v code n) : ErrIs aL aI aS w v code n := by
 obtain ⟨E, _, h2⟩ := h
 exact h2 w (fun _ _ => rfl)
structure PrsB (w : World) (P mb : Nat) (ev : Value) (nds : List Nd) (wt : List Ev) (T : List UInt8) (lo gn gw : Nat) (nv wv : Value) : Prop where
 blk : w.heap[P]? = some (.cells #[.nilIface, .bool true, ev, nv, .string ⟨T.toArray⟩, .map (some mb), wv] 144 (0, 0))
 nod : SlAt w 6 gn nv (nds.map ndCells)
 wai : SlAt w 4 gw wv (wt.map Ev.cells)
 ok : nodeOK T lo nds
 map : MapOK w mb lo
 len : T.length ≤ 1048576
 nn : nds ≠ [] → gn ≠ P ∧ gn ≠ mb
 nw : wt ≠ [] → gw ≠ P ∧ gw ≠ mb
theorem PrsB.ne {w : World} {P mb lo gn gw : Nat} {ev nv wv : Value} {nds : List Nd} {wt : List Ev} {T : List UInt8} (h : PrsB w P mb ev nds wt T lo gn gw nv wv) : P ≠ mb := by
 rintro rfl
 obtain ⟨es, ck, h1, -⟩ := h.map
 rw [h.blk] at h1
 cases h1
theorem PrsB.kept {D : Nat → Prop} {w w' : World} {P mb lo gn gw : Nat} {ev nv wv : Value} {nds : List Nd} {wt : List Ev} {T : List UInt8} (h : PrsB w P mb ev nds wt T lo gn gw nv wv) (hk : Keeps D w w') (h1 : ¬ D P) (h2 : ¬ D mb) (h3 : nds ≠ [] → ¬ D gn) (h4 : wt ≠ [] → ¬ D gw) : PrsB w' P mb ev nds wt T lo gn gw nv wv :=
 ⟨hk.heap_some h.blk h1, h.nod.kept hk (fun e => h3 (fun e2 => e (by rw [e2]; rfl))), h.wai.kept hk (fun e => h4 (fun e2 => e (by rw [e2]; rfl))), h.ok, h.map.kept hk h2, h.len, h.nn, h.nw⟩
def Prs (aL aI aS : Addr) (w : World) (P mb code n : Nat) (R : List Ev) (o : Nat → Prop) : Prop :=
 ∃ ev nds wt T lo gn gw nv wv, PrsB w P mb ev nds wt T lo gn gw nv wv ∧ ErrO aL aI aS o w ev code n ∧ rem nds wt = R ∧ o P ∧ o mb ∧ (nds ≠ [] → o gn) ∧ (wt ≠ [] → o gw) ∧ ∀ j, o j → j < w.heap.size
theorem Prs.keep {aL aI aS : Addr} {D o : Nat → Prop} {w w' : World} {P mb code n : Nat} {R : List Ev} (h : Prs aL aI aS w P mb code n R o) (hk : Keeps D w w') (hD : ∀ j, D j → ¬ o j) : Prs aL aI aS w' P mb code n R o := by
 obtain ⟨ev, nds, wt, T, lo, gn, gw, nv, wv, hB, hE, hR, oP, om, on, ow, hl⟩ := h
 exact ⟨ev, nds, wt, T, lo, gn, gw, nv, wv, hB.kept hk (fun h => hD _ h oP) (fun h => hD _ h om) (fun e h => hD _ h (on e)) (fun e h => hD _ h (ow e)), hE.kept hk (fun j h1 h2 _ => hD j h2 h1) (fun _ h => h), hR, oP, om, on, ow, fun j hj => Nat.lt_of_lt_of_le (hl j hj) hk.size⟩
theorem Prs.lt {aL aI aS : Addr} {o : Nat → Prop} {w : World} {P mb code n : Nat} {R : List Ev} (h : Prs aL aI aS w P mb code n R o) : ∀ j, o j → j < w.heap.size := by
 obtain ⟨ev, nds, wt, T, lo, gn, gw, nv, wv, hB, hE, hR, oP, om, on, ow, hl⟩ := h
 exact hl
theorem Prs.parser {aL aI aS : Addr} {o : Nat → Prop} {w : World} {P mb code n : Nat} {R : List Ev} (h : Prs aL aI aS w P mb code n R o) : w.cell? ⟨P, 1, none⟩ = some (.bool true) ∧ (∃ ev, w.cell? ⟨P, 2, none⟩ = some ev ∧ ErrO aL aI aS o w ev code n) ∧ o P := by
 obtain ⟨ev, nds, wt, T, lo, gn, gw, nv, wv, hB, hE, hR, oP, om, on, ow, hl⟩ := h
 exact ⟨by rw [Lib.cell_of_heap hB.blk]; rfl, ⟨ev, by rw [Lib.cell_of_heap hB.blk]; rfl, hE⟩, oP⟩
theorem lfOK_ne {L : List EvL} : ∀ {p : Int}, lfOK p L → ∀ x ∈ L, x.2 = true → x.1.text ≠ [] := by
 induction L with
 | nil => intro p _ x hx; cases hx
 | cons y r ih =>
  intro p h x hx
  rcases List.mem_cons.1 hx with rfl | hx
  ·exact h.2.1
  ·exact ih h.2.2 x hx
theorem txts_len (L : List EvL) : (txts L).length ≤ wgs L := by
 induction L with
 | nil => simp [txts]
 | cons x r ih =>
  rw [wgs_cons]
  have e : txts (x :: r) = (if x.2 then x.1.text else []) ++ txts r := by simp [txts]
  rw [e, List.length_append]
  have : (if x.2 then x.1.text else []).length ≤ wgt x := by
   unfold wgt
   split
   ·omega
   ·simp
  omega
theorem blkT_txts (s : List UInt8) : (txts (blkT s)).length ≤ 4 * (s.length + 1) := by
 have h1 := txts_len (blkT s)
 have h2 := blkF_wgs (tot (lns s) + 1) 0 (lns s)
 have h3 := lns_tot s
 unfold blkT at h1 ⊢
 omega
theorem blkT_flat (s : List UInt8) : (blkT s).flatMap expand = evsF s := rfl
theorem begun_any (P : Nat) (w : World) (h1 : w.cell? ⟨P, 1, none⟩ = some (.bool true)) :
 Calls Tryz.prog 70 #[.pointer (some ⟨P, 0, none⟩)] w fun e w' => e = .returned (.tuple #[]) ∧ Fresh w w' := by
 have h2 : (w.alloc (.cells #[.pointer (some ⟨P, 0, none⟩)] 91)).cell? ⟨P, 1, none⟩ = some (.bool true) := (World.cell?_alloc_lt w _ _ (World.block_lt_of_cell? w _ h1)).trans h1
 clear h1
 go_enter Tryz.func70, Tryz.ntmps70
 go_wp2
 refine bodyPost_ret (results_none rfl _ _ _) rfl ?_
 exact ⟨rfl, (Keeps.refl _ w).alloc _⟩
end Go.Proofs.YtbioecifiogffaaGreatDoor
namespace Go.Proofs.YtbioecifiogffaaGreatDoor
open Go.RowKit
theorem neErrS (c : Addr) (w : World) : (binOp .neq 75 (.iface 283 (.pointer (some c))) .nilIface).run Tryz.prog w = .ok (.bool true) w := by kernel_rfl
theorem neErrR (c : Addr) (w : World) : (binOp .neq 75 (.iface 117 (.pointer (some c))) .nilIface).run Tryz.prog w = .ok (.bool true) w := by kernel_rfl
theorem neErrN (w : World) : (binOp .neq 75 .nilIface .nilIface).run Tryz.prog w = .ok (.bool false) w := by kernel_rfl
theorem ErrIs.neq {aL aI aS : Addr} {w : World} {v : Value} {code n : Nat} (h : ErrIs aL aI aS w v code n) (hc : code = 0 ∨ code = 1 ∨ code = 2 ∨ code = 4) (w' : World) : (binOp .neq 75 v .nilIface).run Tryz.prog w' = .ok (.bool (decide (code ≠ 0))) w' := by
 rcases h with ⟨rfl, -, rfl⟩ | ⟨rfl, -, rfl⟩ | ⟨rfl, -, rfl⟩ | ⟨rfl, -⟩ | ⟨rfl, a, c, x, rfl, -, -⟩ | ⟨rfl, -⟩
 ·exact neErrN w'
 ·exact neErrS _ w'
 ·exact neErrS _ w'
 ·omega
 ·exact neErrR _ w'
 ·omega
theorem ErrIs.guard {aL aI aS : Addr} {w : World} {v : Value} {code n : Nat} (h : ErrIs aL aI aS w v code n) (m : Nat) (w' : World) : (eqGuard .neq 75 (.tmp m) (.const .nilIface) v .nilIface).run Tryz.prog w' = .ok () w' := by
 have h0 : (eqGuard .neq 75 (.tmp m) (.const .nilIface) .nilIface .nilIface).run Tryz.prog w' = .ok () w' := by kernel_rfl
 have h1 : ∀ p : Addr, (eqGuard .neq 75 (.tmp m) (.const .nilIface) (.iface 283 (.pointer (some p))) .nilIface).run Tryz.prog w' = .ok () w' := fun p => by kernel_rfl
 have h2 : ∀ p : Addr, (eqGuard .neq 75 (.tmp m) (.const .nilIface) (.iface 117 (.pointer (some p))) .nilIface).run Tryz.prog w' = .ok () w' := fun p => by kernel_rfl
 have h3 : ∀ p : Addr, (eqGuard .neq 75 (.tmp m) (.const .nilIface) (.iface 124 (.pointer (some p))) .nilIface).run Tryz.prog w' = .ok () w' := fun p => by kernel_rfl
 rcases h with ⟨-, -, rfl⟩ | ⟨-, -, rfl⟩ | ⟨-, -, rfl⟩ | ⟨-, a, rfl, -⟩ | ⟨-, a, c, x, rfl, -, -⟩ | ⟨-, a, c, x, rfl, -, -⟩
 ·exact h0
 ·exact h1 _
 ·exact h1 _
 ·exact h3 _
 ·exact h2 _
 ·exact h3 _
theorem ErrIs.form {aL aI aS : Addr} {w : World} {v : Value} {code n : Nat} (h : ErrIs aL aI aS w v code n) (hc : code ≠ 0) : ∃ t x, v = .iface t x := by
 rcases h with ⟨h, -, -⟩ | ⟨-, -, rfl⟩ | ⟨-, -, rfl⟩ | ⟨-, a, rfl, -⟩ | ⟨-, a, c, x, rfl, -, -⟩ | ⟨-, a, c, x, rfl, -, -⟩
 ·exact absurd h hc
 all_goals exact ⟨_, _, rfl⟩
theorem ErrIs.none {aL aI aS : Addr} {w : World} {code n : Nat} (h : ErrIs aL aI aS w .nilIface code n) (o : Nat → Prop) (w' : World) : ErrO aL aI aS o w' .nilIface code n := by
 rcases h with ⟨h1, h2, -⟩ | ⟨-, -, h⟩ | ⟨-, -, h⟩ | ⟨-, a, h, -⟩ | ⟨-, a, c, x, h, -, -⟩ | ⟨-, a, c, x, h, -, -⟩
 ·exact ⟨fun _ => False, fun j h => h.elim, fun w2 _ => .inl ⟨h1, h2, rfl⟩⟩
 all_goals cases h
theorem ErrIs.zero {aL aI aS : Addr} {w : World} {v : Value} {n : Nat} (h : ErrIs aL aI aS w v 0 n) : v = .nilIface := by
 rcases h with ⟨-, -, rfl⟩ | ⟨h, -⟩ | ⟨h, -⟩ | ⟨h, -⟩ | ⟨h, -⟩ | ⟨h, -⟩
 ·rfl
 all_goals cases h
def BegOK (aL aI aS : Addr) (P mb code n : Nat) (T : List UInt8) (D : Nat → Prop) (X : World → Prop) (w : World) (e : Ending) (w' : World) : Prop :=
 e = .returned (.tuple #[]) ∧ X w' ∧ (∃ o', Prs aL aI aS w' P mb code n (if code = 0 then evsF T else []) o' ∧ ∀ j, o' j → j = P ∨ j = mb ∨ w.heap.size ≤ j) ∧ Keeps (fun j => j = P ∨ D j) w w'
theorem begin_any (aL aI aS : Addr) (P mb code n : Nat) (fv : Value) (T : List UInt8) (D : Nat → Prop) (X : World → Prop) (w : World)
 (hP : w.heap[P]? = some (.cells #[fv, .bool false, .nilIface, .slice none 0 0, .string ⟨#[]⟩, .map (some mb), .slice none 0 0] 144 (0, 0))) (hm : w.heap[mb]? = some (.map #[] 0))
 (hG : Gl w) (hPg : 10 ≤ P) (hD : ∀ j, D j → 10 ≤ j ∧ j < w.heap.size ∧ j ≠ P ∧ j ≠ mb)
 (hall : ∀ W : World, Keeps (fun j => j = P) w W → Calls Tryz.prog 85 #[fv] W fun e W' => ∃ v, e = .returned (.tuple #[.string ⟨T.toArray⟩, v]) ∧ (ErrIs aL aI aS W' v code n ∧ ErrN W.heap.size W' v) ∧ X W' ∧ Keeps D W W')
 (hX : ∀ W1 W2 : World, X W1 → Keeps (fun j => j = P ∨ w.heap.size ≤ j) W1 W2 → X W2) (hc : code = 0 ∨ code = 1 ∨ code = 2 ∨ code = 4) (hT : T.length ≤ 200000) :
 Calls Tryz.prog 70 #[.pointer (some ⟨P, 0, none⟩)] w (BegOK aL aI aS P mb code n T D X w) := by
 have hPl : P < w.heap.size := (Array.getElem?_eq_some_iff.1 hP).1
 have hml : mb < w.heap.size := (Array.getElem?_eq_some_iff.1 hm).1
 have hPm : P ≠ mb := by rintro rfl; rw [hP] at hm; cases hm
 obtain ⟨W0, hW0⟩ : ∃ W0, w.alloc (.cells #[.pointer (some ⟨P, 0, none⟩)] 91) = W0 := ⟨_, rfl⟩
 have hF0 : Fresh w W0 := by rw [← hW0]; exact (Keeps.refl _ w).alloc _
 have hs0 : W0.heap.size = w.heap.size + 1 := by rw [← hW0]; simp
 have hP0 := hF0.heap_some hP (fun h => h)
 have hB0 : W0.heap[w.heap.size]? = some (.cells #[.pointer (some ⟨P, 0, none⟩)] 91 (0, 0)) := by rw [← hW0]; exact heap_alloc_new w _
 have c1 : W0.cell? ⟨P, 1, none⟩ = some (.bool false) := by rw [Lib.cell_of_heap hP0]; rfl
 have cb : W0.cell? ⟨w.heap.size, 0, none⟩ = some (.pointer (some ⟨P, 0, none⟩)) := by rw [Lib.cell_of_heap hB0]; rfl
 have f1 : W0.frozen? ⟨P, 1, none⟩ = false := Lib.frozen_of_heap hP0 1
 obtain ⟨W1, hW1⟩ : ∃ W1, W0.setCell ⟨P, 1, none⟩ (.bool true) = W1 := ⟨_, rfl⟩
 have hk1 : Keeps (fun j => j = P) W0 W1 := by rw [← hW1]; exact (Keeps.refl (fun j => j = P) W0).setCell (p := ⟨P, 1, none⟩) (fun _ => rfl) _
 have hP1 : W1.heap[P]? = some (.cells #[fv, .bool true, .nilIface, .slice none 0 0, .string ⟨#[]⟩, .map (some mb), .slice none 0 0] 144 (0, 0)) := by rw [← hW1, heap_set hP0]; rfl
 have d0 : W1.cell? ⟨P, 0, none⟩ = some fv := by rw [Lib.cell_of_heap hP1]; rfl
 have hcall := hall W1 ((hF0.mono (fun _ _ h => h.elim)).tr hk1)
 have hB1 := hk1.heap_some hB0 (by omega)
 have db : W1.cell? ⟨w.heap.size, 0, none⟩ = some (.pointer (some ⟨P, 0, none⟩)) := by rw [Lib.cell_of_heap hB1]; rfl
 have hs1 : W1.heap.size = w.heap.size + 1 := by rw [← hW1]; simp [hs0]
 have hm1 := hk1.heap_some (hF0.heap_some hm (fun h => h)) (fun h => hPm h.symm)
 have hk01 : Keeps (fun j => j = P) w W1 := (hF0.mono (fun _ _ h => h.elim)).tr hk1
 have HALL := Lib.hid hcall
 have HP1 := Lib.hid hP1
 have HB1 := Lib.hid hB1
 have HM1 := Lib.hid hm1
 have HK01 := Lib.hid hk01
 have HD := Lib.hid hD
 have HX := Lib.hid hX
 have HG := Lib.hid hG
 have HC := Lib.hid hc
 clear hall hcall hP1 hB1 hm1 hk01 hk1 hP0 hB0 hF0 hP hm hD hX hG hc
 go_enter Tryz.func70, Tryz.ntmps70
 go_wp2_with fail
 clear hW0 hW1 c1 cb f1 d0
 refine HALL.out.mono ?_
 rintro e w2 ⟨v, rfl, ⟨hE2, hN2⟩, hx2, hk2⟩
 have hP2 := hk2.heap_some HP1.out (fun h => (HD.out _ h).2.2.1 rfl)
 have hB2 := hk2.heap_some HB1.out (fun h => by have := (HD.out _ h).2.1; omega)
 have hm2 := hk2.heap_some HM1.out (fun h => (HD.out _ h).2.2.2 rfl)
 have db2 : w2.cell? ⟨w.heap.size, 0, none⟩ = some (.pointer (some ⟨P, 0, none⟩)) := by rw [Lib.cell_of_heap hB2]; rfl
 have f20 : w2.frozen? ⟨P, 0, none⟩ = false := Lib.frozen_of_heap hP2 0
 have f20' : w2.cell? ⟨P, 0, none⟩ = some fv := by rw [Lib.cell_of_heap hP2]; rfl
 have hs2 : w.heap.size + 1 ≤ w2.heap.size := by have := hk2.size; omega
 have hkP2 : Keeps (fun j => j = P ∨ D j) w w2 := (HK01.out.mono (fun _ _ h => .inl h)).trans hk2 (fun j _ h => .inr h)
 obtain ⟨W3, hW3⟩ : ∃ W3, w2.setCell ⟨P, 0, none⟩ .nilIface = W3 := ⟨_, rfl⟩
 have hk3 : Keeps (fun j => j = P) w2 W3 := by rw [← hW3]; exact (Keeps.refl (fun j => j = P) w2).setCell (p := ⟨P, 0, none⟩) (fun _ => rfl) _
 have hP3 : W3.heap[P]? = some (.cells #[.nilIface, .bool true, .nilIface, .slice none 0 0, .string ⟨#[]⟩, .map (some mb), .slice none 0 0] 144 (0, 0)) := by rw [← hW3, heap_set hP2]; rfl
 have hB3 := hk3.heap_some hB2 (by omega)
 have hm3 := hk3.heap_some hm2 (fun h => hPm h.symm)
 have db3 : W3.cell? ⟨w.heap.size, 0, none⟩ = some (.pointer (some ⟨P, 0, none⟩)) := by rw [Lib.cell_of_heap hB3]; rfl
 have f32 : W3.frozen? ⟨P, 2, none⟩ = false := Lib.frozen_of_heap hP3 2
 have c32 : W3.cell? ⟨P, 2, none⟩ = some .nilIface := by rw [Lib.cell_of_heap hP3]; rfl
 have hneq := hE2.neq HC.out W3
 have hgd := hE2.guard 23 W3
 have hE3 : ErrO aL aI aS (fun j => w.heap.size ≤ j ∧ j < W3.heap.size) W3 v code n := (ErrO.of (o := fun j => w.heap.size ≤ j ∧ j < w2.heap.size) hE2 hN2 HC.out (fun j h1 h2 => ⟨by omega, h2⟩)).kept hk3 (fun j h1 h2 _ => by omega) (fun j h => ⟨h.1, by have := hk3.size; omega⟩)
 have hx3 : X W3 := HX.out _ _ hx2 (hk3.mono (fun _ _ h => .inl h))
 have hkP3 : Keeps (fun j => j = P ∨ D j) w W3 := hkP2.trans hk3 (fun j _ h => .inl h)
 have hs3 : w2.heap.size = W3.heap.size := by rw [← hW3]; simp
 have hz : code = 0 → v = .nilIface := fun h => by subst h; exact hE2.zero
 have hfo := hE2.form
 have HFO := Lib.hid hfo
 clear hfo
 have HE3 := Lib.hid hE3
 have HX3 := Lib.hid hx3
 have HK3 := Lib.hid hkP3
 have HP3 := Lib.hid hP3
 have HB3 := Lib.hid hB3
 have HM3 := Lib.hid hm3
 have HZ := Lib.hid hz
 clear hE2 hN2 hx2 hk2 hP2 hB2 hm2 hkP2 hk3 hP3 hB3 hm3 hE3 hx3 hkP3 hz
 by_cases h0 : code = 0
 ·obtain rfl := HZ.out h0
  have hd : decide (code ≠ 0) = false := by simp [h0]
  rw [hd] at hneq
  have H0 := Lib.hid h0
  clear hd h0
  go_wp2_with fail
  obtain ⟨L, hL⟩ : ∃ L, blkT T = L := ⟨_, rfl⟩
  have hLl : L.length ≤ 1048576 := by rw [← hL]; have := blkT_len T; omega
  have hLt : (txts L).length ≤ 1048576 := by rw [← hL]; have := blkT_txts T; omega
  have hf7 : Fresh W3 (W3.alloc (.cells #[.pointer none, .slice none 0 0] 178)) := (Keeps.refl _ _).alloc _
  have hP7 := hf7.heap_some HP3.out (fun h => h)
  have hB7 := hf7.heap_some HB3.out (fun h => h)
  have hm7 := hf7.heap_some HM3.out (fun h => h)
  have hg7 := ((HG.out.fresh (Keeps.refl _ w)))
  have hG7 : Gl (W3.alloc (.cells #[.pointer none, .slice none 0 0] 178)) := by
   refine Gl.fresh ?_ hf7
   exact (HG.out.mv (o' := fun j => j = P ∨ D j) ⟨HK3.out, fun j h => .inl h⟩ (fun j h => by rcases h with h | h; omega; exact (HD.out j h).1)).1
  have hbf : BgF P W3.heap.size w.heap.size mb (W3.alloc (.cells #[.pointer none, .slice none 0 0] 178)) [] (fun b => b = P ∨ b = W3.heap.size ∨ b = w.heap.size) :=
   ⟨.slice none 0 0, W3.heap.size, hP7, World.ownsRow_nil _ _ _ _, BIs.fresh W3 _, by simp, hB7, fun b => by simp [Value.ownBlock], .inl rfl⟩
  have hfi := bFind_any (bg_emit P W3.heap.size w.heap.size mb L hLl hLt) ⟨T.toArray⟩ _ _ hbf (by simp [ByteArray.size]; omega) hG7 ⟨[], by rw [← hL]; simp⟩
  simp only [show (⟨T.toArray⟩ : ByteArray).data.toList = T from rfl, hL] at hfi
  unfold fnV at hfi
  refine hfi.mono ?_
  clear hfi hbf hG7 hg7 hP7 hB7
  rintro e w8 ⟨rfl, o', ⟨nv, gb, hP8, hnv, hB8, hgl8, hBp8, ho8, hgt8⟩, hm8⟩
  have hgl8' : gb < w8.heap.size := hgl8
  obtain ⟨g3, hB9, hgt9, hg9, hgl9⟩ := hB8.low2
  have hstr := fun (X8 : World) (hX8 : Fresh w8 X8) => Builder_String W3.heap.size g3 (txts L) X8 (hB9.kept hX8 (fun h => h) (fun _ h => h))
  have hgP : g3 ≠ P := by
   rcases hgt9 with h | ⟨cs, h⟩
   ·omega
   ·exact (ne_of_types hP8 h (by decide)).symm
  have hgp : g3 ≠ w.heap.size := by
   rcases hgt9 with h | ⟨cs, h⟩
   ·omega
   ·exact (ne_of_types hBp8 h (by decide)).symm
  have hng : ¬ nv.ownBlock = some g3 := by
   rcases hgt9 with h | ⟨cs, h⟩
   ·rw [h]; obtain ⟨_, _, hb, _⟩ := hB8; exact own_ne hnv hb (by decide)
   ·exact own_ne hnv h (by decide)
  have hnP : ¬ nv.ownBlock = some P := own_ne hnv hP8 (by decide)
  have hg3 : w.heap.size ≤ g3 := by
   rcases hg9 with h | h
   ·have hog : o' g3 := (ho8 g3).2 (.inr (.inr (.inr (.inl h))))
    rcases hm8.2 g3 hog with (h | h | h) | h
    ·exact absurd h hgP
    ·omega
    ·omega
    ·simp at h; omega
   ·omega
  have hgm : g3 ≠ mb := by omega
  have hnl : ∀ k, nv.ownBlock = some k → w.heap.size ≤ k := fun k hk => by
   rcases hm8.2 k ((ho8 k).2 (.inr (.inl hk))) with (h | h | h) | h
   ·exact absurd (h ▸ hk) hnP
   ·omega
   ·omega
   ·simp at h; omega
  have hm8b := hm8.1.heap_some hm7 (fun h => by rcases h with h | h | h <;> omega)
  have hk8 : Keeps (fun j => j = P ∨ w.heap.size ≤ j) W3 w8 := (hf7.mono (fun _ _ h => h.elim)).tr (hm8.1.mono (fun j _ h => by rcases h with h | h | h; exact .inl h; exact .inr (by omega); exact .inr (by omega)))
  have hb8 : w8.cell? ⟨w.heap.size, 0, none⟩ = some (.pointer (some ⟨P, 0, none⟩)) := by rw [Lib.cell_of_heap hBp8]; rfl
  have HSTR := Lib.hid hstr
  have HP8 := Lib.hid hP8
  have HNV := Lib.hid hnv
  have HNL := Lib.hid hnl
  have HM8 := Lib.hid hm8b
  have HK8 := Lib.hid hk8
  have hs8 : W3.heap.size ≤ w8.heap.size := hk8.size
  have HLL := Lib.hid hL
  have HLT := Lib.hid hLt
  clear hnv hB8 hBp8 ho8 hgt8 hm8 hB9 hgt9 hg9 hstr hP8 hnl hm8b hk8 hm7 hf7 hL
  go_upto_region 9 with fail
  refine wp_region_K 4 (fun w' => w'.cell? ⟨w.heap.size, 0, none⟩ = some (.pointer (some ⟨P, 0, none⟩))) (by kernel_rfl) ?_
  have hHeld : w8.drew.cell? ⟨w.heap.size, 0, none⟩ = some (.pointer (some ⟨P, 0, none⟩)) := hb8
  refine K_is [0] ?_
  iterate 1 (refine K_yD (v := ?_) rfl rfl (by kernel_rfl) (fun _ _ _ h => h) (by rfl) ?_ (by assumption) ?_; rotate_left; (· intro _ hSw; (try dsimp only at hSw); first | (go_simp; done) | (go_simp; with_reducible rfl)); try simp only [List.setIfInBounds_toArray, List.set_cons_zero, List.set_cons_succ])
  refine K_no ?_
  refine K_one (i := 1) (by kernel_rfl) rfl (fun K hK => ?_)
  go_simp
  refine (HSTR.out _ ((Keeps.refl _ w8).drew)).mono ?_
  rintro e w9 ⟨rfl, hk9⟩
  refine hK.out _ _ (hk9.cell_some hHeld (fun h => hgp h.symm)) (fun hHeld2 => ?_)
  clear hK K
  try simp only [Act.put, List.setIfInBounds_toArray, List.set_cons_zero, List.set_cons_succ]
  have hP9 := hk9.heap_some (w := w8.drew) HP8.out (fun h => hgP h.symm)
  have hnv9 := own_kept (w := w8.drew) HNV.out hk9 (fun k hk h => hng (h ▸ hk))
  have hm9 := hk9.heap_some (w := w8.drew) HM8.out (fun h => hgm h.symm)
  have f94 : w9.frozen? ⟨P, 4, none⟩ = false := Lib.frozen_of_heap hP9 4
  have c94 : w9.cell? ⟨P, 4, none⟩ = some (.string ⟨#[]⟩) := by rw [Lib.cell_of_heap hP9]; rfl
  clear hHeld
  refine K_is [2, 3] ?_
  iterate 2 (refine K_yD (v := ?_) rfl rfl (by kernel_rfl) (fun _ _ _ h => h) (by rfl) ?_ (by assumption) ?_; rotate_left; (· intro _ hSw; (try dsimp only at hSw); first | (go_simp; done) | (go_simp; with_reducible rfl)); try simp only [List.setIfInBounds_toArray, List.set_cons_zero, List.set_cons_succ])
  refine K_no ?_
  refine K_last (by kernel_rfl) rfl (fun K hK => ?_)
  go_simp
  refine hK.out _ _ ?_
  clear hK K
  try simp only [Act.put, List.setIfInBounds_toArray, List.set_cons_zero, List.set_cons_succ]
  refine K_done (by kernel_rfl) ?_ _
  go_wp2
  go_end0
  have hkA : Keeps (fun j => j = P) w9 (w9.setCell ⟨P, 4, none⟩ (.string ⟨(txts L).toArray⟩)) := (Keeps.refl (fun j => j = P) w9).setCell (p := ⟨P, 4, none⟩) (fun _ => rfl) _
  have hPA : (w9.setCell ⟨P, 4, none⟩ (.string ⟨(txts L).toArray⟩)).heap[P]? = some (.cells #[.nilIface, .bool true, .nilIface, nv, .string ⟨(txts L).toArray⟩, .map (some mb), .slice none 0 0] 144 (0, 0)) := by rw [heap_set hP9]; rfl
  have hnvA := own_kept hnv9 hkA (fun k hk h => hnP (h ▸ hk))
  have hmA := hkA.heap_some hm9 (fun h => hPm h.symm)
  have hs9 : w8.heap.size ≤ w9.heap.size := hk9.size
  have hsA : (w9.setCell ⟨P, 4, none⟩ (.string ⟨(txts L).toArray⟩)).heap.size = w9.heap.size := by simp
  have hkall : Keeps (fun j => j = P ∨ w.heap.size ≤ j) W3 (w9.setCell ⟨P, 4, none⟩ (.string ⟨(txts L).toArray⟩)) := ((HK8.out.drew).tr (hk9.mono (fun j _ h => .inr (by omega)))).tr (hkA.mono (fun _ _ h => .inl h))
  have hndl : (ndsCells (ndsOf 0 L)).length = (ndsOf 0 L).length * 6 := ndsCells_length _
  have hsl : SlAt (w9.setCell ⟨P, 4, none⟩ (.string ⟨(txts L).toArray⟩)) 6 ((nv.ownBlock).getD 0) nv ((ndsOf 0 L).map ndCells) := by
   refine own_sl (e := 148) (fun r hr => ?_) ?_
   ·simp only [List.mem_map] at hr
    obtain ⟨x, -, rfl⟩ := hr
    exact ndCells_length x
   ·rw [List.length_map, ndsOf_length]
    have e : ((ndsOf 0 L).map ndCells).flatten = ndsCells (ndsOf 0 L) := by simp [ndsCells, List.flatMap]
    rw [e]
    exact hnvA
  have hgn : ndsOf 0 L ≠ [] → ∃ k, nv.ownBlock = some k := fun hne => by
   rcases hnvA.2 with ⟨-, h0⟩ | ⟨g, cap, cur, hv, -⟩
   ·exact absurd (List.eq_nil_of_length_eq_zero ((ndsOf_length L 0).trans h0)) hne
   ·rw [hv]; exact ⟨g, rfl⟩
  have hfl : (ndsOf 0 L).flatMap (fun x => expand x.1) = evsF T := by
   have h1 := rem_ndsOf L 0
   unfold rem at h1
   rw [List.nil_append] at h1
   rw [h1, ← blkT_flat T, HLL.out]
  have hlf : ∀ x ∈ L, x.2 = true → x.1.text ≠ [] := by rw [← HLL.out]; exact lfOK_ne (lfOK_blk _ _ _ 0)
  refine ⟨rfl, HX.out _ _ HX3.out hkall, ⟨fun j => j = P ∨ j = mb ∨ (w.heap.size ≤ j ∧ j < (w9.setCell ⟨P, 4, none⟩ (.string ⟨(txts L).toArray⟩)).heap.size), ⟨.nilIface, ndsOf 0 L, [], txts L, 0, (nv.ownBlock).getD 0, 0, nv, .slice none 0 0, ⟨hPA, hsl, SlAt.nil _ _ _, nodeOK_of L hlf (txts L) 0 rfl (Nat.zero_le _), ⟨_, _, hmA, fun e he => by simp at he⟩, HLT.out, fun hne => ?_, fun h => absurd rfl h⟩,
    HE3.out.is.none _ _, ?_, .inl rfl, .inr (.inl rfl), fun hne => ?_, fun h => absurd rfl h, fun j hj => ?_⟩, fun j hj => ?_⟩, ?_⟩
  ·obtain ⟨k, hk⟩ := hgn hne
   rw [hk]
   exact ⟨fun h => hnP (h ▸ hk), fun h => by have := HNL.out k hk; simp only [Option.getD_some] at h; omega⟩
  ·rw [if_pos H0.out]
   unfold rem
   rw [List.nil_append]
   exact hfl
  ·obtain ⟨k, hk⟩ := hgn hne
   rw [hk]
   exact .inr (.inr ⟨HNL.out k hk, own_lt hnvA hk⟩)
  ·rcases hj with rfl | rfl | h
   ·omega
   ·omega
   ·exact h.2
  ·rcases hj with h | h | h
   ·exact .inl h
   ·exact .inr (.inl h)
   ·exact .inr (.inr h.1)
  ·exact HK3.out.trans hkall (fun j h1 h2 => by rcases h2 with h | h; exact .inl h; omega)
 ·obtain ⟨t0, x0, rfl⟩ := HFO.out h0
  have hd : decide (code ≠ 0) = true := by simp [h0]
  rw [hd] at hneq
  have H0 := Lib.hid h0
  clear hd h0
  go_wp2
  refine bodyPost_ret (results_none rfl _ _ _) rfl ?_
  have hk4 : Keeps (fun j => j = P) W3 (W3.setCell ⟨P, 2, none⟩ (.iface t0 x0)) := (Keeps.refl (fun j => j = P) W3).setCell (p := ⟨P, 2, none⟩) (fun _ => rfl) _
  have hP4 : (W3.setCell ⟨P, 2, none⟩ (.iface t0 x0)).heap[P]? = some (.cells #[.nilIface, .bool true, .iface t0 x0, .slice none 0 0, .string ⟨#[]⟩, .map (some mb), .slice none 0 0] 144 (0, 0)) := by rw [heap_set HP3.out]; rfl
  have hm4 := hk4.heap_some HM3.out (fun h => hPm h.symm)
  have hs4 : (W3.setCell ⟨P, 2, none⟩ (.iface t0 x0)).heap.size = W3.heap.size := by simp
  refine ⟨rfl, HX.out _ _ HX3.out (hk4.mono (fun _ _ h => .inl h)), ⟨fun j => j = P ∨ j = mb ∨ (w.heap.size ≤ j ∧ j < (W3.setCell ⟨P, 2, none⟩ (.iface t0 x0)).heap.size), ⟨.iface t0 x0, [], [], [], 0, 0, 0, .slice none 0 0, .slice none 0 0, ⟨hP4, SlAt.nil _ _ _, SlAt.nil _ _ _, trivial, ⟨_, _, hm4, fun e he => by simp at he⟩, by simp, fun h => absurd rfl h, fun h => absurd rfl h⟩,
    HE3.out.kept hk4 (fun j h1 h2 _ => by omega) (fun j h => .inr (.inr ⟨h.1, by rw [hs4]; exact h.2⟩)), by rw [if_neg H0.out]; rfl, .inl rfl, .inr (.inl rfl), fun h => absurd rfl h, fun h => absurd rfl h, fun j hj => ?_⟩, fun j hj => ?_⟩, HK3.out.trans hk4 (fun j _ h => .inl h)⟩
  ·rcases hj with rfl | rfl | h
   ·omega
   ·omega
   ·exact h.2
  ·rcases hj with h | h | h
   ·exact .inl h
   ·exact .inr (.inl h)
   ·exact .inr (.inr h.1)
end Go.Proofs.YtbioecifiogffaaGreatDoor
namespace Go.Proofs.YtbioecifiogffaaGreatDoor
open Go.RowKit
theorem eqSpan (a b : Int) (w : World) : (binOp .eql 146 (.agg #[.int .i64 a, .int .i64 b]) (.agg #[.int .i64 0, .int .i64 0])).run Tryz.prog w = .ok (.bool (decide (a = 0) && decide (b = 0))) w := by
 have hS : Tryz.prog.underlying 146 = some (.struct (Tryz.prog.fieldsOf 146)) := by kernel_rfl
 have hp : Tryz.prog.stoodInHeld 146 = false := by kernel_rfl
 have u3 := Tryz.underlying3
 rw [run_eql_struct, show (10000 : Nat) = 9999 + 1 from rfl, run_equalIn_agg w 9999 _ _ _ hS hp]
 simp only [Program.fieldsOf, Tryz.underlying146]
 go_simp
 by_cases h1 : a = 0 <;> by_cases h2 : b = 0 <;> simp [h1, h2]
theorem eqSpanG (a b : Int) (m k : Nat) (w : World) : (eqGuard .eql 146 (.tmp m) (.tmp k) (.agg #[.int .i64 a, .int .i64 b]) (.agg #[.int .i64 0, .int .i64 0])).run Tryz.prog w = .ok () w :=
 run_eqGuard_agg w _ _ _ _ _ _ (by kernel_rfl)
end Go.Proofs.YtbioecifiogffaaGreatDoor
namespace Go.Proofs.YtbioecifiogffaaGreatDoor
open Go.RowKit
def ev0 : Ev := ⟨0, false, 0, []⟩
def nodesLen (w : World) (P : Nat) : Nat := match w.cell? ⟨P, 3, none⟩ with | some (.slice _ n _) => n | _ => 0
theorem infoAE4 : (Tryz.prog.info? 97).map (·.size) = some 4 := by kernel_rfl
theorem res_ev {fn : Func} {p u : Nat} (h : fn.results = #[.cell p 97, .tmp u]) {tmps : Array Value} {wf : World} {B : Nat} {e : Ev} {b : Bool} (hp : tmps.getD p undef = .pointer (some ⟨B, 0, none⟩)) (hu : tmps.getD u undef = .bool b)
 (hg : wf.heap[B]? = some (.cells #[.int .i64 e.kind, .bool e.fin, .int .i64 e.level, .string ⟨e.text.toArray⟩] 97 (0, 0))) : (results fn tmps).run Tryz.prog wf = .ok (.tuple #[evV e, .bool b]) wf := by
 rw [results_cell_tmp h, hp, hu]
 simp only [asAddr, Sem.run_pure, Result.andThen_ok, run_loadVar_row wf B _ _ _ _ _ hg Tryz.underlying97 rfl infoAE4]
 rfl
structure NxI (aL aI aS : Addr) (P mb code n B : Nat) (R : List Ev) (o1 : Nat → Prop) (w1 wr : World) (o2 : Nat → Prop) : Prop where
 prs : Prs aL aI aS wr P mb code n R o2
 gl : Gl wr
 hi : Hi o2
 kp : Keeps (fun j => j = P ∨ j = mb ∨ j = B) w1 wr
 ow : ∀ j, o2 j → o1 j ∨ w1.heap.size ≤ j
 nb : ¬ o2 B
 res : wr.heap[B]? = some (.cells #[.int .i64 0, .bool false, .int .i64 0, .string ⟨#[]⟩] 97 (0, 0))
theorem Next_prs (aL aI aS : Addr) (P mb code n : Nat) (R : List Ev) (w : World) (Z : (Nat → Prop) → World → Prop)
 (hbeg : ∀ W : World, Fresh w W → w.heap.size < W.heap.size → Calls Tryz.prog 70 #[.pointer (some ⟨P, 0, none⟩)] W fun e w1 => e = .returned (.tuple #[]) ∧ ∃ o1, Prs aL aI aS w1 P mb code n R o1 ∧ Gl w1 ∧ Hi o1 ∧ Keeps (fun j => j < w.heap.size) W w1 ∧ ¬ o1 w.heap.size ∧ Z o1 w1) :
 Calls Tryz.prog 41 #[.pointer (some ⟨P, 0, none⟩)] w fun e w' => e = .returned (.tuple #[evV (R.headD ev0), .bool (!R.isEmpty)]) ∧ ∃ o1 w1 o', Z o1 w1 ∧ Prs aL aI aS w' P mb code n R.tail o' ∧ Keeps (fun j => j = P ∨ j = mb ∨ j = w.heap.size) w1 w' ∧ ∀ j, o' j → o1 j ∨ w1.heap.size ≤ j := by
 obtain ⟨W, hW⟩ : ∃ W, w.alloc (.cells #[.int .i64 0, .bool false, .int .i64 0, .string ⟨#[]⟩] 97) = W := ⟨_, rfl⟩
 have hFW : Fresh w W := by rw [← hW]; exact (Keeps.refl _ w).alloc _
 have hbW : W.heap[w.heap.size]? = some (.cells #[.int .i64 0, .bool false, .int .i64 0, .string ⟨#[]⟩] 97 (0, 0)) := by rw [← hW]; exact heap_alloc_new w _
 have hbe := hbeg W hFW (by rw [← hW]; simp)
 have HBE := Lib.hid hbe
 have HBW := Lib.hid hbW
 clear hbeg hbe hbW hFW
 go_enter Tryz.func41, Tryz.ntmps41
 go_wp2_with fail
 clear hW
 refine HBE.out.mono ?_
 rintro e w1 ⟨rfl, o1, hp1, hg1, hh1, hk1, hn1, hz1⟩
 have hI1 : NxI aL aI aS P mb code n w.heap.size R o1 w1 w1 o1 := ⟨hp1, hg1, hh1, Keeps.refl _ _, fun _ h => .inl h, hn1, hk1.heap_some HBW.out (fun h => by omega)⟩
 have HI1 := Lib.hid hI1
 have HZ1 := Lib.hid hz1
 clear hp1 hg1 hh1 hk1 hn1 hz1 hI1
 go_wp2_with fail
 go_loopw [3] (fun _ wr => ∃ o2, NxI aL aI aS P mb code n w.heap.size R o1 w1 wr o2) (fun _ wr => nodesLen wr P)
 case atStart => exact ⟨o1, HI1.out⟩
 case round =>
  obtain ⟨o2, hI⟩ := hrel
  obtain ⟨wo, rfl⟩ : ∃ wo : World, wo = wr := ⟨_, rfl⟩
  obtain ⟨ev, nds, wt, T, lo, gn, gw, nv, wv, hB, hE, hR, oP, om, on, ow, hl⟩ := hI.prs
  have hPl : P < wo.heap.size := hl P oP
  have hBne : P ≠ w.heap.size := fun h => hI.nb (h ▸ oP)
  have hBl : w.heap.size < wo.heap.size := (Array.getElem?_eq_some_iff.1 hI.res).1
  have p3 : wo.cell? ⟨P, 3, none⟩ = some nv := by rw [Lib.cell_of_heap hB.blk]; rfl
  have p6 : wo.cell? ⟨P, 6, none⟩ = some wv := by rw [Lib.cell_of_heap hB.blk]; rfl
  have pf : ∀ j, wo.frozen? ⟨P, j, none⟩ = false := fun j => Lib.frozen_of_heap hB.blk j
  have r0 : wo.cell? ⟨w.heap.size, 0, none⟩ = some (.int .i64 0) := by rw [Lib.cell_of_heap hI.res]; rfl
  have r1 : wo.cell? ⟨w.heap.size, 1, none⟩ = some (.bool false) := by rw [Lib.cell_of_heap hI.res]; rfl
  have r2 : wo.cell? ⟨w.heap.size, 2, none⟩ = some (.int .i64 0) := by rw [Lib.cell_of_heap hI.res]; rfl
  have r3 : wo.cell? ⟨w.heap.size, 3, none⟩ = some (.string ⟨#[]⟩) := by rw [Lib.cell_of_heap hI.res]; rfl
  have rf : ∀ j, wo.frozen? ⟨w.heap.size, j, none⟩ = false := fun j => Lib.frozen_of_heap hI.res j
  cases wt with
  | cons x r =>
   have hwl : (r.map Ev.cells).length = r.length := by simp
   obtain ⟨cap, off, rfl, hcap, hc⟩ := hB.wai.head
   have hcut := hB.wai.cut
   rw [hwl] at hcap hcut
   have x0 := hc 0 _ (by decide) rfl
   have x1 := hc 1 _ (by decide) rfl
   have x2 := hc 2 _ (by decide) rfl
   have x3 := hc 3 _ (by decide) rfl
   rw [Nat.add_zero] at x0
   have gwl : gw < wo.heap.size := World.block_lt_of_cell? wo _ x0
   have hRx : R = x :: rem nds r := by rw [← hR]; rfl
   have f0 := rf 0
   have f1 := rf 1
   have f2 := rf 2
   have f3 := rf 3
   have pf6 := pf 6
   have HIi := Lib.hid hI
   have HBB := Lib.hid hB
   have HCUT := Lib.hid hcut
   have HRX := Lib.hid hRx
   have HE := Lib.hid hE
   have HOW := Lib.hid ow
   have HON := Lib.hid on
   have HL := Lib.hid hl
   rw [hwl] at p6
   clear hI hB hE hR ow on hl pf rf hRx hcut hc
   obtain ⟨q, hq⟩ : ∃ q, (if cap = 1 then some (⟨gw, off, none⟩ : Addr) else some ⟨gw, off + 4, none⟩) = q := ⟨_, rfl⟩
   go_wp2
   obtain ⟨X1, hX1⟩ : ∃ X1, wo.setCell ⟨P, 6, none⟩ (.slice q r.length (cap - 1)) = X1 := ⟨_, rfl⟩
   obtain ⟨X2, hX2⟩ : ∃ X2, (((X1.setCell ⟨w.heap.size, 0, none⟩ (.int .i64 x.kind)).setCell ⟨w.heap.size, 1, none⟩ (.bool x.fin)).setCell ⟨w.heap.size, 2, none⟩ (.int .i64 x.level)).setCell ⟨w.heap.size, 3, none⟩ (.string ⟨x.text.toArray⟩) = X2 := ⟨_, rfl⟩
   obtain ⟨X3, hX3⟩ : ∃ X3, X2.alloc (.cells #[.int .i64 x.kind, .bool x.fin, .int .i64 x.level, .string ⟨x.text.toArray⟩] 97) = X3 := ⟨_, rfl⟩
   rw [hX1, hX2, hX3]
   have hk1 : Keeps (fun j => j = P) wo X1 := by rw [← hX1]; exact (Keeps.refl (fun j => j = P) wo).setCell (p := ⟨P, 6, none⟩) (fun _ => rfl) _
   have hk2 : Keeps (fun j => j = w.heap.size) X1 X2 := by
    rw [← hX2]
    exact ((((Keeps.refl (fun j => j = w.heap.size) X1).setCell (p := ⟨w.heap.size, 0, none⟩) (fun _ => rfl) _).setCell (p := ⟨w.heap.size, 1, none⟩) (fun _ => rfl) _).setCell (p := ⟨w.heap.size, 2, none⟩) (fun _ => rfl) _).setCell (p := ⟨w.heap.size, 3, none⟩) (fun _ => rfl) _
   have hk3 : Fresh X2 X3 := by rw [← hX3]; exact (Keeps.refl _ _).alloc _
   have hP1 : X1.heap[P]? = some (.cells #[.nilIface, .bool true, ev, nv, .string ⟨T.toArray⟩, .map (some mb), .slice q r.length (cap - 1)] 144 (0, 0)) := by rw [← hX1, heap_set HBB.out.blk]; rfl
   have hg1 := hk1.heap_some HIi.out.res (fun h => hBne h.symm)
   have hg2 : X2.heap[w.heap.size]? = some (.cells #[.int .i64 x.kind, .bool x.fin, .int .i64 x.level, .string ⟨x.text.toArray⟩] 97 (0, 0)) := by
    rw [← hX2]
    simp [World.setCell, Array.getElem?_modify, hg1]
   have hk : Keeps (fun j => j = P ∨ j = w.heap.size) wo X3 := ((hk1.mono (fun _ _ h => .inl h)).tr (hk2.mono (fun _ _ h => .inr h))).tr (hk3.mono (fun _ _ h => h.elim))
   have hP3 := hk3.heap_some (hk2.heap_some hP1 hBne) (fun h => h)
   have hg3 := hk3.heap_some hg2 (fun h => h)
   have hsz := hk.size
   refine bodyPost_ret (res_ev (e := x) (b := true) (B := w.heap.size) rfl rfl rfl hg3) rfl ?_
   rw [hq] at HCUT
   have hnoB : ∀ j, o2 j → ¬ j = w.heap.size := fun j h1 h2 => HIi.out.nb (h2 ▸ h1)
   rw [show R = x :: rem nds r from HRX.out]
   refine ⟨rfl, o1, w1, o2, HZ1.out, ⟨ev, nds, r, T, lo, gn, gw, nv, _, ⟨hP3, HBB.out.nod.kept hk (fun hne h => ?_), HCUT.out.kept hk (fun hne h => ?_), HBB.out.ok, HBB.out.map.kept hk (fun h => ?_), HBB.out.len, HBB.out.nn, fun _ => HBB.out.nw (by simp)⟩,
     HE.out.kept hk (fun j h1 h2 h3 => ?_) (fun _ h => h), rfl, oP, om, HON.out, fun _ => HOW.out (by simp), fun j hj => Nat.lt_of_lt_of_le (HL.out j hj) hsz⟩, HIi.out.kp.trans hk (fun j h1 h2 => ?_), HIi.out.ow⟩
   ·have hne' : nds ≠ [] := fun e => hne (by rw [e]; rfl)
    rcases h with h | h
    ·exact (HBB.out.nn hne').1 h
    ·exact hnoB _ (HON.out hne') h
   ·rcases h with h | h
    ·exact (HBB.out.nw (by simp)).1 h
    ·exact hnoB _ (HOW.out (by simp)) h
   ·rcases h with h | h
    ·exact HBB.out.ne h.symm
    ·exact hnoB _ om h
   ·obtain ⟨cs, t, hc, ht⟩ := h3
    rcases h2 with h2 | h2
    ·subst h2
     rw [HBB.out.blk] at hc
     injection hc with hc
     injection hc with _ hc _
     rcases ht with ht | ht <;> (rw [← hc] at ht; exact absurd ht (by decide))
    ·exact hnoB _ h1 h2
   ·rcases h2 with h | h
    ·exact .inl h
    ·exact .inr (.inr h)
  | nil =>
   obtain ⟨wa, wc, hwv⟩ := hB.wai.form
   simp only [List.map_nil, List.length_nil] at hwv
   cases nds with
   | nil =>
    obtain ⟨na, nc, hnv⟩ := hB.nod.form
    simp only [List.map_nil, List.length_nil] at hnv
    subst hwv hnv
    have hR0 : R = [] := by rw [← hR]; rfl
    have f0 := rf 0
    have f1 := rf 1
    have f2 := rf 2
    have f3 := rf 3
    have HIi := Lib.hid hI
    have HR0 := Lib.hid hR0
    clear hI hB hE hR oP om on ow hl pf rf hR0
    go_wp2
    obtain ⟨X, hX⟩ : ∃ X, (((wo.setCell ⟨w.heap.size, 0, none⟩ (.int .i64 0)).setCell ⟨w.heap.size, 1, none⟩ (.bool false)).setCell ⟨w.heap.size, 2, none⟩ (.int .i64 0)).setCell ⟨w.heap.size, 3, none⟩ (.string ⟨#[]⟩) = X := ⟨_, rfl⟩
    have hkX : Keeps (fun j => j = w.heap.size) wo X := by
     rw [← hX]
     exact ((((Keeps.refl (fun j => j = w.heap.size) wo).setCell (p := ⟨w.heap.size, 0, none⟩) (fun _ => rfl) _).setCell (p := ⟨w.heap.size, 1, none⟩) (fun _ => rfl) _).setCell (p := ⟨w.heap.size, 2, none⟩) (fun _ => rfl) _).setCell (p := ⟨w.heap.size, 3, none⟩) (fun _ => rfl) _
    have hgX : X.heap[w.heap.size]? = some (.cells #[.int .i64 ev0.kind, .bool ev0.fin, .int .i64 ev0.level, .string ⟨ev0.text.toArray⟩] 97 (0, 0)) := by
     rw [← hX]
     simp [World.setCell, Array.getElem?_modify, HIi.out.res, ev0]
    rw [hX]
    refine bodyPost_ret (res_ev (e := ev0) (b := false) (B := w.heap.size) rfl rfl rfl hgX) rfl ?_
    rw [show R = [] from HR0.out] at HIi ⊢
    exact ⟨rfl, o1, w1, o2, HZ1.out, HIi.out.prs.keep hkX (fun j hj h => HIi.out.nb (hj ▸ h)), HIi.out.kp.trans hkX (fun j _ h => .inr (.inr h)), HIi.out.ow⟩
   | cons x rest =>
    obtain ⟨⟨xe, lf⟩, a, b⟩ := x
    have hnl : (rest.map ndCells).length = rest.length := by simp
    obtain ⟨cap, off, rfl, hcap, hc⟩ := hB.nod.head
    have hcut := hB.nod.cut
    rw [hnl] at hcap hcut
    have x0 := hc 0 (.int .i64 xe.kind) (by decide) rfl
    have x1 := hc 1 (.bool xe.fin) (by decide) rfl
    have x2 := hc 2 (.int .i64 xe.level) (by decide) rfl
    have x3 := hc 3 (.string ⟨xe.text.toArray⟩) (by decide) rfl
    have x4 := hc 4 (.int .i64 a) (by decide) rfl
    have x5 := hc 5 (.int .i64 b) (by decide) rfl
    rw [Nat.add_zero] at x0
    rw [hnl] at p3
    subst hwv
    have gnl : gn < wo.heap.size := World.block_lt_of_cell? wo _ x0
    have hok := hB.ok
    unfold nodeOK at hok
    have pf3 := pf 3
    have pf6 := pf 6
    have p4 : wo.cell? ⟨P, 4, none⟩ = some (.string ⟨T.toArray⟩) := by rw [Lib.cell_of_heap hB.blk]; rfl
    have p5 : wo.cell? ⟨P, 5, none⟩ = some (.map (some mb)) := by rw [Lib.cell_of_heap hB.blk]; rfl
    have f0 := rf 0
    have f1 := rf 1
    have f2 := rf 2
    have f3 := rf 3
    have HIi := Lib.hid hI
    have HBB := Lib.hid hB
    have HCUT := Lib.hid hcut
    have HE := Lib.hid hE
    have HON := Lib.hid on
    have HL := Lib.hid hl
    have HOK := Lib.hid hok
    have HR := Lib.hid hR
    clear hI hB hE hR ow on hl pf rf hcut hc hok
    obtain ⟨q, hq⟩ : ∃ q, (if cap = 1 then some (⟨gn, off, none⟩ : Addr) else some ⟨gn, off + 6, none⟩) = q := ⟨_, rfl⟩
    cases lf with
    | false =>
     obtain ⟨rfl, rfl, hok⟩ := HOK.out
     have es := fun W => eqSpan ((0 : Nat) : Int) ((0 : Nat) : Int) W
     have eg := fun m k W => eqSpanG ((0 : Nat) : Int) ((0 : Nat) : Int) m k W
     go_wp2
     obtain ⟨X1, hX1⟩ : ∃ X1, wo.setCell ⟨P, 3, none⟩ (.slice q rest.length (cap - 1)) = X1 := ⟨_, rfl⟩
     obtain ⟨X2, hX2⟩ : ∃ X2, (((X1.setCell ⟨w.heap.size, 0, none⟩ (.int .i64 xe.kind)).setCell ⟨w.heap.size, 1, none⟩ (.bool xe.fin)).setCell ⟨w.heap.size, 2, none⟩ (.int .i64 xe.level)).setCell ⟨w.heap.size, 3, none⟩ (.string ⟨xe.text.toArray⟩) = X2 := ⟨_, rfl⟩
     obtain ⟨X3, hX3⟩ : ∃ X3, X2.alloc (.cells #[.int .i64 xe.kind, .bool xe.fin, .int .i64 xe.level, .string ⟨xe.text.toArray⟩, .int .i64 0, .int .i64 0] 148) = X3 := ⟨_, rfl⟩
     rw [hX1, hX2, hX3]
     have hk1 : Keeps (fun j => j = P) wo X1 := by rw [← hX1]; exact (Keeps.refl (fun j => j = P) wo).setCell (p := ⟨P, 3, none⟩) (fun _ => rfl) _
     have hk2 : Keeps (fun j => j = w.heap.size) X1 X2 := by
      rw [← hX2]
      exact ((((Keeps.refl (fun j => j = w.heap.size) X1).setCell (p := ⟨w.heap.size, 0, none⟩) (fun _ => rfl) _).setCell (p := ⟨w.heap.size, 1, none⟩) (fun _ => rfl) _).setCell (p := ⟨w.heap.size, 2, none⟩) (fun _ => rfl) _).setCell (p := ⟨w.heap.size, 3, none⟩) (fun _ => rfl) _
     have hk3 : Fresh X2 X3 := by rw [← hX3]; exact (Keeps.refl _ _).alloc _
     have hP1 : X1.heap[P]? = some (.cells #[.nilIface, .bool true, ev, .slice q rest.length (cap - 1), .string ⟨T.toArray⟩, .map (some mb), .slice wa 0 wc] 144 (0, 0)) := by rw [← hX1, heap_set HBB.out.blk]; rfl
     have hg1 := hk1.heap_some HIi.out.res (fun h => hBne h.symm)
     have hg2 : X2.heap[w.heap.size]? = some (.cells #[.int .i64 xe.kind, .bool xe.fin, .int .i64 xe.level, .string ⟨xe.text.toArray⟩] 97 (0, 0)) := by
      rw [← hX2]
      simp [World.setCell, Array.getElem?_modify, hg1]
     have hk : Keeps (fun j => j = P ∨ j = w.heap.size) wo X3 := ((hk1.mono (fun _ _ h => .inl h)).tr (hk2.mono (fun _ _ h => .inr h))).tr (hk3.mono (fun _ _ h => h.elim))
     have hP3 := hk3.heap_some (hk2.heap_some hP1 hBne) (fun h => h)
     have hg3 := hk3.heap_some hg2 (fun h => h)
     have hsz := hk.size
     refine bodyPost_ret (res_ev (e := xe) (b := true) (B := w.heap.size) rfl rfl rfl hg3) rfl ?_
     rw [hq] at HCUT
     have hnoB : ∀ j, o2 j → ¬ j = w.heap.size := fun j h1 h2 => HIi.out.nb (h2 ▸ h1)
     have hRX : xe :: rem rest [] = R := HR.out
     rw [← hRX]
     refine ⟨rfl, o1, w1, HZ1.out, o2, ⟨ev, rest, [], T, lo, gn, gw, _, .slice wa 0 wc, ⟨hP3, HCUT.out.kept hk (fun hne h => ?_), (HBB.out.wai.kept hk (fun hne _ => hne rfl)), hok, HBB.out.map.kept hk (fun h => ?_), HBB.out.len, fun _ => HBB.out.nn (by simp), fun h => absurd rfl h⟩,
       HE.out.kept hk (fun j h1 h2 h3 => ?_) (fun _ h => h), rfl, oP, om, fun _ => HON.out (by simp), fun h => absurd rfl h, fun j hj => Nat.lt_of_lt_of_le (HL.out j hj) hsz⟩, HIi.out.kp.trans hk (fun j h1 h2 => ?_), HIi.out.ow⟩
     ·rcases h with h | h
      ·exact (HBB.out.nn (by simp)).1 h
      ·exact hnoB _ (HON.out (by simp)) h
     ·rcases h with h | h
      ·exact HBB.out.ne h.symm
      ·exact hnoB _ om h
     ·obtain ⟨cs, t, hc, ht⟩ := h3
      rcases h2 with h2 | h2
      ·subst h2
       rw [HBB.out.blk] at hc
       injection hc with hc
       injection hc with _ hc _
       rcases ht with ht | ht <;> (rw [← hc] at ht; exact absurd ht (by decide))
      ·exact hnoB _ h1 h2
     ·rcases h2 with h | h
      ·exact .inl h
      ·exact .inr (.inr h)
    | true =>
     obtain ⟨hla, hab, hbT, htx, hok⟩ := HOK.out
     have hb0 : decide ((b : Int) = 0) = false := by rw [decide_eq_false_iff_not]; omega
     have es : ∀ W, (binOp .eql 146 (.agg #[.int .i64 a, .int .i64 b]) (.agg #[.int .i64 0, .int .i64 0])).run Tryz.prog W = .ok (.bool false) W := fun W => by rw [eqSpan, hb0, Bool.and_false]
     have eg := fun m k W => eqSpanG ((a : Nat) : Int) ((b : Nat) : Int) m k W
     clear hb0
     go_wp2_with fail
     obtain ⟨X1, hX1⟩ : ∃ X1, wo.setCell ⟨P, 3, none⟩ (.slice q rest.length (cap - 1)) = X1 := ⟨_, rfl⟩
     obtain ⟨X3, hX3⟩ : ∃ X3, X1.alloc (.cells #[.int .i64 xe.kind, .bool xe.fin, .int .i64 xe.level, .string ⟨xe.text.toArray⟩, .int .i64 a, .int .i64 b] 148) = X3 := ⟨_, rfl⟩
     rw [hX1, hX3]
     have hk1 : Keeps (fun j => j = P) wo X1 := by rw [← hX1]; exact (Keeps.refl (fun j => j = P) wo).setCell (p := ⟨P, 3, none⟩) (fun _ => rfl) _
     have hk3 : Fresh X1 X3 := by rw [← hX3]; exact (Keeps.refl _ _).alloc _
     have hP1 : X1.heap[P]? = some (.cells #[.nilIface, .bool true, ev, .slice q rest.length (cap - 1), .string ⟨T.toArray⟩, .map (some mb), .slice wa 0 wc] 144 (0, 0)) := by rw [← hX1, heap_set HBB.out.blk]; rfl
     have hk : Keeps (fun j => j = P) wo X3 := hk1.tr (hk3.mono (fun _ _ h => h.elim))
     have hP3 := hk3.heap_some hP1 (fun h => h)
     have hn3 : X3.heap[wo.heap.size]? = some (.cells #[.int .i64 xe.kind, .bool xe.fin, .int .i64 xe.level, .string ⟨xe.text.toArray⟩, .int .i64 a, .int .i64 b] 148 (0, 0)) := by
      rw [← hX3]
      have := heap_alloc_new X1 (.cells #[.int .i64 xe.kind, .bool xe.fin, .int .i64 xe.level, .string ⟨xe.text.toArray⟩, .int .i64 a, .int .i64 b] 148)
      rw [show X1.heap.size = wo.heap.size by rw [← hX1]; simp] at this
      exact this
     have hs3 : X3.heap.size = wo.heap.size + 1 := by rw [← hX3, ← hX1]; simp
     have hPm := HBB.out.ne
     have hG3 : Gl X3 := (HIi.out.gl.mv (o' := fun j => j = P) ⟨hk, fun _ h => .inl h⟩ (fun j h => by rw [h]; exact HIi.out.hi P oP)).1
     have hinn := inner_any P mb lo a b T X3 (by rw [Lib.cell_of_heap hP3]; rfl) (by rw [Lib.cell_of_heap hP3]; rfl) (HBB.out.map.kept hk (fun h => hPm h.symm)) hla hab hbT HBB.out.len hG3 hPm (HIi.out.hi mb om)
     rw [htx] at hinn
     have HINN := Lib.hid hinn
     have HK := Lib.hid hk
     have HP3 := Lib.hid hP3
     rw [hq] at HCUT
     clear hinn hk hk1 hk3 hP1 hP3 hX1 hX3 hq es eg hG3 hn3 x0 x1 x2 x3 x4 x5 p3 p4 p5 p6 pf3 pf6 f0 f1 f2 f3 r0 r1 r2 r3
     refine HINN.out.mono ?_
     rintro e w4 ⟨v, rfl, he4, ho4, hM4, hk4⟩
     have hP4 := hk4.heap_some HP3.out hPm
     have p46 : w4.cell? ⟨P, 6, none⟩ = some (.slice wa 0 wc) := by rw [Lib.cell_of_heap hP4]; rfl
     have f46 : w4.frozen? ⟨P, 6, none⟩ = false := Lib.frozen_of_heap hP4 6
     have hk4o : Keeps (fun j => j = P ∨ j = mb) wo w4 := (HK.out.mono (fun _ _ h => .inl h)).trans hk4 (fun j _ h => .inr h)
     obtain ⟨vq, vc, rfl, -, -, -⟩ := own_form he4
     have HE4 := Lib.hid he4
     have HO4 := Lib.hid ho4
     have HM4 := Lib.hid hM4
     have HP4 := Lib.hid hP4
     have HK4 := Lib.hid hk4o
     have hs4 : X3.heap.size ≤ w4.heap.size := hk4.size
     clear he4 ho4 hM4 hP4 hk4o hk4
     go_wp2_with fail
     obtain ⟨I, hI⟩ : ∃ I, inlF (xe.text.length + 1) false xe.text [] = I := ⟨_, rfl⟩
     rw [hI]
     obtain ⟨X5, hX5⟩ : ∃ X5, w4.setCell ⟨P, 6, none⟩ (.slice vq I.length vc) = X5 := ⟨_, rfl⟩
     rw [hX5]
     have hk5 : Keeps (fun j => j = P) w4 X5 := by rw [← hX5]; exact (Keeps.refl (fun j => j = P) w4).setCell (p := ⟨P, 6, none⟩) (fun _ => rfl) _
     have hP5 : X5.heap[P]? = some (.cells #[.nilIface, .bool true, ev, .slice q rest.length (cap - 1), .string ⟨T.toArray⟩, .map (some mb), .slice vq I.length vc] 144 (0, 0)) := by rw [← hX5, heap_set HP4.out]; rfl
     have hs5 : X5.heap.size = w4.heap.size := by rw [← hX5]; simp
     have hk : Keeps (fun j => j = P ∨ j = mb) wo X5 := HK4.out.tr (hk5.mono (fun _ _ h => .inl h))
     have he5 := HE4.out
     have ho5 := HO4.out
     rw [hI] at he5 ho5
     have he5 := he5.kept hk5 (fun k hk' h => by have := ho5 k hk'; omega)
     have hsl := evs_sl he5
     have hgv : I ≠ [] → ∃ k, (Value.slice vq I.length vc).ownBlock = some k ∧ wo.heap.size ≤ k := fun hne => by
      cases vq with
      | none =>
       obtain ⟨p', c', he, _, hn, -⟩ := own_form he5
       cases he
       exact absurd (List.eq_nil_of_length_eq_zero (hn rfl).1) hne
      | some ad =>
       have := ho5 ad.block (by simp [Value.ownBlock])
       exact ⟨ad.block, by simp [Value.ownBlock], by omega⟩
     have hmbl := HL.out mb om
     have hno : ∀ j, o2 j → ¬ j = w.heap.size := fun j h1 h2 => HIi.out.nb (h2 ▸ h1)
     have hnoB2 : ∀ j, j = P ∨ j = mb → ¬ j = w.heap.size := fun j h => by rcases h with h | h; exact hno _ (h ▸ oP); exact hno _ (h ▸ om)
     have hg5 := hk.heap_some HIi.out.res (fun h => hnoB2 _ h rfl)
     have hRX : I ++ rest.flatMap (fun x => expand x.1) = R := by
      have h1 := HR.out
      simp only [rem, List.nil_append, List.flatMap_cons] at h1
      rw [← h1, ← hI]
      rfl
     have hp3 : wo.cell? ⟨P, 3, none⟩ = some (.slice (some ⟨gn, off, none⟩) (rest.length + 1) cap) := by rw [Lib.cell_of_heap HBB.out.blk]; simp
     have hk1 := HIi.out.kp.size
     have hgn : rest ≠ [] → ¬ (gn = P ∨ gn = mb) := fun _ h => by
      have := HBB.out.nn (by simp)
      rcases h with h | h
      ·exact this.1 h
      ·exact this.2 h
     go_roundw
     case rel =>
      refine ⟨fun j => o2 j ∨ (wo.heap.size ≤ j ∧ j < X5.heap.size), ⟨⟨ev, rest, I, T, b, gn, ((Value.slice vq I.length vc).ownBlock).getD 0, _, _, ⟨hP5, HCUT.out.kept hk (fun hne h => ?_), hsl, hok, HM4.out.kept hk5 (fun h => ?_), HBB.out.len, fun _ => HBB.out.nn (by simp), fun hne => ?_⟩,
        HE.out.kept hk (fun j h1 h2 h3 => ?_) (fun j h => .inl h), hRX, .inl oP, .inl om, fun _ => .inl (HON.out (by simp)), fun hne => ?_, fun j hj => ?_⟩, ?_, ?_, HIi.out.kp.trans hk (fun j h1 h2 => ?_), fun j hj => ?_, ?_, hg5⟩⟩
      ·exact hgn (fun e => hne (by rw [e]; rfl)) h
      ·exact HBB.out.ne h.symm
      ·obtain ⟨k, hk', hk2⟩ := hgv hne
       rw [hk']
       simp only [Option.getD_some]
       constructor <;> omega
      ·obtain ⟨cs, t, hc, ht⟩ := h3
       rcases h2 with h2 | h2
       ·subst h2
        rw [HBB.out.blk] at hc
        injection hc with hc
        injection hc with _ hc _
        rcases ht with ht | ht <;> (rw [← hc] at ht; exact absurd ht (by decide))
       ·obtain ⟨es, ck, hm, -⟩ := HBB.out.map
        rw [h2, hm] at hc
        cases hc
      ·obtain ⟨k, hk', hk2⟩ := hgv hne
       rw [hk']
       exact .inr ⟨hk2, own_lt he5 hk'⟩
      ·rcases hj with h | h
       ·exact Nat.lt_of_lt_of_le (HL.out j h) hk.size
       ·exact h.2
      ·exact (HIi.out.gl.mv (o' := fun j => j = P ∨ j = mb) ⟨hk, fun _ h => .inl h⟩ (fun j h => by rcases h with h | h; rw [h]; exact HIi.out.hi P oP; rw [h]; exact HIi.out.hi mb om)).1
      ·intro j hj
       rcases hj with h | h
       ·exact HIi.out.hi j h
       ·have := HIi.out.hi P oP
        omega
      ·rcases h2 with h | h
       ·exact .inl h
       ·exact .inr (.inl h)
      ·rcases hj with h | h
       ·exact HIi.out.ow j h
       ·exact .inr (by omega)
      ·intro h
       rcases h with h | h
       ·exact HIi.out.nb h
       ·omega
     case measure =>
      unfold nodesLen
      rw [hp3, Lib.cell_of_heap hP5]
      simp
end Go.Proofs.YtbioecifiogffaaGreatDoor
namespace Go.Proofs.YtbioecifiogffaaGreatDoor
open Go.RowKit
theorem comeGo_text (fa : Int) (wt : Bool) : ∀ (f k : Nat) (rest all : List UInt8) (idle : Nat) (cuts : List Int), (comeGo fa wt f k rest all idle cuts).text.length ≤ 1200 := by
 intro f
 induction f with
 | zero => intro k rest all idle cuts; simp [comeGo]
 | succ f ih =>
  intro k rest all idle cuts
  rw [comeGo_succ]
  have h2 := regular_length ⟨(all ++ pieceOf rest cuts).toArray⟩
  have h3 : (⟨(all ++ pieceOf rest cuts).toArray⟩ : ByteArray).size = (all ++ pieceOf rest cuts).length := by simp [ByteArray.size]
  rw [h3] at h2
  repeat' split
  all_goals first | exact ih _ _ _ _ _ | (simp only [List.length_nil]; omega) | (simp only; omega)
theorem comeL_text (t : List UInt8) (cuts : List Int) (fa : Int) (wt : Bool) : (comeL t cuts fa wt).text.length ≤ 1200 := comeGo_text _ _ _ _ _ _ _ _
def comeE (c : ComeL) : List Ev := if c.err = 0 then evsF c.text else []
def SrcS (w : World) (P b : Nat) (fv : Value) (c : ComeL) (o : Nat → Prop) : Prop :=
 (fv = .nilIface ∧ c = ⟨[], 0, 0, 0⟩ ∧ w.cell? ⟨b, 4, none⟩ = some (.int .i64 0)) ∨
 ∃ (g : Nat) (s : ByteArray) (cs : List Int) (fa : Int) (wt : Bool), fv = .iface 68 (.pointer (some ⟨b, 0, none⟩)) ∧ SrcAt w b g s cs fa wt 0 false ∧ g < w.heap.size ∧ s.size ≤ 1048576 ∧ cs.length ≤ 1048576 ∧
  (∀ x ∈ cs, -9223372036854775808 ≤ x ∧ x ≤ 9223372036854775807) ∧ comeL s.data.toList cs fa wt = c ∧ o g ∧ g ≠ P
theorem SrcS.kept {D o : Nat → Prop} {w w' : World} {P b : Nat} {fv : Value} {c : ComeL} (h : SrcS w P b fv c o) (hk : Keeps D w w') (hb : ¬ D b) (hD : ∀ j, D j → ¬ o j) : SrcS w' P b fv c o := by
 rcases h with ⟨h1, h2, h3⟩ | ⟨g, s, cs, fa, wt, h1, h2, h3, h4, h5, h6, h7, h8⟩
 ·exact .inl ⟨h1, h2, hk.cell_some h3 hb⟩
 ·exact .inr ⟨g, s, cs, fa, wt, h1, h2.kept hk hb (fun h => hD g h h8.1), Nat.lt_of_lt_of_le h3 hk.size, h4, h5, h6, h7, h8⟩
structure Par (aL aI aS : Addr) (w0 w : World) (P mb b : Nat) (c : ComeL) (pulled : Bool) (R : List Ev) (o : Nat → Prop) : Prop where
 start : Fresh w0 w
 own : ∀ j, o j → w0.heap.size ≤ j ∧ j < w.heap.size
 oP : o P
 om : o mb
 ob : o b
 Pb : P ≠ b
 mbb : mb ≠ b
 ok : (c.err = 0 ∨ c.err = 1 ∨ c.err = 2 ∨ c.err = 4) ∧ c.text.length ≤ 1200
 is : (pulled = false ∧ (∃ fv, w.heap[P]? = some (.cells #[fv, .bool false, .nilIface, .slice none 0 0, .string ⟨#[]⟩, .map (some mb), .slice none 0 0] 144 (0, 0)) ∧ SrcS w P b fv c o) ∧ w.heap[mb]? = some (.map #[] 0) ∧ w.cell? ⟨b, 4, none⟩ = some (.int .i64 0) ∧ R = comeE c) ∨
  (pulled = true ∧ Prs aL aI aS w P mb c.err c.n R o ∧ w.cell? ⟨b, 4, none⟩ = some (.int .i64 c.reads))
theorem Par.keep {aL aI aS : Addr} {w0 w w' : World} {P mb b : Nat} {c : ComeL} {pulled : Bool} {R : List Ev} {o D : Nat → Prop} (h : Par aL aI aS w0 w P mb b c pulled R o) (hk : Keeps D w w') (hD : ∀ j, D j → ¬ o j) (hD0 : ∀ j, D j → w0.heap.size ≤ j) : Par aL aI aS w0 w' P mb b c pulled R o where
 start := h.start.trans hk (fun j h1 h2 => by have := hD0 j h2; omega)
 own := fun j hj => ⟨(h.own j hj).1, Nat.lt_of_lt_of_le (h.own j hj).2 hk.size⟩
 oP := h.oP
 om := h.om
 ob := h.ob
 Pb := h.Pb
 mbb := h.mbb
 ok := h.ok
 is := by
  rcases h.is with ⟨h1, ⟨fv, h2, h3⟩, h4, h5, h6⟩ | ⟨h1, h2, h3⟩
  ·exact .inl ⟨h1, ⟨fv, hk.heap_some h2 (fun h' => hD _ h' h.oP), h3.kept hk (fun h' => hD _ h' h.ob) hD⟩, hk.heap_some h4 (fun h' => hD _ h' h.om), hk.cell_some h5 (fun h' => hD _ h' h.ob), h6⟩
  ·exact .inr ⟨h1, h2.keep hk hD, hk.cell_some h3 (fun h' => hD _ h' h.ob)⟩
theorem Par.fresh {aL aI aS : Addr} {w0 w w' : World} {P mb b : Nat} {c : ComeL} {pulled : Bool} {R : List Ev} {o : Nat → Prop} (h : Par aL aI aS w0 w P mb b c pulled R o) (hk : Fresh w w') : Par aL aI aS w0 w' P mb b c pulled R o := h.keep hk (fun _ h => h.elim) (fun _ h => h.elim)
theorem Prs.widen {aL aI aS : Addr} {o o' : Nat → Prop} {w : World} {P mb code n : Nat} {R : List Ev} (h : Prs aL aI aS w P mb code n R o) (ho : ∀ j, o j → o' j) (hl : ∀ j, o' j → j < w.heap.size) : Prs aL aI aS w P mb code n R o' := by
 obtain ⟨ev, nds, wt, T, lo, gn, gw, nv, wv, hB, hE, hR, oP, om, on, ow, -⟩ := h
 exact ⟨ev, nds, wt, T, lo, gn, gw, nv, wv, hB, hE.kept (Keeps.refl (fun _ => False) w) (fun _ _ h _ => h) ho, hR, ho _ oP, ho _ om, fun e => ho _ (on e), fun e => ho _ (ow e), hl⟩
theorem Par.gl {aL aI aS : Addr} {w0 w : World} {P mb b : Nat} {c : ComeL} {pulled : Bool} {R : List Ev} {o : Nat → Prop} (h : Par aL aI aS w0 w P mb b c pulled R o) (hG : Gl w0) : Gl w ∧ Hi o := ⟨hG.fresh h.start, fun j hj => Nat.le_trans hG.2 (h.own j hj).1⟩
theorem ErrLong_lt : 1 < 10 := by decide
theorem ErrIdle_lt : 2 < 10 := by decide
theorem par_begin {aL aI aS : Addr} {w0 w : World} {P mb b : Nat} {c : ComeL} {pulled : Bool} {R : List Ev} {o : Nat → Prop} (h : Par aL aI aS w0 w P mb b c pulled R o) (hV : LaidVars aL aI aS w0) (hG : Gl w0) :
 Calls Tryz.prog 70 #[.pointer (some ⟨P, 0, none⟩)] w fun e w1 => e = .returned (.tuple #[]) ∧ ∃ o1, Par aL aI aS w0 w1 P mb b c true R o1 ∧ Mv o o1 w w1 := by
 have hsz := h.start.size
 have hNG := hG.2
 rcases h.is with ⟨rfl, ⟨fv, h2, h3⟩, h4, h5, rfl⟩ | ⟨rfl, h2, h3⟩
 ·have hend : ∀ (D : Nat → Prop) (w1 : World), (∀ j, D j → j = b) → w1.cell? ⟨b, 4, none⟩ = some (.int .i64 c.reads) → (∃ o', Prs aL aI aS w1 P mb c.err c.n (if c.err = 0 then evsF c.text else []) o' ∧ ∀ j, o' j → j = P ∨ j = mb ∨ w.heap.size ≤ j) → Keeps (fun j => j = P ∨ D j) w w1 →
   ∃ o1, Par aL aI aS w0 w1 P mb b c true (comeE c) o1 ∧ Mv o o1 w w1 := by
   rintro D w1 hD hr ⟨o', hp, ho'⟩ hk
   have hbl := (h.own b h.ob).2
   have hlt := hp.lt
   have hsub : ∀ j, (j = P ∨ D j) → o j := fun j hj => by
    rcases hj with hj | hj
    ·rw [hj]; exact h.oP
    ·rw [hD j hj]; exact h.ob
   have hin : ∀ j, (o' j ∨ o j) → o j ∨ w.heap.size ≤ j := fun j hj => by
    rcases hj with hj | hj
    ·rcases ho' j hj with hj | hj | hj
     ·rw [hj]; exact .inl h.oP
     ·rw [hj]; exact .inl h.om
     ·exact .inr hj
    ·exact .inl hj
   have hl' : ∀ j, (o' j ∨ o j) → j < w1.heap.size := fun j hj => by
    rcases hj with hj | hj
    ·exact hlt j hj
    ·exact Nat.lt_of_lt_of_le (h.own j hj).2 hk.size
   refine ⟨fun j => o' j ∨ o j, ⟨h.start.trans hk (fun j h1 h2 => by have := (h.own j (hsub j h2)).1; omega), fun j hj => ⟨?_, hl' j hj⟩, .inr h.oP, .inr h.om, .inr h.ob, h.Pb, h.mbb, h.ok, .inr ⟨rfl, hp.widen (fun _ h => .inl h) hl', hr⟩⟩, hk.mono (fun j _ h => hsub j h), hin⟩
   rcases hin j hj with hj | hj
   ·exact (h.own j hj).1
   ·omega
  rcases h3 with ⟨rfl, rfl, h7⟩ | ⟨g, s, cs, fa, wt, rfl, hS, hg, hs, hl, hw, rfl, og, hgP⟩
  ·have hb := begin_any aL aI aS P mb 0 0 .nilIface [] (fun _ => False) (fun W => W.cell? ⟨b, 4, none⟩ = some (.int .i64 0)) w h2 h4 (hG.fresh h.start) (Nat.le_trans hNG (h.own P h.oP).1) (fun _ h => h.elim)
    (fun W hW => (All_nil W).mono (by
      rintro e w' ⟨rfl, rfl⟩
      exact ⟨.nilIface, rfl, ⟨.inl ⟨rfl, rfl, rfl⟩, ErrN.nil _ _⟩, hW.cell_some h7 (fun e => h.Pb e.symm), Keeps.refl _ _⟩))
    (fun W1 W2 hx hk => hk.cell_some hx (fun e => by have := (h.own b h.ob).2; rcases e with e | e; exact h.Pb e.symm; exact absurd e (by simp only; omega))) (.inl rfl) (by simp)
   refine hb.mono ?_
   rintro e w1 ⟨rfl, hx, hp, hk⟩
   exact ⟨rfl, hend (fun _ => False) w1 (fun _ h => h.elim) hx hp hk⟩
  ·have hb := begin_any aL aI aS P mb _ _ _ (comeL s.data.toList cs fa wt).text (fun j => j = b) (fun W => W.cell? ⟨b, 4, none⟩ = some (.int .i64 (comeL s.data.toList cs fa wt).reads)) w h2 h4 (hG.fresh h.start) (Nat.le_trans hNG (h.own P h.oP).1)
    (fun j hj => by rw [hj]; exact ⟨Nat.le_trans hNG (h.own b h.ob).1, (h.own b h.ob).2, fun e => h.Pb e.symm, fun e => h.mbb e.symm⟩)
    (fun W hW => by
      have hv := hV.fresh h.start
      have hPn := (h.own P h.oP).1
      have hbn := (h.own b h.ob).1
      have n1 := ErrLong_lt
      have n2 := ErrIdle_lt
      refine (All_new aL aI aS b g s cs fa wt W (hS.kept hW (fun e => h.Pb e.symm) hgP) (Nat.lt_of_lt_of_le hg hW.size) hs hl hw (hW.cell_some hv.long (fun e => by simp only at e; omega)) (hW.cell_some hv.idle (fun e => by simp only at e; omega)) (by omega) (by omega)).mono ?_
      rintro e w' ⟨v, rfl, hE, hx, hk⟩
      exact ⟨v, rfl, hE, hx, hk⟩)
    (fun W1 W2 hx hk => hk.cell_some hx (fun e => by have := (h.own b h.ob).2; rcases e with e | e; exact h.Pb e.symm; exact absurd e (by simp only; omega))) h.ok.1 (by have := h.ok.2; omega)
   refine hb.mono ?_
   rintro e w1 ⟨rfl, hx, hp, hk⟩
   exact ⟨rfl, hend (fun j => j = b) w1 (fun _ h => h) hx hp hk⟩
 ·obtain ⟨hb1, -, -⟩ := h2.parser
  refine (begun_any P w hb1).mono ?_
  rintro e w1 ⟨rfl, hk⟩
  exact ⟨rfl, o, h.fresh hk, Mv.fresh hk⟩
end Go.Proofs.YtbioecifiogffaaGreatDoor
namespace Go.Proofs.YtbioecifiogffaaGreatDoor
open Go.RowKit
theorem par_next {aL aI aS : Addr} {w0 w : World} {P mb b : Nat} {c : ComeL} {pulled : Bool} {R : List Ev} {o : Nat → Prop} (h : Par aL aI aS w0 w P mb b c pulled R o) (hV : LaidVars aL aI aS w0) (hG : Gl w0) :
 Calls Tryz.prog 41 #[.pointer (some ⟨P, 0, none⟩)] w fun e w' => e = .returned (.tuple #[evV (R.headD ev0), .bool (!R.isEmpty)]) ∧ ∃ o', Par aL aI aS w0 w' P mb b c true R.tail o' ∧ Mv o o' w w' := by
 refine (Next_prs aL aI aS P mb c.err c.n R w (fun o1 w1 => Par aL aI aS w0 w1 P mb b c true R o1 ∧ ∃ W, Fresh w W ∧ w.heap.size < W.heap.size ∧ Mv o o1 W w1) ?_).mono ?_
 ·intro W hW hlt
  refine (par_begin (h.fresh hW) hV hG).mono ?_
  rintro e w1 ⟨rfl, o1, hp, hm⟩
  have hg := hp.gl hG
  rcases hp.is with ⟨h1, -⟩ | ⟨-, h2, h3⟩
  ·cases h1
  ·exact ⟨rfl, o1, h2, hg.1, hg.2, hm.1.mono (fun j _ hj => (h.own j hj).2), fun hB => by
     rcases hm.2 _ hB with h4 | h4
     ·have := (h.own _ h4).2; omega
     ·omega, hp, W, hW, hlt, hm⟩
 ·rintro e w' ⟨rfl, o1, w1, o', ⟨hp, W, hW, hlt, hm⟩, hq, hk, ho⟩
  have hs0 := h.start.size
  have hs1 := hm.1.size
  have hs2 := hk.size
  have hql := hq.lt
  rcases hp.is with ⟨h1, -⟩ | ⟨-, h2, h3⟩
  ·cases h1
  ·have hl' : ∀ j, (o' j ∨ o1 j) → j < w'.heap.size := fun j hj => by
    rcases hj with hj | hj
    ·exact hql j hj
    ·exact Nat.lt_of_lt_of_le (hp.own j hj).2 hk.size
   have hin : ∀ j, (o' j ∨ o1 j) → o1 j ∨ w1.heap.size ≤ j := fun j hj => by
    rcases hj with hj | hj
    ·exact ho j hj
    ·exact .inl hj
   have hbw : ¬ b = w.heap.size := fun e => by have := (h.own b h.ob).2; omega
   refine ⟨rfl, fun j => o' j ∨ o1 j, ⟨hp.start.trans hk (fun j h4 h5 => ?_), fun j hj => ⟨?_, hl' j hj⟩, .inr hp.oP, .inr hp.om, .inr hp.ob, hp.Pb, hp.mbb, hp.ok, .inr ⟨rfl, hq.widen (fun _ h => .inl h) hl', hk.cell_some h3 (fun e => ?_)⟩⟩, ?_, fun j hj => ?_⟩
   ·rcases h5 with h5 | h5 | h5
    ·have := (hp.own P hp.oP).1; omega
    ·have := (hp.own mb hp.om).1; omega
    ·omega
   ·rcases hin j hj with h5 | h5
    ·exact (hp.own j h5).1
    ·omega
   ·rcases e with e | e | e
    ·exact hp.Pb e.symm
    ·exact hp.mbb e.symm
    ·exact hbw e
   ·refine ((hW.mono (fun _ _ h => h.elim) : Keeps o w W).tr hm.1).trans hk (fun j h4 h5 => ?_)
    rcases h5 with h5 | h5 | h5
    ·rw [h5]; exact h.oP
    ·rw [h5]; exact h.om
    ·omega
   ·rcases hin j hj with h5 | h5
    ·rcases hm.2 j h5 with h6 | h6
     ·exact .inl h6
     ·exact .inr (by omega)
    ·exact .inr (by omega)
theorem par_err {aL aI aS : Addr} {w0 w : World} {P mb b : Nat} {c : ComeL} {pulled : Bool} {R : List Ev} {o : Nat → Prop} (h : Par aL aI aS w0 w P mb b c pulled R o) (hV : LaidVars aL aI aS w0) (hG : Gl w0) :
 Calls Tryz.prog 43 #[.pointer (some ⟨P, 0, none⟩)] w fun e w' => ∃ v o', e = .returned v ∧ ErrIs aL aI aS w' v c.err c.n ∧ Par aL aI aS w0 w' P mb b c true R o' ∧ Mv o o' w w' := by
 have hb := par_begin h hV hG
 have HB := Lib.hid hb
 clear hb h
 go_enter Tryz.func43, Tryz.ntmps43
 go_wp2_with fail
 refine HB.out.mono ?_
 rintro e w1 ⟨rfl, o1, hp, hm⟩
 have hp' := hp
 rcases hp.is with ⟨h1, -⟩ | ⟨-, h2, -⟩
 ·cases h1
 ·obtain ⟨-, ⟨ev, he, hE⟩, -⟩ := h2.parser
  have HP := Lib.hid hp
  have HM := Lib.hid hm
  have HE := Lib.hid hE.is
  clear hp hm hE h2 hp'
  go_wp2
  go_ret
  exact ⟨_, _, rfl, HE.out, HP.out, HM.out⟩
theorem pNew_any (fv : Value) (w : World) (hf : fv = .nilIface ∨ ∃ t x, fv = .iface t x) :
 Calls Tryz.prog 40 #[fv] w fun e w' => e = .returned (.pointer (some ⟨w.heap.size + 1, 0, none⟩)) ∧
  w'.heap[w.heap.size + 1]? = some (.cells #[fv, .bool false, .nilIface, .slice none 0 0, .string ⟨#[]⟩, .map (some w.heap.size), .slice none 0 0] 144 (0, 0)) ∧ w'.heap[w.heap.size]? = some (.map #[] 0) ∧ Fresh w w' ∧ w'.heap.size = w.heap.size + 2 := by
 have hmm := @run_makeMap Tryz.prog
 rcases hf with rfl | ⟨t, x, rfl⟩
 all_goals
  go_enter Tryz.func40, Tryz.ntmps40
  go_wp2
  go_ret
  refine ⟨rfl, ?_, ?_, ((Keeps.refl _ w).alloc _).alloc _, by simp⟩
  ·exact heap_alloc2_new w _ _
  ·exact (Below.heap_alloc _ _ _ (by simp)).trans (heap_alloc_new w _)
end Go.Proofs.YtbioecifiogffaaGreatDoor
namespace Go.Proofs.YtbioecifiogffaaGreatDoor
open Go.RowKit
structure YieldOK (k : Nat) (caps : Array Value) (T : List Ev) (J Jx : World → List Ev → (Nat → Prop) → Prop) : Prop where
 enter : ∀ (args : Array Value) (w : World), (callFunc k args).run Tryz.prog w = .ok (.enter k args) w
 lt : ∀ {w : World} {L : List Ev} {o : Nat → Prop}, J w L o → ∀ b, o b → b < w.heap.size
 keep : ∀ {D : Nat → Prop} {w w' : World} {L : List Ev} {o : Nat → Prop}, J w L o → Keeps D w w' → (∀ b, D b → ¬ o b) → J w' L o
 call : ∀ (x : Ev) (w : World) (L : List Ev) (o : Nat → Prop), J w L o → (∃ rest, L ++ x :: rest = T) →
  Calls Tryz.prog k (#[evV x] ++ caps) w fun e w' => ∃ (go : Bool) (o' : Nat → Prop), e = .returned (.bool go) ∧ Mv o o' w w' ∧ (go = true → J w' (L ++ [x]) o') ∧ (go = false → Jx w' (L ++ [x]) o')
structure Two (a b a' b' : Nat → Prop) (w w' : World) : Prop where
 kp : Keeps (fun j => a j ∨ b j) w w'
 ga : ∀ j, a' j → a j ∨ w.heap.size ≤ j
 gb : ∀ j, b' j → b j ∨ w.heap.size ≤ j
 dj : ∀ j, a' j → ¬ b' j
theorem Two.left {a b a' b' a'' : Nat → Prop} {w w' w'' : World} (h : Two a b a' b' w w') (hm : Mv a' a'' w' w'') (hb : ∀ j, b' j → j < w'.heap.size) : Two a b a'' b' w w'' where
 kp := h.kp.trans hm.1 (fun j h1 h2 => by rcases h.ga j h2 with h | h; exact .inl h; omega)
 ga := fun j hj => by
  have := h.kp.size
  rcases hm.2 j hj with h1 | h1
  ·exact h.ga j h1
  ·exact .inr (by omega)
 gb := h.gb
 dj := fun j h1 h2 => by
  rcases hm.2 j h1 with h3 | h3
  ·exact h.dj j h3 h2
  ·have := hb j h2; omega
theorem Two.right {a b a' b' b'' : Nat → Prop} {w w' w'' : World} (h : Two a b a' b' w w') (hm : Mv b' b'' w' w'') (ha : ∀ j, a' j → j < w'.heap.size) : Two a b a' b'' w w'' where
 kp := h.kp.trans hm.1 (fun j h1 h2 => by rcases h.gb j h2 with h | h; exact .inr h; omega)
 ga := h.ga
 gb := fun j hj => by
  have := h.kp.size
  rcases hm.2 j hj with h1 | h1
  ·exact h.gb j h1
  ·exact .inr (by omega)
 dj := fun j h1 h2 => by
  rcases hm.2 j h2 with h3 | h3
  ·exact h.dj j h1 h3
  ·have := ha j h1; omega
theorem Two.new {a b a' b' D : Nat → Prop} {w w' w'' : World} (h : Two a b a' b' w w') (hk : Keeps D w' w'') (hD : ∀ j, D j → w.heap.size ≤ j) : Two a b a' b' w w'' where
 kp := h.kp.trans hk (fun j h1 h2 => by have := hD j h2; omega)
 ga := h.ga
 gb := h.gb
 dj := h.dj
structure ItI (aL aI aS : Addr) (w0 w : World) (P mb b : Nat) (c : ComeL) (T : List Ev) (J : World → List Ev → (Nat → Prop) → Prop) (o oJ : Nat → Prop) (wr : World) (pre rest : List Ev) (B : Nat) (x : Ev) (o1 o2 : Nat → Prop) : Prop where
 par : Par aL aI aS w0 wr P mb b c true rest o1
 j : J wr pre o2
 two : Two o oJ o1 o2 w wr
 bl : w.heap.size ≤ B
 b1 : ¬ o1 B
 b2 : ¬ o2 B
 ev : wr.heap[B]? = some (.cells #[.int .i64 x.kind, .bool x.fin, .int .i64 x.level, .string ⟨x.text.toArray⟩] 97 (0, 0))
theorem All1_any {k : Nat} {caps : Array Value} {T : List Ev} {J Jx : World → List Ev → (Nat → Prop) → Prop} (Y : YieldOK k caps T J Jx) {aL aI aS : Addr} {w0 w : World} {P mb b Bp : Nat} {c : ComeL} {pulled : Bool} {pre R : List Ev} {o oJ : Nat → Prop}
 (h : Par aL aI aS w0 w P mb b c pulled R o) (hV : LaidVars aL aI aS w0) (hG : Gl w0) (hJ : J w pre oJ) (hT : pre ++ R = T) (hdj : ∀ j, o j → ¬ oJ j) (hJ0 : ∀ j, oJ j → w0.heap.size ≤ j)
 (hp : w.heap[Bp]? = some (.cells #[.pointer (some ⟨P, 0, none⟩)] 91 (0, 0))) (hp1 : ¬ o Bp) (hp2 : ¬ oJ Bp) :
 Calls Tryz.prog 74 #[fnV k caps, .pointer (some ⟨Bp, 0, none⟩)] w fun e w' => e = .returned (.tuple #[]) ∧ ∃ pre' rest o1 o2, pre' ++ rest = T ∧ Par aL aI aS w0 w' P mb b c true rest o1 ∧ ((rest = [] ∧ J w' pre' o2) ∨ Jx w' pre' o2) ∧ Two o oJ o1 o2 w w' := by
 have cp : w.cell? ⟨Bp, 0, none⟩ = some (.pointer (some ⟨P, 0, none⟩)) := by rw [Lib.cell_of_heap hp]; rfl
 have hpl : Bp < w.heap.size := (Array.getElem?_eq_some_iff.1 hp).1
 have hnx := par_next h hV hG
 have eg := Y.enter
 have HY := Lib.hid Y
 have HNX := Lib.hid hnx
 have HJ := Lib.hid hJ
 have HT := Lib.hid hT
 have HDJ := Lib.hid hdj
 have HJ0 := Lib.hid hJ0
 have HP := Lib.hid hp
 have HV := Lib.hid hV
 have HG := Lib.hid hG
 have hs0 := h.start.size
 clear hnx hJ hT hdj hJ0 hp hV hG Y h
 unfold fnV at *
 go_enter Tryz.func74, Tryz.ntmps74
 go_wp2_with fail
 refine HNX.out.mono ?_
 rintro e w2 ⟨rfl, o1, hp2', hm2⟩
 have hJ2 := HY.out.keep HJ.out hm2.1 (fun j h1 => HDJ.out j h1)
 have hJl := HY.out.lt HJ.out
 have htw : Two o oJ o1 oJ w w2 := ⟨hm2.1.mono (fun _ _ h => .inl h), hm2.2, fun _ h => .inl h, fun j h1 h2 => by
   rcases hm2.2 j h1 with h3 | h3
   ·exact HDJ.out j h3 h2
   ·have := hJl j h2; omega⟩
 have hsz2 := hm2.1.size
 obtain ⟨y, hy⟩ : ∃ y, R.headD ev0 = y := ⟨_, rfl⟩
 obtain ⟨ne, hne⟩ : ∃ ne, (!R.isEmpty) = ne := ⟨_, rfl⟩
 rw [hy, hne]
 unfold evV
 have HY0 := Lib.hid hy
 have HN0 := Lib.hid hne
 clear hy hne
 have HP2 := Lib.hid hp2'
 have HJ2 := Lib.hid hJ2
 have HTW := Lib.hid htw
 clear hp2' hm2 hJ2 hJl htw
 go_wp2_with fail
 go_loopg [3, 4] R.length (fun gk eb ok wr => ∃ (pr rest : List Ev) (B : Nat) (x : Ev) (a1 a2 : Nat → Prop), eb = .pointer (some ⟨B, 0, none⟩) ∧ ItI aL aI aS w0 w P mb b c T J o oJ wr pr rest B x a1 a2 ∧
   ((ok = .bool true ∧ pr ++ x :: rest = T ∧ gk = rest.length + 1) ∨ (ok = .bool false ∧ rest = [] ∧ pr = T ∧ gk = 0)))
 case atStart =>
  have hfr : Fresh w2 (w2.alloc (.cells #[.int .i64 y.kind, .bool y.fin, .int .i64 y.level, .string ⟨y.text.toArray⟩] 97)) := (Keeps.refl _ _).alloc _
  refine ⟨pre, R.tail, w2.heap.size, y, o1, oJ, rfl, ⟨HP2.out.fresh hfr, HY.out.keep HJ2.out hfr (fun _ h => h.elim), HTW.out.new hfr (fun _ h => h.elim), hsz2, fun h1 => ?_, fun h1 => ?_, heap_alloc_new w2 _⟩, ?_⟩
  ·have := (HP2.out.own _ h1).2; omega
  ·have := HY.out.lt HJ2.out _ h1; omega
  ·have h1 := HY0.out
   have h2 := HN0.out
   have h3 := HT.out
   cases R with
   | nil => exact .inr ⟨by rw [← h2]; rfl, rfl, by simpa using h3, rfl⟩
   | cons x r => exact .inl ⟨by rw [← h2]; rfl, by rw [← h1]; exact h3, rfl⟩
 case round =>
  obtain ⟨pr, rest, B, x, a1, a2, rfl, hI, hcase⟩ := hrel
  obtain ⟨wo, rfl⟩ : ∃ wo : World, wo = wr := ⟨_, rfl⟩
  rcases hcase with ⟨rfl, hpt, rfl⟩ | ⟨rfl, rfl, rfl, rfl⟩
  ·have x0 : wo.cell? ⟨B, 0, none⟩ = some (.int .i64 x.kind) := by rw [Lib.cell_of_heap hI.ev]; rfl
   have x1 : wo.cell? ⟨B, 1, none⟩ = some (.bool x.fin) := by rw [Lib.cell_of_heap hI.ev]; rfl
   have x2 : wo.cell? ⟨B, 2, none⟩ = some (.int .i64 x.level) := by rw [Lib.cell_of_heap hI.ev]; rfl
   have x3 : wo.cell? ⟨B, 3, none⟩ = some (.string ⟨x.text.toArray⟩) := by rw [Lib.cell_of_heap hI.ev]; rfl
   have hca := HY.out.call x wo pr a2 hI.j ⟨rest, hpt⟩
   unfold evV at hca
   have HCA := Lib.hid hca
   have HIi := Lib.hid hI
   have HPT := Lib.hid hpt
   clear hca hI hpt
   go_wp2_with fail
   refine HCA.out.mono ?_
   rintro e w3 ⟨go, a3, rfl, hm3, hgo, hst⟩
   have hev3 := hm3.heap HIi.out.ev HIi.out.b2
   have hd : ∀ j, a2 j → ¬ a1 j := fun j h1 h2 => HIi.out.two.dj j h2 h1
   have hd0 : ∀ j, a2 j → w0.heap.size ≤ j := fun j h1 => by
    rcases HIi.out.two.gb j h1 with h2 | h2
    ·exact HJ0.out j h2
    ·omega
   have hp3 := HIi.out.par.keep hm3.1 hd hd0
   have htw3 := HIi.out.two.right hm3 (fun j h1 => (HIi.out.par.own j h1).2)
   have hsz3 := hm3.1.size
   have hszo := HIi.out.two.kp.size
   have hBl : B < wo.heap.size := (Array.getElem?_eq_some_iff.1 HIi.out.ev).1
   have hBn : ¬ a3 B := fun h1 => by rcases hm3.2 B h1 with h2 | h2; exact HIi.out.b2 h2; omega
   have z0 : w3.cell? ⟨B, 0, none⟩ = some (.int .i64 x.kind) := by rw [Lib.cell_of_heap hev3]; rfl
   have z1 : w3.cell? ⟨B, 1, none⟩ = some (.bool x.fin) := by rw [Lib.cell_of_heap hev3]; rfl
   have z2 : w3.cell? ⟨B, 2, none⟩ = some (.int .i64 x.level) := by rw [Lib.cell_of_heap hev3]; rfl
   have z3 : w3.cell? ⟨B, 3, none⟩ = some (.string ⟨x.text.toArray⟩) := by rw [Lib.cell_of_heap hev3]; rfl
   have cp0 : w3.cell? ⟨Bp, 0, none⟩ = some (.pointer (some ⟨P, 0, none⟩)) := by
    have h1 := htw3.kp.heap_some HP.out (fun h => by rcases h with h | h; exact hp1 h; exact hp2 h)
    rw [Lib.cell_of_heap h1]; rfl
   have hpl3 : Bp < w3.heap.size := by omega
   cases go with
   | false =>
    have hj3 := hst rfl
    have HP3 := Lib.hid hp3
    have HTW3 := Lib.hid htw3
    have HJ3 := Lib.hid hj3
    clear hp3 htw3 hj3 hm3 hgo hst hev3 hd hd0
    go_wp2
    refine bodyPost_ret (results_none rfl _ _ _) rfl ?_
    exact ⟨rfl, pr ++ [x], rest, a1, a3, by rw [← HPT.out]; simp, HP3.out, .inr HJ3.out, HTW3.out⟩
   | true =>
    have hj3 := hgo rfl
    have hfr : Fresh w3 (w3.alloc (.cells #[.int .i64 x.kind, .bool x.fin, .int .i64 x.level, .string ⟨x.text.toArray⟩] 97)) := (Keeps.refl _ _).alloc _
    have hnx := par_next (hp3.fresh hfr) HV.out HG.out
    have hj4 := HY.out.keep hj3 hfr (fun _ h => h.elim)
    have hl4 := HY.out.lt hj3
    have htw4 := htw3.new hfr (fun _ h => h.elim)
    have hb4 := heap_alloc_new w3 (.cells #[.int .i64 x.kind, .bool x.fin, .int .i64 x.level, .string ⟨x.text.toArray⟩] 97)
    have ho3 := hp3.own
    obtain ⟨y', hy'⟩ : ∃ y', rest.headD ev0 = y' := ⟨_, rfl⟩
    obtain ⟨ne', hne'⟩ : ∃ ne', (!rest.isEmpty) = ne' := ⟨_, rfl⟩
    rw [hy', hne'] at hnx
    unfold evV at hnx
    have HNX2 := Lib.hid hnx
    have HJ4 := Lib.hid hj4
    have HL4 := Lib.hid hl4
    have HTW4 := Lib.hid htw4
    have HB4 := Lib.hid hb4
    have HO3 := Lib.hid ho3
    have HY2 := Lib.hid hy'
    have HN2 := Lib.hid hne'
    clear hp3 htw3 hj3 hm3 hgo hst hev3 hd hd0 hfr hnx hj4 hl4 htw4 hb4 ho3 hy' hne'
    go_wp2_with fail
    refine HNX2.out.mono ?_
    rintro e w5 ⟨rfl, a4, hp5, hm5⟩
    have hbn : ¬ a1 w3.heap.size := fun h1 => by have := (HO3.out _ h1).2; omega
    have hb5 := hm5.heap HB4.out hbn
    have htw5 := HTW4.out.left hm5 (fun j h1 => by have := HL4.out j h1; simp; omega)
    have hj5 := HY.out.keep HJ4.out hm5.1 (fun j h1 h2 => HTW4.out.dj j h1 h2)
    have hsz5 : w3.heap.size < w5.heap.size := by have := hm5.1.size; simp at this; omega
    have hb4n : ¬ a4 w3.heap.size := fun h1 => by
     rcases hm5.2 _ h1 with h2 | h2
     ·exact hbn h2
     ·simp at h2; omega
    have k0 : w5.cell? ⟨w3.heap.size, 0, none⟩ = some (.int .i64 x.kind) := by rw [Lib.cell_of_heap hb5]; rfl
    have k1 : w5.cell? ⟨w3.heap.size, 1, none⟩ = some (.bool x.fin) := by rw [Lib.cell_of_heap hb5]; rfl
    have k2 : w5.cell? ⟨w3.heap.size, 2, none⟩ = some (.int .i64 x.level) := by rw [Lib.cell_of_heap hb5]; rfl
    have k3 : w5.cell? ⟨w3.heap.size, 3, none⟩ = some (.string ⟨x.text.toArray⟩) := by rw [Lib.cell_of_heap hb5]; rfl
    have f0 : w5.frozen? ⟨w3.heap.size, 0, none⟩ = false := Lib.frozen_of_heap hb5 0
    have f1 : w5.frozen? ⟨w3.heap.size, 1, none⟩ = false := Lib.frozen_of_heap hb5 1
    have f2 : w5.frozen? ⟨w3.heap.size, 2, none⟩ = false := Lib.frozen_of_heap hb5 2
    have f3 : w5.frozen? ⟨w3.heap.size, 3, none⟩ = false := Lib.frozen_of_heap hb5 3
    have HP5 := Lib.hid hp5
    have HTW5 := Lib.hid htw5
    have HJ5 := Lib.hid hj5
    have HB5 := Lib.hid hb5
    clear hp5 hm5 hb5 htw5 hj5
    go_wp2_with fail
    obtain ⟨X, hX⟩ : ∃ X, (((w5.setCell ⟨w3.heap.size, 0, none⟩ (.int .i64 y'.kind)).setCell ⟨w3.heap.size, 1, none⟩ (.bool y'.fin)).setCell ⟨w3.heap.size, 2, none⟩ (.int .i64 y'.level)).setCell ⟨w3.heap.size, 3, none⟩ (.string ⟨y'.text.toArray⟩) = X := ⟨_, rfl⟩
    rw [hX]
    have hkX : Keeps (fun j => j = w3.heap.size) w5 X := by
     rw [← hX]
     exact ((((Keeps.refl (fun j => j = w3.heap.size) w5).setCell (p := ⟨w3.heap.size, 0, none⟩) (fun _ => rfl) _).setCell (p := ⟨w3.heap.size, 1, none⟩) (fun _ => rfl) _).setCell (p := ⟨w3.heap.size, 2, none⟩) (fun _ => rfl) _).setCell (p := ⟨w3.heap.size, 3, none⟩) (fun _ => rfl) _
    have hgX : X.heap[w3.heap.size]? = some (.cells #[.int .i64 y'.kind, .bool y'.fin, .int .i64 y'.level, .string ⟨y'.text.toArray⟩] 97 (0, 0)) := by
     rw [← hX]
     simp [World.setCell, Array.getElem?_modify, HB5.out]
    clear hX
    go_roundg rest.length
    case measure => omega
    case rel =>
     refine ⟨pr ++ [x], rest.tail, w3.heap.size, y', a4, a3, rfl, ⟨HP5.out.keep hkX (fun j h1 h2 => hb4n (h1 ▸ h2)) (fun j h1 => by omega), HY.out.keep HJ5.out hkX (fun j h1 h2 => by have := HL4.out j h2; omega), HTW5.out.new hkX (fun j h1 => by omega), by omega, hb4n, fun h1 => by have := HL4.out _ h1; omega, hgX⟩, ?_⟩
     have h1 := HY2.out
     have h2 := HN2.out
     have h3 := HPT.out
     cases rest with
     | nil => exact .inr ⟨by rw [← h2]; rfl, rfl, h3, rfl⟩
     | cons z r => exact .inl ⟨by rw [← h2]; rfl, by rw [← h1, ← h3]; simp, rfl⟩
  ·have HIi := Lib.hid hI
   clear hI
   go_wp2
   go_end0
   exact ⟨rfl, pr, [], a1, a2, by simp, HIi.out.par, .inl ⟨rfl, HIi.out.j⟩, HIi.out.two⟩
end Go.Proofs.YtbioecifiogffaaGreatDoor
namespace Go.Proofs.YtbioecifiogffaaGreatDoor
open Go.RowKit
def EvSl (w : World) (g : Nat) (v : Value) (L : List Ev) : Prop := SlAt w 4 g v (L.map Ev.cells)
theorem evCells_flat (L : List Ev) : evCells L = (L.map Ev.cells).flatten := by
 induction L with
 | nil => rfl
 | cons x r ih => rw [show evCells (x :: r) = x.cells ++ evCells r from by simp [evCells], ih]; simp
theorem Evs.sl {w : World} {t : TypeId} {v : Value} {L : List Ev} (h : Evs w t v L) : EvSl w ((v.ownBlock).getD 0) v L := by
 unfold Evs at h
 refine own_sl (e := t) (fun r hr => ?_) ?_
 ·obtain ⟨x, -, rfl⟩ := List.mem_map.1 hr
  rfl
 ·rw [List.length_map, ← evCells_flat]
  exact h
theorem EvSl.kept {D : Nat → Prop} {w w' : World} {g : Nat} {v : Value} {L : List Ev} (h : EvSl w g v L) (hk : Keeps D w w') (hn : L ≠ [] → ¬ D g) : EvSl w' g v L := SlAt.kept h hk (fun hne => hn (by rintro rfl; exact hne rfl))
theorem EvSl.fresh {w w' : World} {g : Nat} {v : Value} {L : List Ev} (h : EvSl w g v L) (hk : Fresh w w') : EvSl w' g v L := h.kept hk (fun _ h => h)
theorem EvSl.form {w : World} {g : Nat} {v : Value} {L : List Ev} (h : EvSl w g v L) : ∃ a cap, v = .slice a L.length cap ∧ L.length ≤ cap ∧ cap ≤ maxLen ∧ (L ≠ [] → ∃ off, a = some ⟨g, off, none⟩) := by
 obtain ⟨a, cap, off, h1, h2, h3, h4⟩ := h
 rw [List.length_map] at h1 h2
 refine ⟨a, cap, h1, h2, h3, fun hne => ⟨off, (h4 (by simpa using hne)).1⟩⟩
theorem EvSl.at {w : World} {g : Nat} {p : Option Addr} {m c : Nat} {L : List Ev} (h : EvSl w g (.slice p m c) L) {j : Nat} {x : Ev} (hj : L[j]? = some x) :
 ∃ off, p = some ⟨g, off, none⟩ ∧ m = L.length ∧ g < w.heap.size ∧ w.cell? ⟨g, off + j * 4, none⟩ = some (.int .i64 x.kind) ∧ w.cell? ⟨g, off + j * 4 + 1, none⟩ = some (.bool x.fin) ∧ w.cell? ⟨g, off + j * 4 + 2, none⟩ = some (.int .i64 x.level) ∧ w.cell? ⟨g, off + j * 4 + 3, none⟩ = some (.string ⟨x.text.toArray⟩) := by
 obtain ⟨a, cap, off, h1, h2, h3, h4⟩ := h
 have hlt : j < L.length := (List.getElem?_eq_some_iff.1 hj).1
 obtain ⟨ha, hc⟩ := h4 (by intro e; have := congrArg List.length e; simp at this; rw [this] at hlt; simp at hlt)
 cases h1
 have hr : (L.map Ev.cells)[j]? = some x.cells := by rw [List.getElem?_map, hj]; rfl
 have c0 := hc j _ hr 0 _ (by omega) (show x.cells[0]? = some (.int .i64 x.kind) from rfl)
 have c1 := hc j _ hr 1 _ (by omega) (show x.cells[1]? = some (.bool x.fin) from rfl)
 have c2 := hc j _ hr 2 _ (by omega) (show x.cells[2]? = some (.int .i64 x.level) from rfl)
 have c3 := hc j _ hr 3 _ (by omega) (show x.cells[3]? = some (.string ⟨x.text.toArray⟩) from rfl)
 exact ⟨off, ha, by simp, World.block_lt_of_cell? w _ c0, c0, c1, c2, c3⟩
theorem EvSl.take {w : World} {g m c : Nat} {p : Option Addr} {L : List Ev} (h : EvSl w g (.slice p m c) L) (n : Nat) (hn : n ≤ L.length) : EvSl w g (.slice p n c) (L.take n) := by
 obtain ⟨a, cap, off, h1, h2, h3, h4⟩ := h
 cases h1
 rw [List.length_map] at h2
 have hl : ((L.take n).map Ev.cells).length = n := by simp; omega
 refine ⟨_, _, off, by rw [hl], by rw [hl]; omega, h3, fun hne => ?_⟩
 have hL : L.map Ev.cells ≠ [] := by intro e; apply hne; simp at e ⊢; simp [e]
 refine ⟨(h4 hL).1, fun j r hr i u hi hu => (h4 hL).2 j r ?_ i u hi hu⟩
 rw [List.map_take, List.getElem?_take] at hr
 split at hr
 ·exact hr
 ·cases hr
theorem EvSl.drop {w : World} {g m c : Nat} {p : Option Addr} {L : List Ev} (h : EvSl w g (.slice p m c) L) (n : Nat) (hn : n ≤ L.length) :
 EvSl w g (.slice (if c = n then p else p.map fun a => ⟨a.block, a.off + n * 4, a.spot⟩) (L.length - n) (c - n)) (L.drop n) := by
 obtain ⟨a, cap, off, h1, h2, h3, h4⟩ := h
 cases h1
 rw [List.length_map] at h2
 have hl : ((L.drop n).map Ev.cells).length = L.length - n := by simp
 refine ⟨_, _, off + n * 4, by rw [hl], by rw [hl]; omega, by omega, fun hne => ?_⟩
 have hlt : n < L.length := by
  rcases Nat.lt_or_ge n L.length with h | h
  ·exact h
  ·exfalso; apply hne; rw [List.drop_of_length_le h]; rfl
 have hL : L.map Ev.cells ≠ [] := by intro e; simp at e; rw [e] at hlt; simp at hlt
 obtain ⟨ha, hc⟩ := h4 hL
 rw [if_neg (by omega), ha]
 refine ⟨rfl, fun j r hr i u hi hu => ?_⟩
 rw [List.map_drop, List.getElem?_drop] at hr
 have := hc (n + j) r hr i u hi hu
 rw [Nat.add_mul] at this
 rw [show off + n * 4 + j * 4 + i = off + (n * 4 + j * 4) + i by omega]
 exact this
theorem same_sl (v u : Value) (g g2 : Nat) (L : List Ev) (w : World) (h : EvSl w g v L) (h2 : EvSl w g2 u L) (hL : L.length ≤ 1000000000) :
 Calls Tryz.prog 37 #[v, u] w fun r w' => r = .returned (.bool true) ∧ Fresh w w' := by
 obtain ⟨q, c, rfl, -⟩ := h.form
 obtain ⟨q2, c2, rfl, -⟩ := h2.form
 have H := Lib.hid h
 have H2 := Lib.hid h2
 clear h h2
 go_enter Tryz.func37, Tryz.ntmps37
 go_wp2
 go_loopw [5] (fun i wr => ∃ j : Nat, j ≤ L.length ∧ i = .int .i64 j ∧ Fresh w wr) (fun i _ => L.length - (intOf i).toNat)
 case atStart => exact ⟨0, Nat.zero_le _, rfl, Keeps.refl _ _⟩
 case round =>
  obtain ⟨j, hj, rfl, hF⟩ := hrel
  by_cases hlt : j < L.length
  ·obtain ⟨e, he⟩ : ∃ e, L[j]? = some e := ⟨L[j], List.getElem?_eq_getElem hlt⟩
   obtain ⟨off, hqe, -, hgl, x0, x1, x2, x3⟩ := EvSl.at (H.out.fresh hF) he
   obtain ⟨off2, hqe2, -, hgl2, z0, z1, z2, z3⟩ := EvSl.at (H2.out.fresh hF) he
   subst hqe hqe2
   have b0 : (0 : Int) ≤ (j : Int) := by omega
   have b1 : (j : Int) < (L.length : Int) := by omega
   have HF := Lib.hid hF
   clear he hF
   go_wp2
   go_quiet (fail)
   go_wp2
   go_roundw
   case rel => exact ⟨j + 1, by omega, by go_num, HF.out.drewN _⟩
   case measure => simp [intOf]; omega
  ·obtain rfl : j = L.length := by omega
   clear hlt hj
   go_wp2
   go_ret
   exact ⟨rfl, hF⟩
end Go.Proofs.YtbioecifiogffaaGreatDoor
namespace Go.Proofs.YtbioecifiogffaaGreatDoor
open Go.RowKit
attribute [local go_sem] Oper.semAt_some
structure RoundOK (w0 : World) (l : Nat) (T : List Ev) (J Jx : World → List Ev → (Nat → Prop) → Prop) : Prop where
 lt : ∀ {w : World} {L : List Ev} {o : Nat → Prop}, J w L o → ∀ b, o b → b < w.heap.size
 keep : ∀ {D : Nat → Prop} {w w' : World} {L : List Ev} {o : Nat → Prop}, J w L o → Keeps D w w' → (∀ b, D b → ¬ o b) → (∀ b, D b → w0.heap.size ≤ b) → J w' L o
 call : ∀ (x : Ev) (w : World) (L : List Ev) (o : Nat → Prop), J w L o → (∃ rest, L ++ x :: rest = T) →
  YieldAt Fence.wide 0 Tryz.prog l #[evV x] w fun e w' => ∃ (go : Bool) (o' : Nat → Prop), e = .returned (.bool go) ∧ Mv o o' w w' ∧ (go = true → J w' (L ++ [x]) o') ∧ (go = false → Jx w' (L ++ [x]) o')
theorem All1_round {l : Nat} {T : List Ev} {J Jx : World → List Ev → (Nat → Prop) → Prop} {aL aI aS : Addr} {w0 w : World} (Y : RoundOK w0 l T J Jx) {P mb b Bp : Nat} {c : ComeL} {pulled : Bool} {pre R : List Ev} {o oJ : Nat → Prop}
 (h : Par aL aI aS w0 w P mb b c pulled R o) (hV : LaidVars aL aI aS w0) (hG : Gl w0) (hJ : J w pre oJ) (hT : pre ++ R = T) (hdj : ∀ j, o j → ¬ oJ j) (hJ0 : ∀ j, oJ j → w0.heap.size ≤ j)
 (hp : w.heap[Bp]? = some (.cells #[.pointer (some ⟨P, 0, none⟩)] 91 (0, 0))) (hp1 : ¬ o Bp) (hp2 : ¬ oJ Bp) :
 Calls Tryz.prog 74 #[.func (.yield l) #[] #[], .pointer (some ⟨Bp, 0, none⟩)] w fun e w' => e = .returned (.tuple #[]) ∧ ∃ pre' rest o1 o2, pre' ++ rest = T ∧ Par aL aI aS w0 w' P mb b c true rest o1 ∧ ((rest = [] ∧ J w' pre' o2) ∨ Jx w' pre' o2) ∧ Two o oJ o1 o2 w w' := by
 have cp : w.cell? ⟨Bp, 0, none⟩ = some (.pointer (some ⟨P, 0, none⟩)) := by rw [Lib.cell_of_heap hp]; rfl
 have hpl : Bp < w.heap.size := (Array.getElem?_eq_some_iff.1 hp).1
 have hnx := par_next h hV hG
 have HY := Lib.hid Y
 have HNX := Lib.hid hnx
 have HJ := Lib.hid hJ
 have HT := Lib.hid hT
 have HDJ := Lib.hid hdj
 have HJ0 := Lib.hid hJ0
 have HP := Lib.hid hp
 have HV := Lib.hid hV
 have HG := Lib.hid hG
 have hs0 := h.start.size
 have HOW := Lib.hid h.own
 clear hnx hJ hT hdj hJ0 hp hV hG Y h
 go_enter Tryz.func74, Tryz.ntmps74
 go_wp2_with fail
 refine HNX.out.mono ?_
 rintro e w2 ⟨rfl, o1, hp2', hm2⟩
 have hJ2 := HY.out.keep HJ.out hm2.1 (fun j h1 => HDJ.out j h1) (fun j h1 => (HOW.out j h1).1)
 have hJl := HY.out.lt HJ.out
 have htw : Two o oJ o1 oJ w w2 := ⟨hm2.1.mono (fun _ _ h => .inl h), hm2.2, fun _ h => .inl h, fun j h1 h2 => by
   rcases hm2.2 j h1 with h3 | h3
   ·exact HDJ.out j h3 h2
   ·have := hJl j h2; omega⟩
 have hsz2 := hm2.1.size
 obtain ⟨y, hy⟩ : ∃ y, R.headD ev0 = y := ⟨_, rfl⟩
 obtain ⟨ne, hne⟩ : ∃ ne, (!R.isEmpty) = ne := ⟨_, rfl⟩
 rw [hy, hne]
 unfold evV
 have HY0 := Lib.hid hy
 have HN0 := Lib.hid hne
 clear hy hne
 have HP2 := Lib.hid hp2'
 have HJ2 := Lib.hid hJ2
 have HTW := Lib.hid htw
 clear hp2' hm2 hJ2 hJl htw
 go_wp2_with fail
 go_loopg [3, 4] R.length (fun gk eb ok wr => ∃ (pr rest : List Ev) (B : Nat) (x : Ev) (a1 a2 : Nat → Prop), eb = .pointer (some ⟨B, 0, none⟩) ∧ ItI aL aI aS w0 w P mb b c T J o oJ wr pr rest B x a1 a2 ∧
   ((ok = .bool true ∧ pr ++ x :: rest = T ∧ gk = rest.length + 1) ∨ (ok = .bool false ∧ rest = [] ∧ pr = T ∧ gk = 0)))
 case atStart =>
  have hfr : Fresh w2 (w2.alloc (.cells #[.int .i64 y.kind, .bool y.fin, .int .i64 y.level, .string ⟨y.text.toArray⟩] 97)) := (Keeps.refl _ _).alloc _
  refine ⟨pre, R.tail, w2.heap.size, y, o1, oJ, rfl, ⟨HP2.out.fresh hfr, HY.out.keep HJ2.out hfr (fun _ h => h.elim) (fun _ h => h.elim), HTW.out.new hfr (fun _ h => h.elim), hsz2, fun h1 => ?_, fun h1 => ?_, heap_alloc_new w2 _⟩, ?_⟩
  ·have := (HP2.out.own _ h1).2; omega
  ·have := HY.out.lt HJ2.out _ h1; omega
  ·have h1 := HY0.out
   have h2 := HN0.out
   have h3 := HT.out
   cases R with
   | nil => exact .inr ⟨by rw [← h2]; rfl, rfl, by simpa using h3, rfl⟩
   | cons x r => exact .inl ⟨by rw [← h2]; rfl, by rw [← h1]; exact h3, rfl⟩
 case round =>
  obtain ⟨pr, rest, B, x, a1, a2, rfl, hI, hcase⟩ := hrel
  obtain ⟨wo, rfl⟩ : ∃ wo : World, wo = wr := ⟨_, rfl⟩
  rcases hcase with ⟨rfl, hpt, rfl⟩ | ⟨rfl, rfl, rfl, rfl⟩
  ·have x0 : wo.cell? ⟨B, 0, none⟩ = some (.int .i64 x.kind) := by rw [Lib.cell_of_heap hI.ev]; rfl
   have x1 : wo.cell? ⟨B, 1, none⟩ = some (.bool x.fin) := by rw [Lib.cell_of_heap hI.ev]; rfl
   have x2 : wo.cell? ⟨B, 2, none⟩ = some (.int .i64 x.level) := by rw [Lib.cell_of_heap hI.ev]; rfl
   have x3 : wo.cell? ⟨B, 3, none⟩ = some (.string ⟨x.text.toArray⟩) := by rw [Lib.cell_of_heap hI.ev]; rfl
   have hca := HY.out.call x wo pr a2 hI.j ⟨rest, hpt⟩
   unfold evV at hca
   have HCA := Lib.hid hca
   have HIi := Lib.hid hI
   have HPT := Lib.hid hpt
   clear hca hI hpt
   obtain ⟨fnr, tmr, asr, bor, hy9, hRo⟩ := HCA.out
   have HRO := Lib.hid hRo
   clear hRo
   go_upto_region 3 with fail
   refine (wpIn_wide (n := 0)).1 ?_
   gi_wp2
   refine ⟨by simp [Fence.wide], ?_⟩
   refine HRO.out.mono ?_
   rintro e w3 ⟨go, a3, rfl, hm3, hgo, hst⟩
   gi_wp2
   have hev3 := hm3.heap HIi.out.ev HIi.out.b2
   have hd : ∀ j, a2 j → ¬ a1 j := fun j h1 h2 => HIi.out.two.dj j h2 h1
   have hd0 : ∀ j, a2 j → w0.heap.size ≤ j := fun j h1 => by
    rcases HIi.out.two.gb j h1 with h2 | h2
    ·exact HJ0.out j h2
    ·omega
   have hp3 := HIi.out.par.keep hm3.1 hd hd0
   have htw3 := HIi.out.two.right hm3 (fun j h1 => (HIi.out.par.own j h1).2)
   have hsz3 := hm3.1.size
   have hszo := HIi.out.two.kp.size
   have hBl : B < wo.heap.size := (Array.getElem?_eq_some_iff.1 HIi.out.ev).1
   have hBn : ¬ a3 B := fun h1 => by rcases hm3.2 B h1 with h2 | h2; exact HIi.out.b2 h2; omega
   have z0 : w3.cell? ⟨B, 0, none⟩ = some (.int .i64 x.kind) := by rw [Lib.cell_of_heap hev3]; rfl
   have z1 : w3.cell? ⟨B, 1, none⟩ = some (.bool x.fin) := by rw [Lib.cell_of_heap hev3]; rfl
   have z2 : w3.cell? ⟨B, 2, none⟩ = some (.int .i64 x.level) := by rw [Lib.cell_of_heap hev3]; rfl
   have z3 : w3.cell? ⟨B, 3, none⟩ = some (.string ⟨x.text.toArray⟩) := by rw [Lib.cell_of_heap hev3]; rfl
   have cp0 : w3.cell? ⟨Bp, 0, none⟩ = some (.pointer (some ⟨P, 0, none⟩)) := by
    have h1 := htw3.kp.heap_some HP.out (fun h => by rcases h with h | h; exact hp1 h; exact hp2 h)
    rw [Lib.cell_of_heap h1]; rfl
   have hpl3 : Bp < w3.heap.size := by omega
   cases go with
   | false =>
    have hj3 := hst rfl
    have HP3 := Lib.hid hp3
    have HTW3 := Lib.hid htw3
    have HJ3 := Lib.hid hj3
    clear hp3 htw3 hj3 hm3 hgo hst hev3 hd hd0
    go_wp2
    refine bodyPost_ret (results_none rfl _ _ _) rfl ?_
    exact ⟨rfl, pr ++ [x], rest, a1, a3, by rw [← HPT.out]; simp, HP3.out, .inr HJ3.out, HTW3.out⟩
   | true =>
    have hj3 := hgo rfl
    have hfr : Fresh w3 (w3.alloc (.cells #[.int .i64 x.kind, .bool x.fin, .int .i64 x.level, .string ⟨x.text.toArray⟩] 97)) := (Keeps.refl _ _).alloc _
    have hnx := par_next (hp3.fresh hfr) HV.out HG.out
    have hj4 := HY.out.keep hj3 hfr (fun _ h => h.elim) (fun _ h => h.elim)
    have hl4 := HY.out.lt hj3
    have htw4 := htw3.new hfr (fun _ h => h.elim)
    have hb4 := heap_alloc_new w3 (.cells #[.int .i64 x.kind, .bool x.fin, .int .i64 x.level, .string ⟨x.text.toArray⟩] 97)
    have ho3 := hp3.own
    obtain ⟨y', hy'⟩ : ∃ y', rest.headD ev0 = y' := ⟨_, rfl⟩
    obtain ⟨ne', hne'⟩ : ∃ ne', (!rest.isEmpty) = ne' := ⟨_, rfl⟩
    rw [hy', hne'] at hnx
    unfold evV at hnx
    have HNX2 := Lib.hid hnx
    have HJ4 := Lib.hid hj4
    have HL4 := Lib.hid hl4
    have HTW4 := Lib.hid htw4
    have HB4 := Lib.hid hb4
    have HO3 := Lib.hid ho3
    have HY2 := Lib.hid hy'
    have HN2 := Lib.hid hne'
    clear hp3 htw3 hj3 hm3 hgo hst hev3 hd hd0 hfr hnx hj4 hl4 htw4 hb4 ho3 hy' hne'
    go_wp2_with fail
    refine HNX2.out.mono ?_
    rintro e w5 ⟨rfl, a4, hp5, hm5⟩
    have hbn : ¬ a1 w3.heap.size := fun h1 => by have := (HO3.out _ h1).2; omega
    have hb5 := hm5.heap HB4.out hbn
    have htw5 := HTW4.out.left hm5 (fun j h1 => by have := HL4.out j h1; simp; omega)
    have hj5 := HY.out.keep HJ4.out hm5.1 (fun j h1 h2 => HTW4.out.dj j h1 h2) (fun j h1 => (HO3.out j h1).1)
    have hsz5 : w3.heap.size < w5.heap.size := by have := hm5.1.size; simp at this; omega
    have hb4n : ¬ a4 w3.heap.size := fun h1 => by
     rcases hm5.2 _ h1 with h2 | h2
     ·exact hbn h2
     ·simp at h2; omega
    have k0 : w5.cell? ⟨w3.heap.size, 0, none⟩ = some (.int .i64 x.kind) := by rw [Lib.cell_of_heap hb5]; rfl
    have k1 : w5.cell? ⟨w3.heap.size, 1, none⟩ = some (.bool x.fin) := by rw [Lib.cell_of_heap hb5]; rfl
    have k2 : w5.cell? ⟨w3.heap.size, 2, none⟩ = some (.int .i64 x.level) := by rw [Lib.cell_of_heap hb5]; rfl
    have k3 : w5.cell? ⟨w3.heap.size, 3, none⟩ = some (.string ⟨x.text.toArray⟩) := by rw [Lib.cell_of_heap hb5]; rfl
    have f0 : w5.frozen? ⟨w3.heap.size, 0, none⟩ = false := Lib.frozen_of_heap hb5 0
    have f1 : w5.frozen? ⟨w3.heap.size, 1, none⟩ = false := Lib.frozen_of_heap hb5 1
    have f2 : w5.frozen? ⟨w3.heap.size, 2, none⟩ = false := Lib.frozen_of_heap hb5 2
    have f3 : w5.frozen? ⟨w3.heap.size, 3, none⟩ = false := Lib.frozen_of_heap hb5 3
    have HP5 := Lib.hid hp5
    have HTW5 := Lib.hid htw5
    have HJ5 := Lib.hid hj5
    have HB5 := Lib.hid hb5
    clear hp5 hm5 hb5 htw5 hj5
    go_wp2_with fail
    obtain ⟨X, hX⟩ : ∃ X, (((w5.setCell ⟨w3.heap.size, 0, none⟩ (.int .i64 y'.kind)).setCell ⟨w3.heap.size, 1, none⟩ (.bool y'.fin)).setCell ⟨w3.heap.size, 2, none⟩ (.int .i64 y'.level)).setCell ⟨w3.heap.size, 3, none⟩ (.string ⟨y'.text.toArray⟩) = X := ⟨_, rfl⟩
    rw [hX]
    have hkX : Keeps (fun j => j = w3.heap.size) w5 X := by
     rw [← hX]
     exact ((((Keeps.refl (fun j => j = w3.heap.size) w5).setCell (p := ⟨w3.heap.size, 0, none⟩) (fun _ => rfl) _).setCell (p := ⟨w3.heap.size, 1, none⟩) (fun _ => rfl) _).setCell (p := ⟨w3.heap.size, 2, none⟩) (fun _ => rfl) _).setCell (p := ⟨w3.heap.size, 3, none⟩) (fun _ => rfl) _
    have hgX : X.heap[w3.heap.size]? = some (.cells #[.int .i64 y'.kind, .bool y'.fin, .int .i64 y'.level, .string ⟨y'.text.toArray⟩] 97 (0, 0)) := by
     rw [← hX]
     simp [World.setCell, Array.getElem?_modify, HB5.out]
    clear hX
    go_roundg rest.length
    case measure => omega
    case rel =>
     refine ⟨pr ++ [x], rest.tail, w3.heap.size, y', a4, a3, rfl, ⟨HP5.out.keep hkX (fun j h1 h2 => hb4n (h1 ▸ h2)) (fun j h1 => by omega), HY.out.keep HJ5.out hkX (fun j h1 h2 => by have := HL4.out j h2; omega) (fun j h1 => by omega), HTW5.out.new hkX (fun j h1 => by omega), by omega, hb4n, fun h1 => by have := HL4.out _ h1; omega, hgX⟩, ?_⟩
     have h1 := HY2.out
     have h2 := HN2.out
     have h3 := HPT.out
     cases rest with
     | nil => exact .inr ⟨by rw [← h2]; rfl, rfl, h3, rfl⟩
     | cons z r => exact .inl ⟨by rw [← h2]; rfl, by rw [← h1, ← h3]; simp, rfl⟩
  ·have HIi := Lib.hid hI
   clear hI
   go_wp2
   go_end0
   exact ⟨rfl, pr, [], a1, a2, by simp, HIi.out.par, .inl ⟨rfl, HIi.out.j⟩, HIi.out.two⟩
end Go.Proofs.YtbioecifiogffaaGreatDoor
