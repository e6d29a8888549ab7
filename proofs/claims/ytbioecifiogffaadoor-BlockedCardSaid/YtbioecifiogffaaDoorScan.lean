/- inline.scanner: what a scanner holds; flush, tell. Condition: no more than 2^30 events, no more than 2^30 bytes. -/
import Derived.Test.YtbioecifiogffaaDoorEvRow
import Derived.Test.YtbioecifiogffaaDoorInlRef1
import Derived.Deep.RegionLaw
namespace Go.Proofs.YtbioecifiogffaaDoor
open Go.RowKit

theorem Tryd.infoAE : (Tryd.prog.info? 84).map (fun i => (i.zero, i.size, i.bytes)) = some (some (.agg #[.int .i64 0, .bool false, .int .i64 0, .string ⟨#[]⟩]), 4, 40) := by kernel_rfl

/-- Block C is a scanner over s at place i; v owns the bytes p that have gathered; block Bo holds the slice vo, which owns the events L. -/
structure Scan (w : World) (C Bo : Nat) (v vo : Value) (s : ByteArray) (i : Nat) (ins : Bool) (p : List UInt8) (L : List Ev) : Prop where
  blk : w.heap[C]? = some (.cells #[.string s, .int .i64 i, .bool ins, v, .pointer (some ⟨Bo, 0, none⟩)] 144 (0, 0))
  out : w.heap[Bo]? = some (.cells #[vo] 55 (0, 0))
  txt : w.ownsRow 0 5 1 v p.length (Lib.byteCells p)
  evs : Evs w 84 vo L

/-- What a step of a scanner may turn. -/
def ScanD (C Bo : Nat) (v vo : Value) (k : Nat) : Prop := k = C ∨ k = Bo ∨ v.ownBlock = some k ∨ vo.ownBlock = some k
/-- What lay in o may have turned; o' is what of it is left, and blocks that were not there. -/
def Mv (o o' : Nat → Prop) (w w' : World) : Prop := Keeps o w w' ∧ ∀ k, o' k → o k ∨ w.heap.size ≤ k
theorem Mv.refl (o : Nat → Prop) (w : World) : Mv o o w w := ⟨Keeps.refl _ _, fun _ h => .inl h⟩
theorem Mv.trans {o o' o'' : Nat → Prop} {a b c : World} (h : Mv o o' a b) (h' : Mv o' o'' b c) : Mv o o'' a c :=
  ⟨h.1.trans h'.1 (fun j hj ho => (h.2 j ho).resolve_right (by omega)), fun k hk => by
    rcases h'.2 k hk with h1 | h1
    · exact h.2 k h1
    · exact .inr (Nat.le_trans h.1.size h1)⟩
theorem Mv.fresh {o : Nat → Prop} {a b : World} (h : Fresh a b) : Mv o o a b := ⟨h.mono (fun _ _ h => h.elim), fun _ h => .inl h⟩
theorem Mv.of {o o' D : Nat → Prop} {a b : World} (h : Keeps D a b) (hD : ∀ k, D k → o k) (ho : ∀ k, o' k → o k ∨ a.heap.size ≤ k) : Mv o o' a b := ⟨h.mono (fun k _ hk => hD k hk), ho⟩

/-- The library's own variable is there; the program's variables lie below. -/
def Gl (w : World) : Prop := (∃ m, w.cell? ⟨4, 0, none⟩ = some (.int .i64 m)) ∧ 7 ≤ w.heap.size
def Hi (o : Nat → Prop) : Prop := ∀ k, o k → 7 ≤ k
theorem Gl.fresh {w w' : World} (h : Gl w) (hk : Fresh w w') : Gl w' := by
  obtain ⟨⟨m, hm⟩, hs⟩ := h
  exact ⟨⟨m, hk.cell_some hm (fun h => h)⟩, Nat.le_trans hs hk.size⟩
theorem Gl.mv {o o' : Nat → Prop} {w w' : World} (h : Gl w) (hm : Mv o o' w w') (ho : Hi o) : Gl w' ∧ Hi o' := by
  obtain ⟨⟨m, hc⟩, hs⟩ := h
  refine ⟨⟨⟨m, hm.1.cell_some hc (fun h => ?_)⟩, Nat.le_trans hs hm.1.size⟩, fun k hk => ?_⟩
  · have h1 := ho _ h
    have h2 : 4 < 7 := by decide
    simp only at h1
    omega
  · rcases hm.2 k hk with h1 | h1
    · exact ho k h1
    · omega

theorem Scan.neCB {w : World} {C Bo : Nat} {v vo : Value} {s : ByteArray} {i : Nat} {ins : Bool} {p : List UInt8} {L : List Ev} (h : Scan w C Bo v vo s i ins p L) : C ≠ Bo := by
  rintro rfl
  have := h.blk.symm.trans h.out
  cases this
theorem Scan.cells {w : World} {C Bo : Nat} {v vo : Value} {s : ByteArray} {i : Nat} {ins : Bool} {p : List UInt8} {L : List Ev} (h : Scan w C Bo v vo s i ins p L) :
    w.cell? ⟨C, 0, none⟩ = some (.string s) ∧ w.cell? ⟨C, 1, none⟩ = some (.int .i64 i) ∧ w.cell? ⟨C, 2, none⟩ = some (.bool ins) ∧ w.cell? ⟨C, 3, none⟩ = some v ∧ w.cell? ⟨C, 4, none⟩ = some (.pointer (some ⟨Bo, 0, none⟩)) ∧ w.cell? ⟨Bo, 0, none⟩ = some vo ∧
    (∀ j, w.frozen? ⟨C, j, none⟩ = false) ∧ (∀ j, w.frozen? ⟨Bo, j, none⟩ = false) :=
  ⟨by rw [Lib.cell_of_heap h.blk]; rfl, by rw [Lib.cell_of_heap h.blk]; rfl, by rw [Lib.cell_of_heap h.blk]; rfl, by rw [Lib.cell_of_heap h.blk]; rfl, by rw [Lib.cell_of_heap h.blk]; rfl, by rw [Lib.cell_of_heap h.out]; rfl,
    fun j => Lib.frozen_of_heap h.blk j, fun j => Lib.frozen_of_heap h.out j⟩
theorem Scan.fresh {w w' : World} {C Bo : Nat} {v vo : Value} {s : ByteArray} {i : Nat} {ins : Bool} {p : List UInt8} {L : List Ev} (h : Scan w C Bo v vo s i ins p L) (hk : Fresh w w') : Scan w' C Bo v vo s i ins p L :=
  ⟨hk.heap_some h.blk (fun h => h), hk.heap_some h.out (fun h => h), own_kept h.txt hk (fun _ _ h => h), h.evs.fresh hk⟩
theorem Scan.drew {w : World} {C Bo : Nat} {v vo : Value} {s : ByteArray} {i : Nat} {ins : Bool} {p : List UInt8} {L : List Ev} (h : Scan w C Bo v vo s i ins p L) : Scan w.drew C Bo v vo s i ins p L :=
  ⟨h.blk, h.out, h.txt, h.evs⟩

/-- The place is stored. -/
theorem Scan.at {w : World} {C Bo : Nat} {v vo : Value} {s : ByteArray} {i : Nat} {ins : Bool} {p : List UInt8} {L : List Ev} (h : Scan w C Bo v vo s i ins p L) (j : Nat) : Scan (w.setCell ⟨C, 1, none⟩ (.int .i64 j)) C Bo v vo s j ins p L := by
  have hk : Keeps (fun k => k = C) w (w.setCell ⟨C, 1, none⟩ (.int .i64 j)) := Keeps.setCell (D := fun k => k = C) (Keeps.refl _ w) (p := ⟨C, 1, none⟩) (fun _ => rfl) _
  refine ⟨?_, hk.heap_some h.out (fun e => h.neCB e.symm), own_kept h.txt hk ?_, h.evs.kept hk ?_⟩
  · simp [World.setCell, Array.getElem?_modify, h.blk]
  · rintro k hk1 rfl; exact own_ne h.txt h.blk (by decide) hk1
  · rintro k hk1 rfl; exact own_ne h.evs h.blk (by decide) hk1
/-- Another text row is stored. -/
theorem Scan.text {w : World} {C Bo : Nat} {v v' vo : Value} {s : ByteArray} {i : Nat} {ins : Bool} {p' : List UInt8} {L : List Ev}
    (hb : w.heap[C]? = some (.cells #[.string s, .int .i64 i, .bool ins, v, .pointer (some ⟨Bo, 0, none⟩)] 144 (0, 0))) (ho : w.heap[Bo]? = some (.cells #[vo] 55 (0, 0)))
    (ht : w.ownsRow 0 5 1 v' p'.length (Lib.byteCells p')) (he : Evs w 84 vo L) : Scan (w.setCell ⟨C, 3, none⟩ v') C Bo v' vo s i ins p' L := by
  have hne : Bo ≠ C := by
    rintro rfl
    have := hb.symm.trans ho
    cases this
  have hk : Keeps (fun k => k = C) w (w.setCell ⟨C, 3, none⟩ v') := Keeps.setCell (D := fun k => k = C) (Keeps.refl _ w) (p := ⟨C, 3, none⟩) (fun _ => rfl) _
  refine ⟨?_, hk.heap_some ho hne, own_kept ht hk ?_, he.kept hk ?_⟩
  · simp [World.setCell, Array.getElem?_modify, hb]
  · rintro k hk1 rfl; exact own_ne ht hb (by decide) hk1
  · rintro k hk1 rfl; exact own_ne he hb (by decide) hk1
/-- Another slice of events is stored. -/
theorem Scan.more {w : World} {C Bo : Nat} {v vo vo' : Value} {s : ByteArray} {i : Nat} {ins : Bool} {p : List UInt8} {L' : List Ev}
    (hb : w.heap[C]? = some (.cells #[.string s, .int .i64 i, .bool ins, v, .pointer (some ⟨Bo, 0, none⟩)] 144 (0, 0))) (ho : w.heap[Bo]? = some (.cells #[vo] 55 (0, 0)))
    (ht : w.ownsRow 0 5 1 v p.length (Lib.byteCells p)) (he : Evs w 84 vo' L') : Scan (w.setCell ⟨Bo, 0, none⟩ vo') C Bo v vo' s i ins p L' := by
  have hne : C ≠ Bo := by
    rintro rfl
    have := hb.symm.trans ho
    cases this
  have hk : Keeps (fun k => k = Bo) w (w.setCell ⟨Bo, 0, none⟩ vo') := Keeps.setCell (D := fun k => k = Bo) (Keeps.refl _ w) (p := ⟨Bo, 0, none⟩) (fun _ => rfl) _
  refine ⟨hk.heap_some hb hne, ?_, own_kept ht hk ?_, he.kept hk ?_⟩
  · simp [World.setCell, Array.getElem?_modify, ho]
  · rintro k hk1 rfl; exact own_ne ht ho (by decide) hk1
  · rintro k hk1 rfl; exact own_ne he ho (by decide) hk1
end Go.Proofs.YtbioecifiogffaaDoor
