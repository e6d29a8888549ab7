/- Texts of this proof, joined: EvRow, InlRef1, Scan, InlLib, BlkLib, InlRef2, InlRef3, InlProg1, InlProg2, LnRow, InlRef4, InlRef5, Wait, AppZ, Idx, Idx2, Events, SameEv, InlRef6. Conditions: as each theorem names them. -/
import Derived.Test.YtbioecifiogffabGreatDoorR1
import Derived.Test.YtbioecifiogffabGreatDoorR2
import Derived.Laws.OwnMore
import Derived.Maps.AppendAt
import Derived.Lib.SmallJoins
import Derived.Deep.DeepCutAuto
import Derived.Deep.RegionLaw
import Derived.Lib.ReplaceLaws
import Derived.Lib.IndexBytes
import Derived.Lib.IndexAny
import Derived.Lib.Split
import Derived.Lib.AppendStr
import Derived.IntWalk
import Derived.LoopN
import Derived.WalkMore
import Derived.Outline
import Derived.BigQuiet
import Derived.Deep.QuietTactic
import Derived.Deep.Draws
import Derived.Deep.LoopGhost
import Derived.Laws.RangeString
import Derived.Laws.Strings3
import Derived.Lib.DecodeN
import Derived.Laws.RangeAny
set_option linter.unusedVariables false
set_option linter.unusedSimpArgs false
set_option maxHeartbeats 8000000
set_option maxRecDepth 1000000
namespace Go.Proofs.YtbioecifiogffabGreatDoor
open Go.RowKit
def Evs (w : World) (e : TypeId) (v : Value) (L : List Ev) : Prop := w.ownsRow 0 e 4 v L.length (evCells L)
def Grow (w : World) (v v' : Value) : Prop := ∀ k, v'.ownBlock = some k → v.ownBlock = some k ∨ w.heap.size ≤ k
theorem Grow.refl (w : World) (v : Value) : Grow w v v := fun _ h => .inl h
theorem own_kept {D : Nat → Prop} {w w' : World} {v : Value} {e : TypeId} {size n : Nat} {xs : List Value} (h : w.ownsRow 0 e size v n xs) (hk : Keeps D w w') (hn : ∀ k, v.ownBlock = some k → ¬ D k) : w'.ownsRow 0 e size v n xs := by
 refine ⟨h.1, ?_⟩
 rcases h.2 with hh | ⟨g, cap, cur, rfl, hb, hg, rest⟩
 ·exact .inl hh
 ·exact .inr ⟨g, cap, cur, rfl, hb, hk.heap_some hg (hn g rfl), rest⟩
theorem own_lt {w : World} {v : Value} {e : TypeId} {size n : Nat} {xs : List Value} (h : w.ownsRow 0 e size v n xs) {k : Nat} (hk : v.ownBlock = some k) : k < w.heap.size := (h.lt k hk).2
theorem own_ne {w : World} {v : Value} {e t : TypeId} {size n b : Nat} {xs : List Value} {cs : Array Value} {fr : Nat × Nat} (h : w.ownsRow 0 e size v n xs) (hb : w.heap[b]? = some (.cells cs t fr)) (hne : t ≠ e) : v.ownBlock ≠ some b := by
 intro e0
 rcases h.2 with ⟨rfl, _⟩ | ⟨g, cap, cur, rfl, _, hg, _⟩
 ·cases e0
 ·have : g = b := by simpa [Value.ownBlock] using e0
  subst this
  rw [hb] at hg
  cases hg
  exact hne rfl
theorem own_ne2 {w : World} {v u : Value} {e t : TypeId} {size size' n n' b : Nat} {xs ys : List Value} (h : w.ownsRow 0 e size v n xs) (h' : w.ownsRow 0 t size' u n' ys) (hne : t ≠ e) (hu : u.ownBlock = some b) : v.ownBlock ≠ some b := by
 rcases h'.2 with ⟨rfl, _⟩ | ⟨g, cap, cur, rfl, _, hg, _⟩
 ·cases hu
 ·have : g = b := by simpa [Value.ownBlock] using hu
  subst this
  exact own_ne h hg hne
theorem own_form {w : World} {v : Value} {e : TypeId} {size n : Nat} {xs : List Value} (h : w.ownsRow 0 e size v n xs) : ∃ p c, v = .slice p n c ∧ n ≤ c ∧ (p = none → n = 0 ∧ c = 0) ∧ ∀ a, p = some a → ∃ g, a = ⟨g, 0, none⟩ ∧ g < w.heap.size := by
 rcases h.2 with ⟨rfl, rfl⟩ | ⟨g, cap, cur, rfl, hb, hg, hc, _⟩
 ·exact ⟨_, _, rfl, Nat.le_refl _, fun _ => ⟨rfl, rfl⟩, fun a h => by cases h⟩
 ·exact ⟨_, _, rfl, hc, (fun h => by cases h), fun a h => by cases h; exact ⟨g, rfl, (Array.getElem?_eq_some_iff.1 hg).1⟩⟩
theorem own_cells {w : World} {v : Value} {e : TypeId} {size n : Nat} {xs : List Value} (h : w.ownsRow 0 e size v n xs) {p : Option Addr} {m c : Nat} (hv : v = .slice p m c) : ∀ ad, p = some ad → ∀ j u, xs[j]? = some u → w.cell? (ad.add j) = some u := by
 intro ad had j u hu
 subst hv
 subst had
 obtain ⟨p', c', he, _, _, hg⟩ := own_form h
 cases he
 obtain ⟨g, rfl, _⟩ := hg ad rfl
 exact World.ownsRow.cells h (g := g) rfl j u hu
theorem RowIs.own {w : World} {v : Value} {e : TypeId} {size n : Nat} {xs : List Value} (h : w.ownsRow 0 e size v n xs) : RowIs w v ((v.ownBlock).getD w.heap.size) e size n xs :=
 ⟨h, fun k hk => by rw [hk]; rfl⟩
theorem Grow.ofRow {w w' : World} {v v' : Value} {g' : Nat} {e : TypeId} {size n : Nat} {xs : List Value} (h : RowIs w' v' g' e size n xs) (hg : g' = (v.ownBlock).getD w.heap.size ∨ g' = w.heap.size) : Grow w v v' := by
 intro k hk
 obtain rfl := h.2 k hk
 rcases hg with hg | hg
 ·cases hv : v.ownBlock with
  | none => rw [hv] at hg; exact .inr (by rw [hg]; exact Nat.le_refl _)
  | some k => rw [hv] at hg; exact .inl (by rw [hg]; rfl)
 ·exact .inr (by rw [hg]; exact Nat.le_refl _)
theorem wpList_append_mine {P : Program} (w : World) {ops : Array Oper} {rest : List Oper} {o : Oper} {a : Act} {Q : Exit → Act → World → Prop}
 (hg : o.guard = none) (s x : Operand) (t : TypeId) (hop : o.op = Op.call { callee := Callee.builtin Builtin.append, args := #[s, x], argTypes := #[t, t] })
 (e : TypeId) (z : Value) (size bytes : Nat) (ht : P.underlying t = some (.slice e)) (hi : (P.info? e).map (fun i => (i.zero, i.size, i.bytes)) = some (some z, size, bytes)) (hzs : z.cells.size = size) (hsz : 0 < size)
 (v : Value) (n : Nat) (xs : List Value) (hs : a.eval s = v) (hrow : w.ownsRow 0 e size v n xs)
 (ao : Option Addr) (m c : Nat) (news : List Value) (hx : a.eval x = .slice ao m c) (hl : news.length = m * size) (hnone : ao = none → m = 0 ∧ c = 0) (hnews : ∀ ad, ao = some ad → ∀ j u, news[j]? = some u → w.cell? (ad.add j) = some u) (h1 : ∀ u ∈ news, u.oneCell' = true)
 (h63 : n + m ≤ maxLen) (hbytes : (n + m) * bytes ≤ 140737488355328)
 (hK : ∀ p c' w', w'.ownsRow 0 e size (.slice p (n + m) c') (n + m) (xs ++ news) → Grow w v (.slice p (n + m) c') → Keeps (fun k => v.ownBlock = some k) w w' → wpList P ops Q rest (a.put o.dst (.slice p (n + m) c')) w') :
 wpList P ops Q (o :: rest) a w := by
 obtain ⟨i, hi', hz, h2, h3⟩ := info_parts hi
 refine wpList_append_row w hg s x t hop e i z size bytes ht hi' hz h2 h3 hzs hsz v _ n xs hs (RowIs.own hrow) ao m c news hx hl hnone hnews h1 h63 hbytes ?_
 intro p c' g' w' hr hg' hk
 exact hK p c' w' hr.1 (Grow.ofRow hr hg') hk
theorem step_append_mine {P : Program} (w : World) {ops : Array Oper} {o : Oper} {a : Act} {K : Act → World → Prop} {Q : Exit → Act → World → Prop} {E : Prop}
 (hg : o.guard = none) (s x : Operand) (t : TypeId) (hop : o.op = Op.call { callee := Callee.builtin Builtin.append, args := #[s, x], argTypes := #[t, t] })
 (e : TypeId) (z : Value) (size bytes : Nat) (ht : P.underlying t = some (.slice e)) (hi : (P.info? e).map (fun i => (i.zero, i.size, i.bytes)) = some (some z, size, bytes)) (hzs : z.cells.size = size) (hsz : 0 < size)
 (v : Value) (n : Nat) (xs : List Value) (hs : a.eval s = v) (hrow : w.ownsRow 0 e size v n xs)
 (ao : Option Addr) (m c : Nat) (news : List Value) (hx : a.eval x = .slice ao m c) (hl : news.length = m * size) (hnone : ao = none → m = 0 ∧ c = 0) (hnews : ∀ ad, ao = some ad → ∀ j u, news[j]? = some u → w.cell? (ad.add j) = some u) (h1 : ∀ u ∈ news, u.oneCell' = true)
 (h63 : n + m ≤ maxLen) (hbytes : (n + m) * bytes ≤ 140737488355328)
 (hK : ∀ p c' w', w'.ownsRow 0 e size (.slice p (n + m) c') (n + m) (xs ++ news) → Grow w v (.slice p (n + m) c') → Keeps (fun k => v.ownBlock = some k) w w' → K (a.put o.dst (.slice p (n + m) c')) w') :
 if Region.wanted o (yielded ops a.tmps) = true then Oper.wp P o a w K Q else E := by
 obtain ⟨i, hi', hz, h2, h3⟩ := info_parts hi
 refine step_append_row w hg s x t hop e i z size bytes ht hi' hz h2 h3 hzs hsz v _ n xs hs (RowIs.own hrow) ao m c news hx hl hnone hnews h1 h63 hbytes ?_
 intro p c' g' w' hr hg' hk
 exact hK p c' w' hr.1 (Grow.ofRow hr hg') hk
theorem Evs.nil (w : World) (e : TypeId) : Evs w e (.slice none 0 0) [] := World.ownsRow_nil _ _ _ _
theorem ev_new (w : World) (e : Ev) (t : TypeId) : ∀ ad, some (⟨w.heap.size, 0, none⟩ : Addr) = some ad → ∀ j u, e.cells[j]? = some u → (w.alloc (.cells #[.int .i64 e.kind, .bool e.fin, .int .i64 e.level, .string ⟨e.text.toArray⟩] t)).cell? (ad.add j) = some u := by
 intro ad had j u hj
 cases had
 unfold Ev.cells at hj
 match j, hj with
 | 0, hj => simp at hj; subst hj; simp [Addr.add]
 | 1, hj => simp at hj; subst hj; simp [Addr.add]
 | 2, hj => simp at hj; subst hj; simp [Addr.add]
 | 3, hj => simp at hj; subst hj; simp [Addr.add]
theorem ev_one (e : Ev) : ∀ u ∈ e.cells, u.oneCell' = true := by
 intro u hu
 simp [Ev.cells] at hu
 rcases hu with rfl | rfl | rfl | rfl <;> rfl
theorem Evs.snoc {w : World} {t : TypeId} {p : Option Addr} {c : Nat} {L : List Ev} {e : Ev} (h : w.ownsRow 0 t 4 (.slice p (L.length + 1) c) (L.length + 1) (evCells L ++ e.cells)) : Evs w t (.slice p (L.length + 1) c) (L ++ [e]) := by
 unfold Evs
 rw [evCells_append, evCells_one, List.length_append]
 exact h
theorem Evs.kept {D : Nat → Prop} {w w' : World} {v : Value} {e : TypeId} {L : List Ev} (h : Evs w e v L) (hk : Keeps D w w') (hn : ∀ k, v.ownBlock = some k → ¬ D k) : Evs w' e v L := own_kept h hk hn
theorem Evs.fresh {w w' : World} {v : Value} {e : TypeId} {L : List Ev} (h : Evs w e v L) (hk : Fresh w w') : Evs w' e v L := own_kept h hk (fun _ _ h => h)
theorem Evs.at {w : World} {e : TypeId} {L : List Ev} {p : Option Addr} {m c : Nat} (h : Evs w e (.slice p m c) L) {j : Nat} {x : Ev} (hj : L[j]? = some x) :
 ∃ g, p = some ⟨g, 0, none⟩ ∧ m = L.length ∧ g < w.heap.size ∧ w.cell? ⟨g, j * 4, none⟩ = some (.int .i64 x.kind) ∧ w.cell? ⟨g, j * 4 + 1, none⟩ = some (.bool x.fin) ∧ w.cell? ⟨g, j * 4 + 2, none⟩ = some (.int .i64 x.level) ∧ w.cell? ⟨g, j * 4 + 3, none⟩ = some (.string ⟨x.text.toArray⟩) := by
 obtain ⟨p', c', he, hc, hn, hg⟩ := own_form h
 cases he
 have hlt : j < L.length := (List.getElem?_eq_some_iff.1 hj).1
 cases p with
 | none => have := (hn rfl).1; omega
 | some ad =>
  obtain ⟨g, rfl, hgl⟩ := hg ad rfl
  obtain ⟨h0, h1, h2, h3⟩ := evCells_get L j x hj
  have hh := fun k u hu => World.ownsRow.cells (v := .slice (some ⟨g, 0, none⟩) L.length c) h (g := g) rfl k u hu
  have ad0 : ∀ k, (⟨g, 0, none⟩ : Addr).add k = ⟨g, k, none⟩ := fun k => by rw [Addr.add_lit, Nat.zero_add]
  simp only [ad0] at hh
  exact ⟨g, rfl, rfl, hgl, hh _ _ h0, hh _ _ h1, hh _ _ h2, hh _ _ h3⟩
end Go.Proofs.YtbioecifiogffabGreatDoor
namespace Go.Proofs.YtbioecifiogffabGreatDoor
open Go.RowKit
theorem drop_lt {s : ByteArray} {i : Nat} (hi : i < s.size) : s.data.toList.drop i = s[i]'hi :: s.data.toList.drop (i + 1) := by
 have hl : i < s.data.toList.length := by simpa using hi
 rw [List.drop_eq_getElem_cons hl]
 simp [ByteArray.getElem_eq_getElem_data]
theorem drop_ge {s : ByteArray} {i : Nat} (hi : s.size ≤ i) : s.data.toList.drop i = [] := List.drop_eq_nil_of_le (by simpa using hi)
theorem u8_beq (a b : UInt8) : (((a.toNat : Int)) == (b.toNat : Int)) = decide (a = b) := by
 rw [Bool.eq_iff_iff, beq_iff_eq, decide_eq_true_iff]
 constructor
 ·intro h; exact UInt8.toNat_inj.1 (by omega)
 ·rintro rfl; rfl
def plc (i : Nat) : Option Nat → Int
 | some k => (i + k : Nat)
 | none => -1
end Go.Proofs.YtbioecifiogffabGreatDoor
namespace Go.Proofs.YtbioecifiogffabGreatDoor
open Go.RowKit
theorem Tryz.infoAE : (Tryz.prog.info? 69).map (fun i => (i.zero, i.size, i.bytes)) = some (some (.agg #[.int .i64 0, .bool false, .int .i64 0, .string ⟨#[]⟩]), 4, 40) := by kernel_rfl
structure Scan (w : World) (C Bo : Nat) (v vo : Value) (s : ByteArray) (i : Nat) (ins : Bool) (p : List UInt8) (L : List Ev) : Prop where
 blk : w.heap[C]? = some (.cells #[.string s, .int .i64 i, .bool ins, v, .pointer (some ⟨Bo, 0, none⟩)] 187 (0, 0))
 out : w.heap[Bo]? = some (.cells #[vo] 95 (0, 0))
 txt : w.ownsRow 0 5 1 v p.length (Lib.byteCells p)
 evs : Evs w 69 vo L
def ScanD (C Bo : Nat) (v vo : Value) (k : Nat) : Prop := k = C ∨ k = Bo ∨ v.ownBlock = some k ∨ vo.ownBlock = some k
def Mv (o o' : Nat → Prop) (w w' : World) : Prop := Keeps o w w' ∧ ∀ k, o' k → o k ∨ w.heap.size ≤ k
theorem Mv.refl (o : Nat → Prop) (w : World) : Mv o o w w := ⟨Keeps.refl _ _, fun _ h => .inl h⟩
theorem Mv.trans {o o' o'' : Nat → Prop} {a b c : World} (h : Mv o o' a b) (h' : Mv o' o'' b c) : Mv o o'' a c :=
 ⟨h.1.trans h'.1 (fun j hj ho => (h.2 j ho).resolve_right (by omega)), fun k hk => by
   rcases h'.2 k hk with h1 | h1
   ·exact h.2 k h1
   ·exact .inr (Nat.le_trans h.1.size h1)⟩
theorem Mv.fresh {o : Nat → Prop} {a b : World} (h : Fresh a b) : Mv o o a b := ⟨h.mono (fun _ _ h => h.elim), fun _ h => .inl h⟩
theorem Mv.of {o o' D : Nat → Prop} {a b : World} (h : Keeps D a b) (hD : ∀ k, D k → o k) (ho : ∀ k, o' k → o k ∨ a.heap.size ≤ k) : Mv o o' a b := ⟨h.mono (fun k _ hk => hD k hk), ho⟩
def Gl (w : World) : Prop := (∃ m, w.cell? ⟨4, 0, none⟩ = some (.int .i64 m)) ∧ 10 ≤ w.heap.size
def Hi (o : Nat → Prop) : Prop := ∀ k, o k → 10 ≤ k
theorem Gl.fresh {w w' : World} (h : Gl w) (hk : Fresh w w') : Gl w' := by
 obtain ⟨⟨m, hm⟩, hs⟩ := h
 exact ⟨⟨m, hk.cell_some hm (fun h => h)⟩, Nat.le_trans hs hk.size⟩
theorem Gl.mv {o o' : Nat → Prop} {w w' : World} (h : Gl w) (hm : Mv o o' w w') (ho : Hi o) : Gl w' ∧ Hi o' := by
 obtain ⟨⟨m, hc⟩, hs⟩ := h
 refine ⟨⟨⟨m, hm.1.cell_some hc (fun h => ?_)⟩, Nat.le_trans hs hm.1.size⟩, fun k hk => ?_⟩
 ·have h1 := ho _ h
  have h2 : 4 < 10 := by decide
  simp only at h1
  omega
 ·rcases hm.2 k hk with h1 | h1
  ·exact ho k h1
  ·omega
theorem Scan.neCB {w : World} {C Bo : Nat} {v vo : Value} {s : ByteArray} {i : Nat} {ins : Bool} {p : List UInt8} {L : List Ev} (h : Scan w C Bo v vo s i ins p L) : C ≠ Bo := by
 rintro rfl
 have := h.blk.symm.trans h.out
 cases this
theorem Scan.cells {w : World} {C Bo : Nat} {v vo : Value} {s : ByteArray} {i : Nat} {ins : Bool} {p : List UInt8} {L : List Ev} (h : Scan w C Bo v vo s i ins p L) :
 w.cell? ⟨C, 0, none⟩ = some (.string s) ∧ w.cell? ⟨C, 1, none⟩ = some (.int .i64 i) ∧ w.cell? ⟨C, 2, none⟩ = some (.bool ins) ∧ w.cell? ⟨C, 3, none⟩ = some v ∧ w.cell? ⟨C, 4, none⟩ = some (.pointer (some ⟨Bo, 0, none⟩)) ∧ w.cell? ⟨Bo, 0, none⟩ = some vo ∧
 (∀ j, w.frozen? ⟨C, j, none⟩ = false) ∧ (∀ j, w.frozen? ⟨Bo, j, none⟩ = false) :=
 ⟨by rw [Lib.cell_of_heap h.blk]; rfl, by rw [Lib.cell_of_heap h.blk]; rfl, by rw [Lib.cell_of_heap h.blk]; rfl, by rw [Lib.cell_of_heap h.blk]; rfl, by rw [Lib.cell_of_heap h.blk]; rfl, by rw [Lib.cell_of_heap h.out]; rfl,
   fun j => Lib.frozen_of_heap h.blk j, fun j => Lib.frozen_of_heap h.out j⟩
theorem Scan.fresh {w w' : World} {C Bo : Nat} {v vo : Value} {s : ByteArray} {i : Nat} {ins : Bool} {p : List UInt8} {L : List Ev} (h : Scan w C Bo v vo s i ins p L) (hk : Fresh w w') : Scan w' C Bo v vo s i ins p L :=
 ⟨hk.heap_some h.blk (fun h => h), hk.heap_some h.out (fun h => h), own_kept h.txt hk (fun _ _ h => h), h.evs.fresh hk⟩
theorem Scan.drew {w : World} {C Bo : Nat} {v vo : Value} {s : ByteArray} {i : Nat} {ins : Bool} {p : List UInt8} {L : List Ev} (h : Scan w C Bo v vo s i ins p L) : Scan w.drew C Bo v vo s i ins p L :=
 ⟨h.blk, h.out, h.txt, h.evs⟩
theorem Scan.at {w : World} {C Bo : Nat} {v vo : Value} {s : ByteArray} {i : Nat} {ins : Bool} {p : List UInt8} {L : List Ev} (h : Scan w C Bo v vo s i ins p L) (j : Nat) : Scan (w.setCell ⟨C, 1, none⟩ (.int .i64 j)) C Bo v vo s j ins p L := by
 have hk : Keeps (fun k => k = C) w (w.setCell ⟨C, 1, none⟩ (.int .i64 j)) := Keeps.setCell (D := fun k => k = C) (Keeps.refl _ w) (p := ⟨C, 1, none⟩) (fun _ => rfl) _
 refine ⟨?_, hk.heap_some h.out (fun e => h.neCB e.symm), own_kept h.txt hk ?_, h.evs.kept hk ?_⟩
 ·simp [World.setCell, Array.getElem?_modify, h.blk]
 ·rintro k hk1 rfl; exact own_ne h.txt h.blk (by decide) hk1
 ·rintro k hk1 rfl; exact own_ne h.evs h.blk (by decide) hk1
theorem Scan.text {w : World} {C Bo : Nat} {v v' vo : Value} {s : ByteArray} {i : Nat} {ins : Bool} {p' : List UInt8} {L : List Ev}
 (hb : w.heap[C]? = some (.cells #[.string s, .int .i64 i, .bool ins, v, .pointer (some ⟨Bo, 0, none⟩)] 187 (0, 0))) (ho : w.heap[Bo]? = some (.cells #[vo] 95 (0, 0)))
 (ht : w.ownsRow 0 5 1 v' p'.length (Lib.byteCells p')) (he : Evs w 69 vo L) : Scan (w.setCell ⟨C, 3, none⟩ v') C Bo v' vo s i ins p' L := by
 have hne : Bo ≠ C := by
  rintro rfl
  have := hb.symm.trans ho
  cases this
 have hk : Keeps (fun k => k = C) w (w.setCell ⟨C, 3, none⟩ v') := Keeps.setCell (D := fun k => k = C) (Keeps.refl _ w) (p := ⟨C, 3, none⟩) (fun _ => rfl) _
 refine ⟨?_, hk.heap_some ho hne, own_kept ht hk ?_, he.kept hk ?_⟩
 ·simp [World.setCell, Array.getElem?_modify, hb]
 ·rintro k hk1 rfl; exact own_ne ht hb (by decide) hk1
 ·rintro k hk1 rfl; exact own_ne he hb (by decide) hk1
theorem Scan.more {w : World} {C Bo : Nat} {v vo vo' : Value} {s : ByteArray} {i : Nat} {ins : Bool} {p : List UInt8} {L' : List Ev}
 (hb : w.heap[C]? = some (.cells #[.string s, .int .i64 i, .bool ins, v, .pointer (some ⟨Bo, 0, none⟩)] 187 (0, 0))) (ho : w.heap[Bo]? = some (.cells #[vo] 95 (0, 0)))
 (ht : w.ownsRow 0 5 1 v p.length (Lib.byteCells p)) (he : Evs w 69 vo' L') : Scan (w.setCell ⟨Bo, 0, none⟩ vo') C Bo v vo' s i ins p L' := by
 have hne : C ≠ Bo := by
  rintro rfl
  have := hb.symm.trans ho
  cases this
 have hk : Keeps (fun k => k = Bo) w (w.setCell ⟨Bo, 0, none⟩ vo') := Keeps.setCell (D := fun k => k = Bo) (Keeps.refl _ w) (p := ⟨Bo, 0, none⟩) (fun _ => rfl) _
 refine ⟨hk.heap_some hb hne, ?_, own_kept ht hk ?_, he.kept hk ?_⟩
 ·simp [World.setCell, Array.getElem?_modify, ho]
 ·rintro k hk1 rfl; exact own_ne ht ho (by decide) hk1
 ·rintro k hk1 rfl; exact own_ne he ho (by decide) hk1
end Go.Proofs.YtbioecifiogffabGreatDoor
namespace Go.Proofs.YtbioecifiogffabGreatDoor
theorem indexByte_fnd (l : List UInt8) (c : UInt8) : Lib.indexByte l c = plc 0 (fnd c l) := by
 induction l with
 | nil => rfl
 | cons b t ih =>
  unfold Lib.indexByte fnd
  by_cases h : b = c
  ·simp [h, plc]
  ·rw [if_neg (by simpa using h), if_neg h, ih]
   cases fnd c t with
   | none => rfl
   | some k => simp [plc]
theorem index_fnd (l : List UInt8) (c : UInt8) : Lib.index l [c] = plc 0 (fnd c l) := by rw [Lib.index_one, indexByte_fnd]
theorem cut_some {l : List UInt8} {c : UInt8} {k : Nat} (h : fnd c l = some k) : Lib.cut l [c] = (l.take k, l.drop (k + 1), true) := by
 unfold Lib.cut
 rw [index_fnd, h]
 simp [plc]
theorem cut_none {l : List UInt8} {c : UInt8} (h : fnd c l = none) : Lib.cut l [c] = (l, [], false) := by
 unfold Lib.cut
 rw [index_fnd, h]
 simp [plc]
theorem contains_fnd (l : List UInt8) (c : UInt8) : decide (0 ≤ Lib.indexByte l c) = (fnd c l).isSome := by
 rw [indexByte_fnd]
 cases fnd c l <;> simp [plc]
theorem hasPrefix_cons (b c : UInt8) (t : List UInt8) : Lib.hasPrefix (b :: t) [c] = decide (b = c) := by
 unfold Lib.hasPrefix
 by_cases h : b = c
 ·simp [h]
 ·have : ¬ c = b := fun e => h e.symm
  simp [List.isPrefixOf, h, this]
theorem spc_none {l : List UInt8} (h : fnd 10 l = none) : spc l = l := by
 induction l with
 | nil => rfl
 | cons b t ih =>
  simp only [fnd] at h
  split at h
  ·cases h
  ·rename_i hb
   have := ih (by simpa using h)
   unfold spc at this ⊢
   rw [List.map_cons, if_neg hb, this]
theorem spc_some {l : List UInt8} {k : Nat} (h : fnd 10 l = some k) : spc l = l.take k ++ [32] ++ spc (l.drop (k + 1)) := by
 induction l generalizing k with
 | nil => simp [fnd] at h
 | cons b t ih =>
  simp only [fnd] at h
  split at h
  ·rename_i hb
   obtain rfl : 0 = k := by simpa using h
   simp [spc, hb]
  ·rename_i hb
   simp only [Option.map_eq_some_iff] at h
   obtain ⟨m, hm, rfl⟩ := h
   have := ih hm
   have e : spc (b :: t) = b :: spc t := by simp [spc, hb]
   rw [e, this]
   simp
theorem replaceK_spc (n : Nat) : ∀ l : List UInt8, Lib.count l [10] = n → Lib.replaceK [10] [32] n l = spc l := by
 induction n with
 | zero =>
  intro l h
  cases hf : fnd 10 l with
  | none => rw [spc_none hf]; rfl
  | some k =>
   have := Lib.count_hit (s := l) (sub := [10]) (i := k) (by simp) (by rw [index_fnd, hf]; simp [plc])
   omega
 | succ n ih =>
  intro l h
  cases hf : fnd 10 l with
  | none =>
   have hi : Lib.index l [10] = -1 := by rw [index_fnd, hf]; rfl
   have : Lib.count l [10] = 0 := Lib.count_miss hi
   omega
  | some k =>
   have hi : Lib.index l [10] = (k : Nat) := by rw [index_fnd, hf]; simp [plc]
   have := Lib.count_hit (s := l) (sub := [10]) (i := k) (by simp) hi
   rw [Lib.replaceK_hit _ _ _ _ _ hi, ih _ (by simp at this ⊢; omega), spc_some hf]
   rfl
theorem replaceAll_spc (l : List UInt8) : Lib.replaceAll l [10] [32] = spc l := by
 unfold Lib.replaceAll Lib.replace
 rw [if_neg (by decide)]
 have e : Lib.replaceNum l [10] (-1) = Lib.count l [10] := by unfold Lib.replaceNum; rw [if_pos (.inl (by decide))]
 rw [e]
 exact replaceK_spc _ l rfl
def ends (c : UInt8) : Bool := decide (c = 41 ∨ c = 32 ∨ c = 9 ∨ c = 10 ∨ c = 40)
theorem indexAny_dst (l : List UInt8) : (dst l = none ∧ (Lib.indexAny l [41, 32, 9, 10, 40] = -1 ∨ ∃ k : Nat, Lib.indexAny l [41, 32, 9, 10, 40] = k ∧ k < l.length ∧ l[k]? ≠ some 41)) ∨ (∃ k : Nat, dst l = some k ∧ Lib.indexAny l [41, 32, 9, 10, 40] = k ∧ l[k]? = some 41) := by
 induction l with
 | nil => exact .inl ⟨rfl, .inl rfl⟩
 | cons b t ih =>
  unfold Lib.indexAny dst
  by_cases h1 : b = 41
  ·subst h1
   exact .inr ⟨0, by simp, by simp, by simp⟩
  ·rw [if_neg h1]
   by_cases h2 : b = 32 ∨ b = 9 ∨ b = 10 ∨ b = 40
   ·rw [if_pos h2]
    refine .inl ⟨rfl, .inr ⟨0, ?_, by simp, by simpa using h1⟩⟩
    rw [if_pos (by rcases h2 with h | h | h | h <;> simp [h])]
    rfl
   ·rw [if_neg h2, if_neg (by simp; exact ⟨h1, fun h => h2 (.inl h), fun h => h2 (.inr (.inl h)), fun h => h2 (.inr (.inr (.inl h))), fun h => h2 (.inr (.inr (.inr h)))⟩)]
    rcases ih with ⟨hd, hi | ⟨k, hi, hk, hn⟩⟩ | ⟨k, hd, hi, hk⟩
    ·exact .inl ⟨by rw [hd]; rfl, .inl (by rw [hi]; rfl)⟩
    ·refine .inl ⟨by rw [hd]; rfl, .inr ⟨k + 1, ?_, by simp; omega, by simpa using hn⟩⟩
     rw [hi, if_neg (by simp)]
     simp
    ·refine .inr ⟨k + 1, by rw [hd]; rfl, ?_, by simpa using hk⟩
     rw [hi, if_neg (by simp)]
     simp
end Go.Proofs.YtbioecifiogffabGreatDoor
namespace Go.Proofs.YtbioecifiogffabGreatDoor
def splA : Ln → List UInt8 → List Ln
 | a, [] => [a]
 | a, c :: t => if c = 10 then a :: splA [] t else splA (a ++ [c]) t
theorem splA_ne (a : Ln) (s : List UInt8) : splA a s ≠ [] := by
 induction s generalizing a with
 | nil => simp [splA]
 | cons c t ih => unfold splA; split <;> simp [ih]
def offE (l : List Ln) : List Ln := if l.getLast? = some [] then l.dropLast else l
theorem lns_spl (a : Ln) (s : List UInt8) : offE (splA a s) = lnsA a s := by
 induction s generalizing a with
 | nil => unfold offE splA lnsA; by_cases h : a = [] <;> simp [h]
 | cons c t ih =>
  unfold splA lnsA
  split
  ·have h := ih []
   have hne := splA_ne [] t
   unfold offE at h ⊢
   rw [List.getLast?_cons_of_ne_nil hne, List.dropLast_cons_of_ne_nil hne]
   rw [← h]
   split <;> rfl
  ·exact ih _
theorem splA_some {k : Nat} {s : List UInt8} (a : Ln) (h : fnd 10 s = some k) : splA a s = (a ++ s.take k) :: splA [] (s.drop (k + 1)) := by
 induction s generalizing a k with
 | nil => simp [fnd] at h
 | cons b t ih =>
  simp only [fnd] at h
  conv => lhs; unfold splA
  split at h
  ·rename_i hb
   obtain rfl : 0 = k := by simpa using h
   rw [if_pos hb]
   simp
  ·rename_i hb
   simp only [Option.map_eq_some_iff] at h
   obtain ⟨m, hm, rfl⟩ := h
   rw [if_neg hb, ih _ hm]
   simp
theorem splA_none {s : List UInt8} (a : Ln) (h : fnd 10 s = none) : splA a s = [a ++ s] := by
 induction s generalizing a with
 | nil => simp [splA]
 | cons b t ih =>
  simp only [fnd] at h
  unfold splA
  split at h
  ·cases h
  ·rename_i hb
   rw [if_neg hb, ih _ (by simpa using h)]
   simp
theorem splitK_spl (n : Nat) : ∀ s : List UInt8, Lib.count s [10] = n → Lib.splitK [10] 0 n s = splA [] s := by
 induction n with
 | zero =>
  intro s h
  cases hf : fnd 10 s with
  | none => rw [splA_none _ hf]; rfl
  | some k =>
   have := Lib.count_hit (s := s) (sub := [10]) (i := k) (by simp) (by rw [index_fnd, hf]; simp [plc])
   omega
 | succ n ih =>
  intro s h
  cases hf : fnd 10 s with
  | none =>
   have hi : Lib.index s [10] = -1 := by rw [index_fnd, hf]; rfl
   have : Lib.count s [10] = 0 := Lib.count_miss hi
   omega
  | some k =>
   have hi : Lib.index s [10] = (k : Nat) := by rw [index_fnd, hf]; simp [plc]
   have hc := Lib.count_hit (s := s) (sub := [10]) (i := k) (by simp) hi
   unfold Lib.splitK
   rw [hi, if_neg (by simp), splA_some _ hf, ih _ (by simp at hc ⊢; omega)]
   simp
end Go.Proofs.YtbioecifiogffabGreatDoor
namespace Go.Proofs.YtbioecifiogffabGreatDoor
open Go.RowKit
end Go.Proofs.YtbioecifiogffabGreatDoor
namespace Go.Proofs.YtbioecifiogffabGreatDoor
open Go.RowKit
theorem scn_go {s : ByteArray} {j n q : Nat} (hj : j < s.size) (hn : (s.data.toList.drop j).length ≤ n) (h42 : ¬ s[j]'hj = 42) (hq : skp (s[j]'hj) (s.data.toList.drop (j + 1)) = q) :
 ∃ m, (s.data.toList.drop (j + 1 + q)).length ≤ m ∧ (scn (n + 1) (s.data.toList.drop j)).map (j + ·) = (scn (m + 1) (s.data.toList.drop (j + 1 + q))).map (j + 1 + q + ·) := by
 rw [drop_lt hj] at hn ⊢
 obtain ⟨n, rfl⟩ : ∃ k, n = k + 1 := ⟨n - 1, by simp only [List.length_cons] at hn; omega⟩
 refine ⟨n, ?_, ?_⟩
 ·simp only [List.length_cons, List.length_drop] at hn ⊢
  omega
 ·simp only [scn, if_neg h42, hq, List.drop_drop, Option.map_map]
  congr 1
  funext x
  simp
  omega
theorem skp_le (b : UInt8) (t : List UInt8) : skp b t ≤ t.length := by
 unfold skp
 split
 ·split
  ·simp
  ·split <;> simp
 ·split
  ·split
   ·rename_i k hk
    exact fnd_lt hk
   ·simp
  ·simp
end Go.Proofs.YtbioecifiogffabGreatDoor
namespace Go.Proofs.YtbioecifiogffabGreatDoor
open Go.RowKit
theorem sgn_index (c : UInt8) : decide (0 ≤ Lib.indexByte [33, 34, 35, 36, 37, 38, 39, 40, 41, 42, 43, 44, 45, 46, 47, 58, 59, 60, 61, 62, 63, 64, 91, 92, 93, 94, 95, 96, 123, 124, 125, 126] c) = sgn c := by
 have h : ∀ n : Fin 256, decide (0 ≤ Lib.indexByte [33, 34, 35, 36, 37, 38, 39, 40, 41, 42, 43, 44, 45, 46, 47, 58, 59, 60, 61, 62, 63, 64, 91, 92, 93, 94, 95, 96, 123, 124, 125, 126] (UInt8.ofNat n.val)) = sgn (UInt8.ofNat n.val) := by decide +kernel
 have := h ⟨c.toNat, c.toNat_lt⟩
 simpa using this
theorem wht_index (c : UInt8) : decide (0 ≤ Lib.indexByte [32, 9, 10] c) = wht c := by
 have h : ∀ n : Fin 256, decide (0 ≤ Lib.indexByte [32, 9, 10] (UInt8.ofNat n.val)) = wht (UInt8.ofNat n.val) := by decide +kernel
 have := h ⟨c.toNat, c.toNat_lt⟩
 simpa using this
def esc : List UInt8 → Bool
 | [] => false
 | c :: _ => sgn c
theorem escaped_any (s : ByteArray) (w : World) : Calls Tryz.prog 101 #[.string s] w fun e w' => e = .returned (.bool (esc s.data.toList)) ∧ Fresh w w' := by
 by_cases h0 : 0 < s.size
 ·have hd := drop_lt h0
  rw [List.drop_zero] at hd
  obtain ⟨R, hR⟩ : ∃ R, R = esc s.data.toList := ⟨_, rfl⟩
  rw [← hR]
  have hi := fun W : World => Tryz.strings_IndexByte ⟨#[33, 34, 35, 36, 37, 38, 39, 40, 41, 42, 43, 44, 45, 46, 47, 58, 59, 60, 61, 62, 63, 64, 91, 92, 93, 94, 95, 96, 123, 124, 125, 126]⟩ ((s[0]'h0).toNat : Int) W
  have hne : s.toList.isEmpty = false := by rw [ByteArray.toList_eq, hd]; rfl
  have hr : R = sgn (s[0]'h0) := by rw [hR, hd]; rfl
  have HR := Lib.hid hr
  have HI := Lib.hid hi
  clear hd hR hi hr
  go_enter Tryz.func101, Tryz.ntmps101
  go_wp2_with (go_at_call 49; refine (HI.out _).mono ?_)
  go_ret
  exact ⟨by rw [show R = _ from HR.out, ← sgn_index]; rfl, Keeps.refl _ _⟩
 ·have hs : s.data.toList = [] := by
   have h1 : s.size = 0 := by omega
   have : s.data.toList.length = 0 := by simpa using h1
   exact List.eq_nil_of_length_eq_zero this
  have hse : s = ⟨#[]⟩ := by apply ByteArray.ext; apply Array.ext'; rw [hs]
  subst hse
  go_enter Tryz.func101, Tryz.ntmps101
  go_wp2
  go_ret
  exact ⟨rfl, Keeps.refl _ _⟩
end Go.Proofs.YtbioecifiogffabGreatDoor
namespace Go.Proofs.YtbioecifiogffabGreatDoor
open Go.RowKit
theorem white_any (c : UInt8) : ∃ J : Int, decide (0 ≤ J) = wht c ∧ ∀ W : World, Calls Tryz.prog 49 #[.string ⟨#[32, 9, 10]⟩, .int .u8 c.toNat] W fun e w' => e = .returned (.int .i64 J) ∧ w' = W := by
 refine ⟨Lib.indexByte [32, 9, 10] c, wht_index c, fun W => ?_⟩
 have h := Tryz.strings_IndexByte ⟨#[32, 9, 10]⟩ (c.toNat : Int) W
 have e1 : ((c.toNat : Int)).toNat.toUInt8 = c := by simp
 rw [e1] at h
 exact h
theorem rest_list (s : ByteArray) (i : Nat) : (s.extract i s.size).data.toList = s.data.toList.drop i := by
 rw [ByteArray.data_extract, Array.toList_extract, List.extract_eq_take_drop]
 apply List.take_of_length_le
 simp
theorem star_any (s : ByteArray) (w : World) (hs : s.size ≤ 1099511627776) :
 Calls Tryz.prog 105 #[.string s] w fun e w' => e = .returned (.int .i64 (plc 0 (str s.data.toList))) ∧ Fresh w w' := by
 obtain ⟨R, hR⟩ : ∃ R, R = plc 0 (str s.data.toList) := ⟨_, rfl⟩
 rw [← hR]
 obtain ⟨D, hD⟩ : ∃ D, D = scn (s.data.toList.length + 1) s.data.toList := ⟨_, rfl⟩
 have hend : (D = none → R = -1) ∧ (∀ j (hj : j < s.size), D = some j → (j = 0 → R = -1) ∧ (0 < j → ∀ (a b : UInt8) (h1 : 0 < s.size) (h2 : j - 1 < s.size), s[0]'h1 = a → s[j - 1]'h2 = b → R = if wht a || wht b then (-1 : Int) else (j : Int))) := by
  unfold str at hR
  rw [← hD] at hR
  cases D with
  | none => exact ⟨fun _ => hR, fun j _ h => by cases h⟩
  | some n =>
   refine ⟨fun h => (by cases h), fun j hj h => ?_⟩
   obtain rfl : n = j := by simpa using h
   refine ⟨fun h => ?_, fun h a b h1 h2 ha hb => ?_⟩
   ·subst h
    simpa [plc] using hR
   ·have hn : ¬ n = 0 := by omega
    have e1 : s.data.toList.headD 0 = a := by
     have := drop_lt h1
     rw [List.drop_zero, ha] at this
     rw [this]; rfl
    have e2 : s.data.toList.getD (n - 1) 0 = b := by
     rw [List.getD_eq_getElem?_getD]
     have h4 : n - 1 < s.data.toList.length := by simp; omega
     rw [List.getElem?_eq_getElem h4]
     rw [← hb]
     simp [ByteArray.getElem_eq_getElem_data]
    simp only [e1, e2, hn, false_or] at hR
    rw [hR]
    cases hwa : wht a <;> cases hwb : wht b <;> simp [plc]
 have hst : (scn (s.data.toList.length + 1) (s.data.toList.drop 0)).map (0 + ·) = D := by rw [hD, List.drop_zero]; simp
 have hlen : s.data.toList.length = s.size := by simp
 have HE := Lib.hid hend
 have HST := Lib.hid hst
 have HL := Lib.hid hlen
 clear hend hst hlen
 clear hR hD
 go_enter Tryz.func105, Tryz.ntmps105
 go_wp2
 go_loopw [3] (fun p wr => Fresh w wr ∧ ∃ j n : Nat, p = .int .i64 j ∧ j ≤ s.size ∧ (s.data.toList.drop j).length ≤ n ∧ (scn (n + 1) (s.data.toList.drop j)).map (j + ·) = D) (fun p _ => s.size - (intOf p).toNat)
 case atStart => exact ⟨Keeps.refl _ _, 0, s.data.toList.length, rfl, by omega, by simp, HST.out⟩
 case round =>
  obtain ⟨hFr, j, n, rfl, hj2, hn, hp⟩ := hrel
  by_cases hlt : j < s.size
  ·by_cases h42 : s[j]'hlt = 42
   ·have q : (((s[j]'hlt).toNat : Int) == 42) = true := (u8_beq (s[j]'hlt) 42).trans (decide_eq_true h42)
    have hr : D = some j := by rw [← hp, drop_lt hlt]; simp [scn, h42]
    obtain ⟨x1, x2⟩ := HE.out.2 j hlt hr
    clear hp hr hn h42 HST
    by_cases hji : j = 0
    ·have hr2 := Lib.hid (x1 hji)
     clear x1 x2
     subst hji
     go_wp2
     go_ret
     exact ⟨by rw [show R = _ from hr2.out]; rfl, hFr⟩
    ·have h1 : 0 < s.size := by omega
     have h2 : j - 1 < s.size := by omega
     obtain ⟨a, ha⟩ : ∃ a, s[0]'h1 = a := ⟨_, rfl⟩
     obtain ⟨b, hb⟩ : ∃ b, s[j - 1]'h2 = b := ⟨_, rfl⟩
     have hr2 := x2 (by omega) a b h1 h2 ha hb
     have HR2 := Lib.hid hr2
     clear x1 x2 hr2
     obtain ⟨J0, hJ0, hc0⟩ := white_any a
     obtain ⟨J1, hJ1, hc1⟩ := white_any b
     rw [← ha] at hc0
     rw [← hb] at hc1
     have HC0 := Lib.hid hc0
     have HC1 := Lib.hid hc1
     clear hc0 hc1 ha hb
     have hj3 : ((j : Int) - 1).toNat = j - 1 := by omega
     have hj0 : ((j : Int) == 0) = false := by rw [beq_eq_false_iff_ne]; omega
     cases hwa : wht a with
     | true =>
      rw [hwa] at hJ0
      have g0 : 0 ≤ J0 := of_decide_eq_true hJ0
      have HWA := Lib.hid hwa
      clear hJ0 hJ1 hwa
      go_wp2_with (go_at_call 49; refine (HC0.out _).mono ?_)
      rintro e w2 ⟨rfl, rfl⟩
      go_wp2
      go_ret
      exact ⟨by rw [show R = _ from HR2.out, HWA.out]; rfl, hFr⟩
     | false =>
      rw [hwa] at hJ0
      have g0 : J0 < 0 := by have := of_decide_eq_false hJ0; omega
      have HWA := Lib.hid hwa
      clear hwa
      cases hwb : wht b with
      | true =>
       rw [hwb] at hJ1
       have g1 : 0 ≤ J1 := of_decide_eq_true hJ1
       have HWB := Lib.hid hwb
       clear hJ1 hwb
       go_wp2_with (go_at_call 49; refine (HC0.out _).mono ?_)
       rintro e w2 ⟨rfl, rfl⟩
       go_wp2_with (go_at_call 49; refine (HC1.out _).mono ?_)
       rintro e w2 ⟨rfl, rfl⟩
       go_wp2
       go_ret
       exact ⟨by rw [show R = _ from HR2.out, HWA.out, HWB.out]; rfl, hFr⟩
      | false =>
       rw [hwb] at hJ1
       have g1 : J1 < 0 := by have := of_decide_eq_false hJ1; omega
       have HWB := Lib.hid hwb
       clear hwb
       go_wp2_with (go_at_call 49; refine (HC0.out _).mono ?_)
       rintro e w2 ⟨rfl, rfl⟩
       go_wp2_with (go_at_call 49; refine (HC1.out _).mono ?_)
       rintro e w2 ⟨rfl, rfl⟩
       go_wp2
       go_ret
       exact ⟨by rw [show R = _ from HR2.out, HWA.out, HWB.out]; rfl, hFr⟩
   ·have q : (((s[j]'hlt).toNat : Int) == 42) = false := (u8_beq (s[j]'hlt) 42).trans (decide_eq_false h42)
    have hstep := fun q hq => scn_go (q := q) hlt hn h42 hq
    rw [hp] at hstep
    have hkl := skp_le (s[j]'hlt) (s.data.toList.drop (j + 1))
    rw [List.length_drop, HL.out] at hkl
    have HSTEP := Lib.hid hstep
    have HF1 := Lib.hid hFr
    have hrest := rest_list s (j + 1)
    clear hstep hn h42 hp HE HST hFr
    by_cases c92 : s[j]'hlt = 92
    ·have q1 : (((s[j]'hlt).toNat : Int) == 92) = true := (u8_beq (s[j]'hlt) 92).trans (decide_eq_true c92)
     have hes := fun W : World => escaped_any (s.extract (j + 1) s.size) W
     have hpf := fun W : World => Tryz.strings_HasPrefix (s.extract (j + 1) s.size) ⟨#[10]⟩ W
     rw [hrest] at hes hpf
     have hsk : ∃ e1 e2 : Bool, esc (s.data.toList.drop (j + 1)) = e1 ∧ Lib.hasPrefix (s.data.toList.drop (j + 1)) (⟨#[10]⟩ : ByteArray).data.toList = e2 ∧ skp (s[j]'hlt) (s.data.toList.drop (j + 1)) = if e1 || e2 then 1 else 0 := by
      refine ⟨_, _, rfl, rfl, ?_⟩
      rw [c92]
      cases hdd : s.data.toList.drop (j + 1) with
      | nil => rfl
      | cons c r =>
       have := hasPrefix_cons c 10 r
       show _ = if sgn c || Lib.hasPrefix (c :: r) [10] then 1 else 0
       rw [this]
       simp [skp]
     obtain ⟨e1, e2, he1, he2, hskp⟩ := hsk
     rw [he1] at hes
     rw [he2] at hpf
     have HES := Lib.hid hes
     have HPF := Lib.hid hpf
     have HSK := Lib.hid hskp
     clear hes hpf he1 he2 hrest c92
     cases e1 with
     | true =>
      have hq1 := HSK.out
      obtain ⟨m, hm1, hm2⟩ := HSTEP.out 1 hq1
      have HM1 := Lib.hid hm1
      have HM2 := Lib.hid hm2
      rw [hq1] at hkl
      have hkl2 : 1 ≤ s.size - (j + 1) := hkl
      clear hm1 hm2 hq1 hkl
      go_wp2_with (go_at_call 101; refine (HES.out _).mono ?_)
      rintro e w2 ⟨rfl, hk2⟩
      have HK2 := Lib.hid hk2
      clear hk2
      go_wp2
      go_roundw
      case rel => exact ⟨HF1.out.tr HK2.out, j + 1 + 1, m, by simp, by omega, HM1.out, HM2.out.symm⟩
      case measure => simp [intOf]; omega
     | false =>
      cases e2 with
      | true =>
       have hq1 := HSK.out
       obtain ⟨m, hm1, hm2⟩ := HSTEP.out 1 hq1
       have HM1 := Lib.hid hm1
       have HM2 := Lib.hid hm2
       rw [hq1] at hkl
       have hkl2 : 1 ≤ s.size - (j + 1) := hkl
       clear hm1 hm2 hq1 hkl
       go_wp2_with (go_at_call 101; refine (HES.out _).mono ?_)
       rintro e w2 ⟨rfl, hk2⟩
       have HK2 := Lib.hid hk2
       clear hk2
       go_wp2_with (go_at_call 80; refine (HPF.out _).mono ?_)
       rintro e w3 ⟨rfl, rfl⟩
       go_wp2
       go_roundw
       case rel => exact ⟨HF1.out.tr HK2.out, j + 1 + 1, m, by simp, by omega, HM1.out, HM2.out.symm⟩
       case measure => simp [intOf]; omega
      | false =>
       have hq1 := HSK.out
       obtain ⟨m, hm1, hm2⟩ := HSTEP.out 0 hq1
       have HM1 := Lib.hid hm1
       have HM2 := Lib.hid hm2
       clear hm1 hm2 hq1 hkl
       go_wp2_with (go_at_call 101; refine (HES.out _).mono ?_)
       rintro e w2 ⟨rfl, hk2⟩
       have HK2 := Lib.hid hk2
       clear hk2
       go_wp2_with (go_at_call 80; refine (HPF.out _).mono ?_)
       rintro e w3 ⟨rfl, rfl⟩
       go_wp2
       go_roundw
       case rel => exact ⟨HF1.out.tr HK2.out, j + 1, m, by simp, by omega, HM1.out, HM2.out.symm⟩
       case measure => simp [intOf]; omega
    ·have q1 : (((s[j]'hlt).toNat : Int) == 92) = false := (u8_beq (s[j]'hlt) 92).trans (decide_eq_false c92)
     by_cases c96 : s[j]'hlt = 96
     ·have q2 : (((s[j]'hlt).toNat : Int) == 96) = true := (u8_beq (s[j]'hlt) 96).trans (decide_eq_true c96)
      have hskp : skp (s[j]'hlt) (s.data.toList.drop (j + 1)) = match fnd 96 (s.data.toList.drop (j + 1)) with | some k => k + 1 | none => 0 := by rw [c96]; rfl
      have hib : ∀ W : World, Calls Tryz.prog 49 #[.string (s.extract (j + 1) s.size), .int .u8 96] W fun e w' => e = .returned (.int .i64 (plc 0 (fnd 96 (s.data.toList.drop (j + 1))))) ∧ w' = W := fun W => by
       have h := Tryz.strings_IndexByte (s.extract (j + 1) s.size) 96 W
       rw [hrest, indexByte_fnd] at h
       exact h
      clear c96 c92 hrest
      cases hfd : fnd 96 (s.data.toList.drop (j + 1)) with
      | none =>
       rw [hfd] at hskp hib
       obtain ⟨m, hm1, hm2⟩ := HSTEP.out 0 hskp
       have HM1 := Lib.hid hm1
       have HM2 := Lib.hid hm2
       have hpl : plc 0 none = -1 := rfl
       rw [hpl] at hib
       have HIB := Lib.hid hib
       clear hm1 hm2 hskp hkl hfd hib hpl
       go_wp2_with (go_at_call 49; refine (HIB.out _).mono ?_)
       rintro e w2 ⟨rfl, rfl⟩
       go_wp2
       go_roundw
       case rel => exact ⟨HF1.out, j + 1, m, by simp, by omega, HM1.out, HM2.out.symm⟩
       case measure => simp [intOf]; omega
      | some k =>
       rw [hfd] at hskp hib
       obtain ⟨m, hm1, hm2⟩ := HSTEP.out (k + 1) hskp
       have HM1 := Lib.hid hm1
       have HM2 := Lib.hid hm2
       have hpl : plc 0 (some k) = (k : Nat) := by simp [plc]
       rw [hpl] at hib
       have HIB := Lib.hid hib
       rw [hskp] at hkl
       have hkl2 : k + 1 ≤ s.size - (j + 1) := hkl
       clear hm1 hm2 hskp hkl hfd hib hpl
       go_wp2_with (go_at_call 49; refine (HIB.out _).mono ?_)
       rintro e w2 ⟨rfl, rfl⟩
       go_wp2
       go_roundw
       case rel => exact ⟨HF1.out, j + 1 + (k + 1), m, by simp; omega, by omega, HM1.out, HM2.out.symm⟩
       case measure => simp [intOf]; omega
     ·have q2 : (((s[j]'hlt).toNat : Int) == 96) = false := (u8_beq (s[j]'hlt) 96).trans (decide_eq_false c96)
      have hskp : skp (s[j]'hlt) (s.data.toList.drop (j + 1)) = 0 := by unfold skp; rw [if_neg c92, if_neg c96]
      obtain ⟨m, hm1, hm2⟩ := HSTEP.out 0 hskp
      have HM1 := Lib.hid hm1
      have HM2 := Lib.hid hm2
      clear hm1 hm2 hskp c92 hkl c96 hrest
      go_wp2
      go_roundw
      case rel => exact ⟨HF1.out, j + 1, m, by simp, by omega, HM1.out, HM2.out.symm⟩
      case measure => simp [intOf]; omega
  ·have hr : D = none := by rw [← hp, drop_ge (by omega)]; rfl
   have hr2 := Lib.hid (HE.out.1 hr)
   clear hp hr hn HST
   go_wp2
   go_ret
   exact ⟨by rw [show R = _ from hr2.out]; rfl, hFr⟩
end Go.Proofs.YtbioecifiogffabGreatDoor
namespace Go.Proofs.YtbioecifiogffabGreatDoor
open Go.RowKit
theorem Tryz.infoStr : (Tryz.prog.info? 9).map (fun i => (i.zero, i.size, i.bytes)) = some (some (.string ⟨#[]⟩), 1, 16) := by kernel_rfl
def lnCells (l : List Ln) : List Value := l.map fun s => Value.string ⟨s.toArray⟩
theorem lnCells_append (a b : List Ln) : lnCells (a ++ b) = lnCells a ++ lnCells b := by simp [lnCells]
theorem lnCells_get (l : List Ln) (j : Nat) (s : Ln) (h : l[j]? = some s) : (lnCells l)[j]? = some (.string ⟨s.toArray⟩) := by simp [lnCells, h]
def Lns (w : World) (v : Value) (l : List Ln) : Prop := w.ownsRow 0 9 1 v l.length (lnCells l)
theorem Lns.nil (w : World) : Lns w (.slice none 0 0) [] := World.ownsRow_nil _ _ _ _
theorem Lns.fresh {w w' : World} {v : Value} {l : List Ln} (h : Lns w v l) (hk : Fresh w w') : Lns w' v l := own_kept h hk (fun _ _ h => h)
theorem Lns.kept {D : Nat → Prop} {w w' : World} {v : Value} {l : List Ln} (h : Lns w v l) (hk : Keeps D w w') (hn : ∀ k, v.ownBlock = some k → ¬ D k) : Lns w' v l := own_kept h hk hn
theorem Lns.snoc {w : World} {p : Option Addr} {c : Nat} {l : List Ln} {s : Ln} (h : w.ownsRow 0 9 1 (.slice p (l.length + 1) c) (l.length + 1) (lnCells l ++ [.string ⟨s.toArray⟩])) : Lns w (.slice p (l.length + 1) c) (l ++ [s]) := by
 unfold Lns
 rw [lnCells_append, List.length_append]
 exact h
theorem ln_new (w : World) (s : ByteArray) (t : TypeId) : ∀ ad, some (⟨w.heap.size, 0, none⟩ : Addr) = some ad → ∀ j u, [Value.string s][j]? = some u → (w.alloc (.cells #[.string s] t)).cell? (ad.add j) = some u := by
 intro ad had j u hj
 cases had
 match j, hj with
 | 0, hj => simp at hj; subst hj; simp [Addr.add]
theorem str_one (s : ByteArray) : ∀ u ∈ [Value.string s], u.oneCell' = true := fun u hu => by simp at hu; rw [hu]; rfl
def LnAt (w : World) (g : Nat) (v : Value) (l : List Ln) : Prop :=
 ∃ a cap off, v = .slice a l.length cap ∧ l.length ≤ cap ∧ cap ≤ maxLen ∧ (l ≠ [] → a = some ⟨g, off, none⟩ ∧ ∀ j s, l[j]? = some s → w.cell? ⟨g, off + j, none⟩ = some (.string ⟨s.toArray⟩))
theorem LnAt.kept {D : Nat → Prop} {w w' : World} {g : Nat} {v : Value} {l : List Ln} (h : LnAt w g v l) (hk : Keeps D w w') (hg : ¬ D g) : LnAt w' g v l := by
 obtain ⟨a, cap, off, h1, h2, h3, h4⟩ := h
 exact ⟨a, cap, off, h1, h2, h3, fun hne => ⟨(h4 hne).1, fun j s hj => hk.cell_some ((h4 hne).2 j s hj) hg⟩⟩
theorem LnAt.fresh {w w' : World} {g : Nat} {v : Value} {l : List Ln} (h : LnAt w g v l) (hk : Fresh w w') : LnAt w' g v l := h.kept hk (fun h => h)
theorem LnAt.nil (w : World) (g : Nat) : LnAt w g (.slice none 0 0) [] := ⟨none, 0, 0, rfl, Nat.le_refl _, Nat.zero_le _, fun h => absurd rfl h⟩
theorem Lns.at {w : World} {v : Value} {l : List Ln} (h : Lns w v l) : LnAt w ((v.ownBlock).getD 0) v l := by
 rcases h.2 with ⟨rfl, h0⟩ | ⟨g, cap, cur, rfl, hb, hg, hc, hm, _⟩
 ·have : l = [] := List.eq_nil_of_length_eq_zero h0
  subst this
  exact LnAt.nil _ _
 ·refine ⟨some ⟨g, 0, none⟩, cap, 0, rfl, hc, hm, fun hne => ⟨rfl, fun j s hj => ?_⟩⟩
  have := World.ownsRow.cells (v := .slice (some ⟨g, 0, none⟩) l.length cap) h (g := g) rfl j _ (lnCells_get l j s hj)
  rw [Addr.add_lit] at this
  exact this
theorem LnAt.line {w : World} {g : Nat} {v : Value} {l : List Ln} (h : LnAt w g v l) {j : Nat} {s : Ln} (hj : l[j]? = some s) :
 ∃ cap off, v = .slice (some ⟨g, off, none⟩) l.length cap ∧ l.length ≤ cap ∧ cap ≤ maxLen ∧ w.cell? ⟨g, off + j, none⟩ = some (.string ⟨s.toArray⟩) := by
 obtain ⟨a, cap, off, rfl, h2, h3, h4⟩ := h
 have hne : l ≠ [] := fun e => by rw [e] at hj; simp at hj
 obtain ⟨rfl, hc⟩ := h4 hne
 exact ⟨cap, off, rfl, h2, h3, hc j s hj⟩
theorem LnAt.form {w : World} {g : Nat} {v : Value} {l : List Ln} (h : LnAt w g v l) : ∃ a cap, v = .slice a l.length cap := by
 obtain ⟨a, cap, off, rfl, _⟩ := h
 exact ⟨a, cap, rfl⟩
theorem LnAt.cutv {w : World} {g off n cap : Nat} {l : List Ln} (h : LnAt w g (.slice (some ⟨g, off, none⟩) n cap) l) (k : Nat) (hk : k ≤ l.length) {m : Nat} (hm : m = n - k) : LnAt w g (.slice (if cap = k then some ⟨g, off, none⟩ else some ⟨g, off + k, none⟩) m (cap - k)) (l.drop k) := by
 obtain ⟨a, cap', off', he, h2, h3, h4⟩ := h
 cases he
 subst hm
 refine ⟨_, _, off + k, by rw [List.length_drop], by rw [List.length_drop]; omega, by omega, fun hne => ?_⟩
 have hlt : k < l.length := by
  rcases Nat.lt_or_ge k l.length with h' | h'
  ·exact h'
  ·exact absurd (List.drop_eq_nil_of_le h') hne
 have hne' : l ≠ [] := fun e => by rw [e] at hlt; simp at hlt
 obtain ⟨ha, hc⟩ := h4 hne'
 cases ha
 refine ⟨by rw [if_neg (by omega)], fun j s hj => ?_⟩
 rw [List.getElem?_drop] at hj
 have := hc (k + j) s hj
 rw [show off + k + j = off + (k + j) by omega]
 exact this
def slen : Value → Nat
 | .slice _ n _ => n
 | _ => 0
end Go.Proofs.YtbioecifiogffabGreatDoor
namespace Go.Proofs.YtbioecifiogffabGreatDoor
open Go.RowKit
end Go.Proofs.YtbioecifiogffabGreatDoor
namespace Go.Proofs.YtbioecifiogffabGreatDoor
open Go.RowKit
theorem ext_list (s : ByteArray) (a b : Nat) : (s.extract a b).data.toList = (s.data.toList.drop a).take (b - a) := by
 rw [ByteArray.data_extract, Array.toList_extract, List.extract_eq_take_drop]
end Go.Proofs.YtbioecifiogffabGreatDoor
namespace Go.Proofs.YtbioecifiogffabGreatDoor
open Go.RowKit
def WaitAt (w : World) (v : Value) (bs : List UInt8) : Prop :=
 (v = .slice none 0 0 ∧ bs = []) ∨ ∃ (g off cap : Nat) (cur : Array Value), v = .slice (some ⟨g, off, none⟩) bs.length cap ∧ w.heap[g]? = some (.cells cur 5 (0, 0)) ∧ bs.length ≤ cap ∧ off + cap ≤ cur.size ∧ (cur.toList.drop off).take bs.length = Lib.byteCells bs
theorem WaitAt.nil (w : World) : WaitAt w (.slice none 0 0) [] := .inl ⟨rfl, rfl⟩
theorem WaitAt.kept {D : Nat → Prop} {w w' : World} {v : Value} {bs : List UInt8} (h : WaitAt w v bs) (hk : Keeps D w w') (hn : ∀ b, v.ownBlock = some b → ¬ D b) : WaitAt w' v bs := by
 rcases h with h | ⟨g, off, cap, cur, rfl, hg, h1, h2, h3⟩
 ·exact .inl h
 ·exact .inr ⟨g, off, cap, cur, rfl, hk.heap_some hg (hn g rfl), h1, h2, h3⟩
theorem WaitAt.fresh {w w' : World} {v : Value} {bs : List UInt8} (h : WaitAt w v bs) (hk : Fresh w w') : WaitAt w' v bs := h.kept hk (fun _ _ h => h)
theorem WaitAt.lt {w : World} {v : Value} {bs : List UInt8} (h : WaitAt w v bs) {b : Nat} (hb : v.ownBlock = some b) : b < w.heap.size := by
 rcases h with ⟨rfl, _⟩ | ⟨g, off, cap, cur, rfl, hg, _⟩
 ·cases hb
 ·cases hb; exact (Array.getElem?_eq_some_iff.1 hg).1
theorem WaitAt.ne {w : World} {v : Value} {bs : List UInt8} {b : Nat} {cs : Array Value} {t : TypeId} {fr : Nat × Nat} (h : WaitAt w v bs) (hb : w.heap[b]? = some (.cells cs t fr)) (hne : t ≠ 5) : ¬ v.ownBlock = some b := by
 intro e
 rcases h with ⟨rfl, _⟩ | ⟨g, off, cap, cur, rfl, hg, _⟩
 ·cases e
 ·cases e
  rw [hb] at hg
  cases hg
  exact hne rfl
theorem WaitAt.form {w : World} {v : Value} {bs : List UInt8} (h : WaitAt w v bs) : ∃ a cap, v = .slice a bs.length cap ∧ bs.length ≤ cap := by
 rcases h with ⟨rfl, rfl⟩ | ⟨g, off, cap, cur, rfl, hg, h1, _⟩
 ·exact ⟨_, _, rfl, Nat.le_refl _⟩
 ·exact ⟨_, _, rfl, h1⟩
theorem WaitAt.cells {w : World} {a : Option Addr} {m cap : Nat} {bs : List UInt8} (h : WaitAt w (.slice a m cap) bs) : ∀ ad, a = some ad → ∀ (j : Nat) (u : Value), (Lib.byteCells bs)[j]? = some u → w.cell? (ad.add j) = some u := by
 intro ad had j u hu
 rcases h with ⟨h0, h1⟩ | ⟨g, off, cap', cur, he, hg, h1, h2, h3⟩
 ·subst h1; simp [Lib.byteCells] at hu
 ·cases he
  cases had
  rw [Addr.add_lit, Lib.cell_of_heap hg]
  rw [← h3, List.getElem?_take] at hu
  split at hu
  ·rw [List.getElem?_drop] at hu
   simpa using hu
  ·cases hu
theorem WaitAt.cut {w : World} {g off n cap : Nat} {bs : List UInt8} (h : WaitAt w (.slice (some ⟨g, off, none⟩) n cap) bs) (k : Nat) (hk : k ≤ bs.length) : WaitAt w (.slice (if cap = k then some ⟨g, off, none⟩ else some ⟨g, off + k, none⟩) (bs.length - k) (cap - k)) (bs.drop k) := by
 rcases h with ⟨h0, _⟩ | ⟨g', off', cap', cur, he, hg, h1, h2, h3⟩
 ·cases h0
 ·cases he
  by_cases hc : cap = k
  ·subst hc
   have hl : bs.length = cap := by omega
   rw [if_pos rfl]
   exact .inr ⟨g, off, cap - cap, cur, by simp, hg, by simp; omega, by omega, by simp [Lib.byteCells]; simp [hl]⟩
  ·rw [if_neg hc]
   refine .inr ⟨g, off + k, cap - k, cur, by simp, hg, by simp; omega, by omega, ?_⟩
   have h4 := congrArg (List.drop k) h3
   rw [List.drop_take, List.drop_drop] at h4
   rw [List.length_drop, h4]
   simp [Lib.byteCells]
theorem run_append_off_string {P : Program} (w : World) (t u ty e : TypeId) (i : TypeInfo) (ht : P.underlying t = some (.slice e)) (hu : P.underlying u = some .string) (hi : P.info? e = some i) (hs1 : i.size = 1)
 (g off sLen sCap : Nat) (cur : Array Value) (hg : w.heap[g]? = some (.cells cur e (0, 0))) (s : ByteArray)
 (hroom : sLen + s.size ≤ sCap) (hfit : off + sLen + s.size ≤ cur.size) :
 (Builtin.append_ #[t, u] ty #[.slice (some ⟨g, off, none⟩) sLen sCap, .string s]).run P w =
  .ok (.slice (some ⟨g, off, none⟩) (sLen + s.size) sCap) (w.setRow g (cur.toList.take (off + sLen) ++ Lib.strCells s ++ cur.toList.drop (off + sLen + s.size)).toArray) := by
 have hf := Lib.run_firstCells_string (P := P) w 1 s
 have hst := run_storeCells_at P g (off + sLen) e (Lib.strCells s) 0 cur w hg (by simpa [Lib.strCells_length] using hfit) (Lib.strCells_oneCell s)
 simp only [Nat.add_zero, Lib.strCells_length] at hst
 simp [Builtin.append_, run_underlying ht, run_underlying hu, sizeOf, typeInfo, hi, hs1, Builtin.lenOf, hroom, hf, Addr.add_lit, hst]
theorem strCells_bytes (s : ByteArray) : Lib.strCells s = Lib.byteCells s.data.toList := rfl
theorem run_append_wait {P : Program} (w : World) {t u ty : TypeId} {i : TypeInfo} (ht : P.underlying t = some (.slice 5)) (hu : P.underlying u = some .string) (hi : P.info? 5 = some i) (hz : i.zero = some (.int .u8 0)) (hs1 : i.size = 1) (hby : i.bytes = 1)
 {v : Value} {bs : List UInt8} (h : WaitAt w v bs) (s : ByteArray) (hb : bs.length + s.size ≤ 1099511627776) :
 ∃ v' w', (Builtin.append_ #[t, u] ty #[v, .string s]).run P w = .ok v' w' ∧ WaitAt w' v' (bs ++ s.data.toList) ∧ Grow w v v' ∧ Keeps (fun k => v.ownBlock = some k) w w' := by
 have hsl : s.data.toList.length = s.size := by simp
 rcases h with ⟨rfl, rfl⟩ | ⟨g, off, cap, cur, rfl, hg, h1, h2, h3⟩
 ·obtain ⟨v', w', hr, ho, hgr, -⟩ := Lib.run_append_own_string (P := P) w w.heap.size t u ty 5 i ht hu hi hz hs1 hby (.slice none 0 0) 0 [] (World.ownsRow_nil _ _ _ _) s (by unfold maxLen; omega) (by omega) (Nat.le_refl _)
  refine ⟨v', w', hr, ?_, ?_, (Keeps.refl _ w).grown hgr (fun k e _ => e.symm ▸ (by cases e))⟩
  ·rw [List.nil_append]
   rcases ho.2 with ⟨rfl, h0⟩ | ⟨g, cap, cur, rfl, -, hg, hc, -, hcs, htk⟩
   ·exact .inl ⟨rfl, List.eq_nil_of_length_eq_zero (by omega)⟩
   ·refine .inr ⟨g, 0, cap, cur, by rw [hsl, Nat.zero_add], hg, by omega, by omega, ?_⟩
    rw [List.drop_zero, hsl, ← strCells_bytes]
    simpa using htk
  ·intro k hk
   rcases ho.2 with ⟨rfl, h0⟩ | ⟨g, cap, cur, rfl, hb2, hg, -⟩
   ·cases hk
   ·cases hk; exact .inr hb2
 ·by_cases hroom : bs.length + s.size ≤ cap
  ·have hr := run_append_off_string (P := P) w t u ty 5 i ht hu hi hs1 g off bs.length cap cur hg s hroom (by omega)
   refine ⟨_, _, hr, .inr ⟨g, off, cap, _, by rw [List.length_append, hsl], setRow_heap w g cur _ _ _ hg, by rw [List.length_append, hsl]; exact hroom, ?_, ?_⟩, fun k hk => .inl hk, ⟨rfl, rfl, rfl, by simp, fun k _ hk => setRow_other w g k _ (fun e => hk (by simp [Value.ownBlock, e]))⟩⟩
   ·simp only [List.size_toArray, List.length_append, List.length_take, List.length_drop, Array.length_toList, Lib.strCells_length]
    omega
   ·rw [List.length_append, hsl, Lib.byteCells_append, ← h3, ← strCells_bytes]
    have hl1 : (cur.toList.take (off + bs.length)).length = off + bs.length := by simp; omega
    have e1 : (cur.toList.take (off + bs.length)).drop off = (cur.toList.drop off).take bs.length := by rw [List.drop_take]; congr 1; omega
    simp only [List.append_assoc]
    rw [List.drop_append_of_le_length (by omega), e1, ← List.append_assoc, List.take_append_of_le_length (by simp [Lib.strCells_length]; omega), List.take_of_length_le (by simp [Lib.strCells_length]; omega)]
  ·have holds : ∀ j u, (Lib.byteCells bs)[j]? = some u → w.cell? ((⟨g, off, none⟩ : Addr).add j) = some u := WaitAt.cells (.inr ⟨g, off, cap, cur, rfl, hg, h1, h2, h3⟩) _ rfl
   have hr := Lib.run_append_grow_string (P := P) w t u ty 5 i (.int .u8 0) ht hu hi hz ⟨g, off, none⟩ bs.length cap (Lib.byteCells bs) (by rw [hs1]; simp [Lib.byteCells]) holds s (by omega) (by omega) (by rw [hby]; exact growslice_fits (by omega) (by omega))
   have hge := grownCap_ge w (bs.length + s.size) cap 5
   refine ⟨_, _, hr, .inr ⟨w.heap.size, 0, _, _, by rw [List.length_append, hsl], heap_alloc_new w.drew _, by rw [List.length_append, hsl]; exact hge, ?_, ?_⟩, fun k hk => ?_, ⟨rfl, rfl, rfl, by simp, fun k hk _ => heap_alloc_old w.drew _ hk⟩⟩
   ·have hz1 : (Value.int IntKind.u8 0).cells.size = 1 := rfl
    simp only [Array.size_append, List.size_toArray, size_zeroCells, hz1, Lib.strCells_length]
    simp [Lib.byteCells]
    omega
   ·rw [List.drop_zero, List.length_append, hsl, Lib.byteCells_append, ← strCells_bytes]
    simp only [Array.toList_append, List.append_assoc]
    rw [← List.append_assoc, List.take_append_of_le_length (by simp [Lib.strCells_length, Lib.byteCells]), List.take_of_length_le (by simp [Lib.strCells_length, Lib.byteCells])]
   ·right
    have hk2 : w.heap.size = k := by simpa [Value.ownBlock] using hk
    omega
theorem wpList_append_wait {P : Program} (w : World) {ops : Array Oper} {rest : List Oper} {o : Oper} {a : Act} {Q : Exit → Act → World → Prop} (hgd : o.guard = none) (sl x : Operand) (t u : TypeId)
 (ho : o.op = .call { callee := .builtin .append, args := #[sl, x], argTypes := #[t, u] }) (ht : P.underlying t = some (.slice 5)) (hu : P.underlying u = some .string) (hi : (P.info? 5).map (fun i => (i.zero, i.size, i.bytes)) = some (some (.int .u8 0), 1, 1))
 {v : Value} {bs : List UInt8} (h : WaitAt w v bs) (hs : a.eval sl = v) (s : ByteArray) (hx : a.eval x = .string s) (hb : bs.length + s.size ≤ 1099511627776)
 (hK : ∀ v' w', WaitAt w' v' (bs ++ s.data.toList) → Grow w v v' → Keeps (fun k => v.ownBlock = some k) w w' → wpList P ops Q rest (a.put o.dst v') w') : wpList P ops Q (o :: rest) a w := by
 refine wpList_plain hgd fun K hK' => ?_
 obtain ⟨i, hi', hz, h2, h3⟩ := info_parts hi
 obtain ⟨v', w', hr, r1, r2, r3⟩ := run_append_wait (P := P) w (ty := o.type) ht hu hi' hz h2 h3 h s hb
 unfold Oper.wp execOp
 simp only [ho, resolve, invoke, builtin, Sem.run_bind, Sem.run_pure, Result.andThen_ok, List.map_toArray, List.map_cons, List.map_nil, hs, hx, hr]
 exact hK' _ _ (hK v' w' r1 r2 r3)
end Go.Proofs.YtbioecifiogffabGreatDoor
namespace Go.Proofs.YtbioecifiogffabGreatDoor
open Go.RowKit
section
variable {P : Program} (w : World)
theorem zeroCells_one {z : Value} (hz : z.cells = #[z]) (m : Nat) : (Builtin.zeroCells z.cells m).toList = List.replicate m z := by
 rw [hz]
 unfold Builtin.zeroCells
 apply List.ext_getElem
 ·simp
 ·intro j h1 h2
  simp [Nat.mod_one]
theorem wrap_small (m : Nat) (h : m ≤ 1073741824) : IntKind.i64.wrap (m : Int) = (m : Int) := IntWalk.i64_in _ (by omega)
theorem run_append_zeros_room (t u ty e : TypeId) (i : TypeInfo) (z : Value) (ht : P.underlying t = some (.slice e)) (hu : P.underlying u = some (.int .i64)) (hi : P.info? e = some i) (hz : i.zero = some z) (hs1 : i.size = 1) (hb : i.bytes ≤ 100)
 (hzc : z.cells = #[z]) (h1 : z.oneCell' = true) (g sLen sCap : Nat) (cur : Array Value) (hg : w.heap[g]? = some (.cells cur e (0, 0))) (m : Nat) (hm : m ≤ 1073741824)
 (hroom : sLen + m ≤ sCap) (hfit : sLen + m ≤ cur.size) :
 (Builtin.append_ #[t, u] ty #[.slice (some ⟨g, 0, none⟩) sLen sCap, .int .i64 m]).run P w =
  .ok (.slice (some ⟨g, 0, none⟩) (sLen + m) sCap) (w.setRow g (cur.toList.take sLen ++ List.replicate m z ++ cur.toList.drop (sLen + m)).toArray) := by
 have hst := run_storeCells_at P g sLen e (List.replicate m z) 0 cur w hg (by simpa using hfit) (fun u hu => by rw [(List.mem_replicate.1 hu).2]; exact h1)
 simp only [Nat.add_zero, List.length_replicate] at hst
 have hw := wrap_small m hm
 have hneg : ¬ ((m : Int) < 0) := by omega
 have hbig : ¬ (281474976710656 < (m : Int) * (i.bytes : Int)) := by
  have : m * i.bytes ≤ 1073741824 * 100 := Nat.mul_le_mul hm hb
  have h2 : (m : Int) * (i.bytes : Int) = ((m * i.bytes : Nat) : Int) := by simp
  rw [h2]
  omega
 have hzl := zeroCells_one hzc m
 by_cases h0 : m = 0
 ·subst h0
  have hw0 : IntKind.i64.wrap 0 = 0 := hw
  have hst2 : Sem.run P (storeCells ⟨g, sLen, none⟩ []) w = .ok () (w.setRow g (cur.toList.take sLen ++ cur.toList.drop sLen).toArray) := by simpa using hst
  have hroom2 : sLen ≤ sCap := hroom
  simp [Builtin.append_, run_underlying ht, run_underlying hu, sizeOf, typeInfo, hi, hs1, hroom2, asInt, asIntOf, hw0, Addr.add_lit, hst2]
 ·have hpos : 0 < m := by omega
  simp [Builtin.append_, run_underlying ht, run_underlying hu, sizeOf, typeInfo, zeroValue, hi, hz, hs1, hroom, asInt, asIntOf, hw, hneg, hbig, h0, Addr.add_lit, hzl, hst]
theorem run_append_zeros_grow (t u ty e : TypeId) (i : TypeInfo) (z : Value) (ht : P.underlying t = some (.slice e)) (hu : P.underlying u = some (.int .i64)) (hi : P.info? e = some i) (hz : i.zero = some z) (hs1 : i.size = 1) (hb : i.bytes ≤ 100)
 (hzc : z.cells = #[z]) (b : Addr) (sLen sCap : Nat) (olds : List Value) (hlo : olds.length = sLen) (holds : ∀ j v, olds[j]? = some v → w.cell? (b.add j) = some v) (m : Nat) (hm : m ≤ 1073741824)
 (hg : sCap < sLen + m) (h63 : ((sLen + m : Nat) : Int) ≤ 9223372036854775807) (hfit : Builtin.nextslicecap (sLen + m) sCap * i.bytes ≤ 281474976710656) (hc : sLen ≤ sCap) :
 (Builtin.append_ #[t, u] ty #[.slice (some b) sLen sCap, .int .i64 m]).run P w =
  .ok (.slice (some ⟨w.heap.size, 0, none⟩) (sLen + m) (grownCap w (sLen + m) sCap e))
   (w.drew.alloc (.cells (olds.toArray ++ (List.replicate m z).toArray ++ Builtin.zeroCells z.cells (grownCap w (sLen + m) sCap e - (sLen + m))) e)) := by
 have hn : ¬ (sLen + m ≤ sCap) := by omega
 have h63' : ¬ (9223372036854775807 < ((sLen : Int) + (m : Int))) := by omega
 have h48' : ¬ (281474976710656 < Builtin.nextslicecap (sLen + m) sCap * i.bytes) := by omega
 have hfo := run_firstCells_some (P := P) w.drew 1 sLen b sLen sCap olds (by simpa using hlo) (by simpa using holds)
 have hw := wrap_small m hm
 have hneg : ¬ ((m : Int) < 0) := by omega
 have hbig : ¬ (281474976710656 < (m : Int) * (i.bytes : Int)) := by
  have : m * i.bytes ≤ 1073741824 * 100 := Nat.mul_le_mul hm hb
  have h2 : (m : Int) * (i.bytes : Int) = ((m * i.bytes : Nat) : Int) := by simp
  rw [h2]
  omega
 have h0 : m ≠ 0 := by omega
 have hzl : Builtin.zeroCells z.cells m = (List.replicate m z).toArray := by
  apply Array.ext'
  rw [zeroCells_one hzc m]
 simp [Builtin.append_, run_underlying ht, run_underlying hu, sizeOf, typeInfo, zeroValue, hi, hz, hs1, asInt, asIntOf, hw, hneg, hbig, h0, hn, h63', h48', Question.forced, hfo, hzl, newRow, grownCap]
 try (congr 2; apply Array.ext'; simp [List.append_assoc])
theorem run_append_zeros {t u ty e : TypeId} {z : Value} {bytes : Nat} (ht : P.underlying t = some (.slice e)) (hu : P.underlying u = some (.int .i64)) (hi : (P.info? e).map (fun i => (i.zero, i.size, i.bytes)) = some (some z, 1, bytes)) (hb : bytes ≤ 100)
 (hzc : z.cells = #[z]) (h1 : z.oneCell' = true) {g n cap : Nat} {xs : List Value} (hrow : w.ownsRow 0 e 1 (.slice (some ⟨g, 0, none⟩) n cap) n xs) (m : Nat) (hm : n + m ≤ 1073741824) :
 ∃ p c' w', (Builtin.append_ #[t, u] ty #[.slice (some ⟨g, 0, none⟩) n cap, .int .i64 m]).run P w = .ok (.slice p (n + m) c') w' ∧ w'.ownsRow 0 e 1 (.slice p (n + m) c') (n + m) (xs ++ List.replicate m z) ∧ Grow w (.slice (some ⟨g, 0, none⟩) n cap) (.slice p (n + m) c') ∧ Keeps (fun k => k = g) w w' := by
 obtain ⟨i, hi', hz, h2, h3⟩ := info_parts hi
 have hxl : xs.length = n := by simpa using hrow.1
 have hlen : (xs ++ List.replicate m z).length = (n + m) * 1 := by rw [List.length_append, hxl, List.length_replicate, Nat.mul_one]
 rcases hrow.2 with ⟨h0, _⟩ | ⟨g', cap', cur, he, hbg, hg, hnc, hcm, hcs, htake⟩
 ·cases h0
 ·cases he
  by_cases hroom : n + m ≤ cap
  ·have hcs' : cur.size = cap := by simpa using hcs
   have hr := run_append_zeros_room (P := P) w t u ty e i z ht hu hi' hz h2 (by omega) hzc h1 g n cap cur hg m (by omega) hroom (by omega)
   refine ⟨_, _, _, hr, ⟨hlen, .inr ⟨g, cap, _, rfl, hbg, setRow_heap w g cur _ e _ hg, hroom, hcm, ?_, ?_⟩⟩, fun k hk => .inl hk, ⟨rfl, rfl, rfl, by simp, fun k _ hk => setRow_other w g k _ hk⟩⟩
   ·simp only [List.size_toArray, List.length_append, List.length_take, List.length_drop, Array.length_toList, List.length_replicate]
    omega
   ·have ht' : cur.toList.take n = xs := by simpa using htake
    rw [ht', ← hlen]
    exact List.take_left
  ·have holds : ∀ j u, xs[j]? = some u → w.cell? ((⟨g, 0, none⟩ : Addr).add j) = some u := World.ownsRow.cells (v := .slice (some ⟨g, 0, none⟩) n cap) hrow (g := g) rfl
   have hmul : (n + m) * i.bytes ≤ 1073741824 * 100 := Nat.mul_le_mul hm (by omega)
   have hr := run_append_zeros_grow (P := P) w t u ty e i z ht hu hi' hz h2 (by omega) hzc ⟨g, 0, none⟩ n cap xs hxl holds m (by omega) (by omega) (by omega) (growslice_fits (by omega) (by omega)) hnc
   have hge := grownCap_ge w (n + m) cap e
   have hgm : grownCap w (n + m) cap e ≤ maxLen := grownCap_le_maxLen w (n + m) cap e (by unfold maxLen; omega)
   refine ⟨_, _, _, hr, ⟨hlen, .inr ⟨w.heap.size, _, _, rfl, Nat.zero_le _, heap_alloc_new w.drew _, hge, hgm, ?_, ?_⟩⟩, fun k hk => ?_, ⟨rfl, rfl, rfl, by simp, fun k hk _ => heap_alloc_old w.drew _ hk⟩⟩
   ·simp only [Array.size_append, List.size_toArray, size_zeroCells, hzc, hxl, List.length_replicate]
    simp
    omega
   ·simp only [Array.toList_append, List.append_assoc]
    rw [← List.append_assoc, ← hlen]
    exact List.take_left
   ·right
    simp [Value.ownBlock] at hk
    omega
theorem wpList_append_zeros {ops : Array Oper} {rest : List Oper} {o : Oper} {a : Act} {Q : Exit → Act → World → Prop} (hgd : o.guard = none) (sl x : Operand) (t u : TypeId)
 (ho : o.op = .call { callee := .builtin .append, args := #[sl, x], argTypes := #[t, u] }) {e : TypeId} {z : Value} {bytes : Nat} (ht : P.underlying t = some (.slice e)) (hu : P.underlying u = some (.int .i64)) (hi : (P.info? e).map (fun i => (i.zero, i.size, i.bytes)) = some (some z, 1, bytes)) (hb : bytes ≤ 100)
 (hzc : z.cells = #[z]) (h1 : z.oneCell' = true) {g n cap : Nat} {xs : List Value} (hs : a.eval sl = .slice (some ⟨g, 0, none⟩) n cap) (hrow : w.ownsRow 0 e 1 (.slice (some ⟨g, 0, none⟩) n cap) n xs) (m : Nat) (hx : a.eval x = .int .i64 m) (hm : n + m ≤ 1073741824)
 (h : ∀ p c' w', w'.ownsRow 0 e 1 (.slice p (n + m) c') (n + m) (xs ++ List.replicate m z) → Grow w (.slice (some ⟨g, 0, none⟩) n cap) (.slice p (n + m) c') → Keeps (fun k => k = g) w w' → wpList P ops Q rest (a.put o.dst (.slice p (n + m) c')) w') : wpList P ops Q (o :: rest) a w := by
 refine wpList_plain hgd fun K hK => ?_
 obtain ⟨p, c', w', hr, h2, h3, h4⟩ := run_append_zeros (P := P) w (ty := o.type) ht hu hi hb hzc h1 hrow m hm
 unfold Oper.wp execOp
 simp only [ho, resolve, invoke, builtin, Sem.run_bind, Sem.run_pure, Result.andThen_ok, List.map_toArray, List.map_cons, List.map_nil, hs, hx, hr]
 exact hK _ _ (h p c' w' h2 h3 h4)
end
end Go.Proofs.YtbioecifiogffabGreatDoor
namespace Go.Proofs.YtbioecifiogffabGreatDoor
open Go.RowKit
theorem enc_last (r : Nat) (h0 : 128 ≤ r) : ∃ (l : List UInt8) (x : UInt8), Lib.encodeRune (r : Int) = l ++ [x] ∧ 1 ≤ l.length ∧ l.length ≤ 3 ∧ 128 ≤ x.toNat := by
 have hx : 128 ≤ ((128 + (r : Int) % 64).toNat.toUInt8).toNat := by
  have : (128 + (r : Int) % 64).toNat = 128 + r % 64 := by omega
  rw [this]
  have h2 : r % 64 < 64 := Nat.mod_lt _ (by omega)
  simp only [Nat.toUInt8_eq, UInt8.toNat_ofNat']
  omega
 unfold Lib.encodeRune Lib.encodeRuneZ
 rw [if_neg (by omega)]
 split
 ·exact ⟨[_], _, rfl, by simp, by simp, hx⟩
 ·split
  ·exact ⟨[_, _], _, rfl, by simp, by simp, hx⟩
  ·split
   ·exact ⟨[_, _, _], _, rfl, by simp, by simp, hx⟩
   ·exact ⟨[_, _], _, rfl, by simp, by simp, by decide⟩
def chs : ByteArray := ⟨#[41, 32, 9, 10, 40]⟩
theorem chs_size : chs.size = 5 := rfl
theorem chs_byte (i : Nat) (h : i < chs.size) : (chs[i]'h).toNat < 128 := by
 have h2 : ∀ y ∈ chs.data.toList, y.toNat < 128 := by decide
 exact h2 _ (by rw [ByteArray.getElem_eq_getElem_data]; exact Array.getElem_mem_toList _)
theorem chs_none (i : Nat) (x : UInt8) (h : 128 ≤ x.toNat) : Lib.indexByte (chs.data.toList.drop i) x = -1 := by
 rw [indexByte_fnd]
 have : fnd x (chs.data.toList.drop i) = none := by
  cases hf : fnd x (chs.data.toList.drop i) with
  | none => rfl
  | some k =>
   exfalso
   have hm : ∀ l : List UInt8, fnd x l ≠ none → x ∈ l := by
    intro l
    induction l with
    | nil => intro h; exact absurd rfl h
    | cons b t ih =>
     intro h
     unfold fnd at h
     split at h
     ·rename_i hb; rw [← hb]; exact List.mem_cons_self
     ·exact List.mem_cons_of_mem _ (ih (fun e => h (by rw [e]; rfl)))
   have h1 := List.mem_of_mem_drop (hm _ (by rw [hf]; simp))
   have h2 : ∀ y ∈ chs.data.toList, y.toNat < 128 := by decide
   have := h2 x h1
   omega
 rw [this]
 rfl
theorem idxRune_hi (r : Nat) (w : World) (h0 : 128 ≤ r) (h1 : r ≤ 1114111) :
 Calls Tryz.prog 148 #[.string chs, .int .i32 r] w fun e w' => e = .returned (.int .i64 (-1)) ∧ Fresh w w' := by
 have g0 : (128 : Int) ≤ (r : Int) := by omega
 have g1 : (r : Int) ≤ 1114111 := by omega
 by_cases h3 : r = 65533
 ·subst h3
  have hcb := fun i h => chs_byte i h
  generalize chs = S at *
  have HA := Lib.hid hcb
  clear hcb g0 g1 h0 h1
  go_enter Tryz.func148, Tryz.ntmps148
  go_wp2
  go_loopg [5, 6] S.size (fun g _ _ wx => ∃ i : Nat, i + g = S.size ∧ wx = w.iter S i)
  case atStart => exact ⟨0, by omega, rfl⟩
  case round =>
   obtain ⟨i, hig, rfl⟩ := hrel
   cases gk with
   | zero =>
    obtain rfl : i = S.size := by omega
    have hnx := run_next_end (P := Tryz.prog) w S S.size
    go_wp2
    try rw [Exit.noGoto_ret]
    go_ret
    exact ⟨rfl, (Keeps.refl _ _).alloc _⟩
   | succ g =>
    have hi : i < S.size := by omega
    obtain ⟨x, hx⟩ : ∃ x : UInt8, S[i]'hi = x := ⟨_, rfl⟩
    have hx128 : x.toNat < 128 := by rw [← hx]; exact HA.out i hi
    have hnx := fun ty => run_next_ascii (P := Tryz.prog) w S i ty hi (by rw [hx]; exact hx128)
    rw [hx] at hnx
    have hq : ((x.toNat : Int) == 65533) = false := by rw [beq_eq_false_iff_ne]; omega
    clear hx
    go_wp2
    go_roundg g
    case measure => omega
    case rel => exact ⟨i + 1, by omega, rfl⟩
 ·have e3 : ((r : Int) == 65533) = false := by rw [beq_eq_false_iff_ne]; omega
  have henc := encode_eq (r : Int)
  obtain ⟨l, x, hl, hl1, hl2, hx⟩ := enc_last r h0
  rw [hl] at henc
  obtain ⟨RS, hRS⟩ : ∃ RS : ByteArray, ⟨(l ++ [x]).toArray⟩ = RS := ⟨_, rfl⟩
  rw [hRS] at henc
  have hn : RS.size = l.length + 1 := by rw [← hRS]; simp [ByteArray.size]
  have hlast : ∀ h : l.length < RS.size, RS[l.length]'h = x := fun h => by
   subst hRS
   simp [ByteArray.getElem_eq_getElem_data]
  have hs5 := chs_size
  have hn1 : l.length < chs.size := by omega
  obtain ⟨c, hc⟩ : ∃ c, chs[l.length]'hn1 = c := ⟨_, rfl⟩
  have hc2 : c.toNat < 128 := by rw [← hc]; exact chs_byte _ _
  have hi : ∀ W : World, Calls Tryz.prog 49 #[.string (chs.extract (l.length + 1) chs.size), .int .u8 x.toNat] W fun e w' => e = .returned (.int .i64 (-1)) ∧ w' = W := fun W => by
   have h := Tryz.strings_IndexByte (chs.extract (l.length + 1) chs.size) (x.toNat : Int) W
   have e1 : ((x.toNat : Int)).toNat.toUInt8 = x := by simp
   rw [e1, show (chs.extract (l.length + 1) chs.size).data.toList = chs.data.toList.drop (l.length + 1) from by rw [ByteArray.data_extract, Array.toList_extract, List.extract_eq_take_drop]; apply List.take_of_length_le; simp, chs_none _ _ hx] at h
   exact h
  have hq : (((c.toNat : Int)) != (x.toNat : Int)) = true := by rw [bne_iff_ne]; omega
  generalize l.length = n at *
  have hnR : n < RS.size := by omega
  have hlast' : RS[n]'hnR = x := hlast hnR
  have hw1 : IntKind.i64.wrap ((n : Int) + 1) = (n : Int) + 1 := IntWalk.i64_in _ (by omega)
  have hw2 : (0 : Int) ≤ (n : Int) + 1 := by omega
  have hw3 : ((n : Int) + 1).toNat = n + 1 := by omega
  have hw4 : (n : Int) + 1 ≤ (chs.size : Int) := by omega
  have hvr := fun W : World => Tryz.utf8_ValidRune (r : Int) W
  generalize Lib.validRune (r : Int) = vb at hvr
  have HI := Lib.hid hi
  have HV := Lib.hid hvr
  generalize chs = S at *
  have hnS : (n : Int) < (S.size : Int) := by omega
  clear h3 hl hRS hi hlast hvr hs5
  cases vb with
  | false =>
   go_enter Tryz.func148, Tryz.ntmps148
   go_wp2_with fail
   refine (HV.out _).mono ?_
   rintro e w' ⟨rfl, rfl⟩
   go_wp2
   go_ret
   exact ⟨rfl, Keeps.refl _ _⟩
  | true =>
   go_enter Tryz.func148, Tryz.ntmps148
   go_wp2_with fail
   refine (HV.out _).mono ?_
   rintro e w' ⟨rfl, rfl⟩
   go_wp2
   go_step3
   go_wp2
   refine wp_loop_rounds 1 ?_
   rw [rounds_succ]
   go_wp2
   try go_step3
   go_wp2
   go_quiet (fail)
   go_wp2
   refine name_world (fun X hX => ?_)
   have hFX : Fresh w' X := by rw [hX]; exact (Keeps.refl _ _).drewN _
   clear hX
   go_quiet ((go_at_call 49; exact Calls.quiet_of_same (HI.out _)))
   have HFX := Lib.hid hFX
   clear hFX
   go_wp2
   rw [Exit.noGoto_ret]
   go_wp2
   rw [Exit.noGoto_ret]
   try go_wp2
   go_ret
   exact ⟨rfl, HFX.out.drewN _⟩
end Go.Proofs.YtbioecifiogffabGreatDoor
namespace Go.Proofs.YtbioecifiogffabGreatDoor
open Go.RowKit
theorem decodeN_wide (n b0 b1 b2 b3 : Nat) (h : 128 ≤ b0) (h0 : b0 < 256) : (Lib.decodeN n b0 b1 b2 b3).2 ≤ 4 ∧ (1 < (Lib.decodeN n b0 b1 b2 b3).2 → 1 < n ∧ 128 ≤ b1) ∧ (2 < (Lib.decodeN n b0 b1 b2 b3).2 → 2 < n ∧ 128 ≤ b2) ∧ (3 < (Lib.decodeN n b0 b1 b2 b3).2 → 3 < n ∧ 128 ≤ b3) ∧ (Lib.decodeN n b0 b1 b2 b3).1 ≤ 1114111 := by
 unfold Lib.decodeN
 repeat' split
 all_goals simp only
 all_goals omega
theorem get_bang (s : ByteArray) (j : Nat) (h : j < s.size) : s.get! j = s[j]'h := by
 simp [ByteArray.get!, getElem!_pos, h]
 rfl
theorem wide_bytes (s : ByteArray) (pos : Nat) (h : pos < s.size) (ha : 128 ≤ (s[pos]'h).toNat) :
 pos + (Utf8.decode s pos).2 ≤ s.size ∧ (Utf8.decode s pos).1 ≤ 1114111 ∧ ∀ (j : Nat) (hj : j < s.size), pos ≤ j → j < pos + (Utf8.decode s pos).2 → 128 ≤ (s[j]'hj).toNat := by
 have hd := decodeN_wide (s.size - pos) (s.get! pos).toNat (s.get! (pos + 1)).toNat (s.get! (pos + 2)).toNat (s.get! (pos + 3)).toNat (by rw [get_bang s pos h]; exact ha) (s.get! pos).toNat_lt
 rw [← Lib.decode_at] at hd
 obtain ⟨h4, h1, h2, h3, hr⟩ := hd
 refine ⟨?_, hr, fun j hj hp hw => ?_⟩
 ·rcases Nat.lt_or_ge 3 (Utf8.decode s pos).2 with c | c
  ·have := (h3 c).1; omega
  ·rcases Nat.lt_or_ge 2 (Utf8.decode s pos).2 with c | c
   ·have := (h2 c).1; omega
   ·rcases Nat.lt_or_ge 1 (Utf8.decode s pos).2 with c | c
    ·have := (h1 c).1; omega
    ·omega
 ·rw [← get_bang s j hj]
  obtain ⟨d, rfl⟩ : ∃ d, j = pos + d := ⟨j - pos, by omega⟩
  have hd4 : d < 4 := by omega
  match d, hd4 with
  | 0, _ => rw [Nat.add_zero, get_bang s pos h]; exact ha
  | 1, _ => exact (h1 (by omega)).2
  | 2, _ => exact (h2 (by omega)).2
  | 3, _ => exact (h3 (by omega)).2
theorem chs_contains (x : UInt8) (h : 128 ≤ x.toNat) : ([41, 32, 9, 10, 40] : List UInt8).contains x = false := by
 have h2 : ∀ y ∈ ([41, 32, 9, 10, 40] : List UInt8), y.toNat < 128 := by decide
 cases hc : ([41, 32, 9, 10, 40] : List UInt8).contains x with
 | false => rfl
 | true =>
  have := h2 x (by simpa using hc)
  omega
theorem noAny_wide {s : ByteArray} {pos : Nat} (h : pos < s.size) (ha : 128 ≤ (s[pos]'h).toNat) (hn : Lib.NoAny s.data.toList [41, 32, 9, 10, 40] pos) : Lib.NoAny s.data.toList [41, 32, 9, 10, 40] (pos + (Utf8.decode s pos).2) := by
 intro j b hj hb
 rcases Nat.lt_or_ge j pos with h1 | h1
 ·exact hn j b h1 hb
 ·obtain ⟨hl, he⟩ := List.getElem?_eq_some_iff.1 hb
  have hjs : j < s.size := by simpa using hl
  have h2 := (wide_bytes s pos h ha).2.2 j hjs h1 hj
  refine chs_contains b ?_
  rw [← he]
  simpa [ByteArray.getElem_eq_getElem_data] using h2
theorem idxAny_short (s : ByteArray) (w : World) (h8 : s.size ≤ 8) :
 Calls Tryz.prog 137 #[.string s, .string ⟨#[41, 32, 9, 10, 40]⟩] w fun e w' => e = .returned (.int .i64 (Lib.indexAny s.data.toList [41, 32, 9, 10, 40])) ∧ Fresh w w' := by
 have h8z : decide ((8 : Int) < (s.size : Int)) = false := decide_eq_false (by omega)
 have hlo : ∀ (x : UInt8), x.toNat < 128 → ∀ W : World, Calls Tryz.prog 148 #[.string ⟨#[41, 32, 9, 10, 40]⟩, .int .i32 x.toNat] W fun e w' => e = .returned (.int .i64 (Lib.indexByte [41, 32, 9, 10, 40] x)) ∧ w' = W := fun x hx W => by
  have h := Tryz.strings_IndexRune_ascii ⟨#[41, 32, 9, 10, 40]⟩ (x.toNat : Int) W (by omega) (by omega)
  have e1 : ((x.toNat : Int)).toNat.toUInt8 = x := by simp
  rw [e1] at h
  exact h
 have hhi : ∀ (r : Nat), 128 ≤ r → r ≤ 1114111 → ∀ W : World, Calls Tryz.prog 148 #[.string ⟨#[41, 32, 9, 10, 40]⟩, .int .i32 r] W fun e w' => e = .returned (.int .i64 (-1)) ∧ Fresh W w' := fun r a b W => idxRune_hi r W a b
 have HLO := Lib.hid hlo
 have HHI := Lib.hid hhi
 have H8 := Lib.hid h8z
 have hsu := fun W : World => Tryz.strings_shouldUseASCIISet (s.size : Int) W
 have HSU := Lib.hid hsu
 clear hlo hhi h8z hsu
 go_enter Tryz.func137, Tryz.ntmps137
 go_wp2_with (go_at_call 149; refine (HSU.out _).mono ?_; rintro e w' ⟨rfl, rfl⟩; rw [H8.out])
 go_loopw [9, 10] (fun _ _ wr => ∃ pos : Nat, wr.heap[w'.heap.size]? = some (.stringIter s pos) ∧ Fresh w' wr ∧ Lib.NoAny s.data.toList [41, 32, 9, 10, 40] pos ∧ pos ≤ s.size) (fun _ _ wr => s.size - wr.iterPos w'.heap.size)
 case atStart => exact ⟨0, World.iter_heap w' s 0, (Keeps.refl _ _).alloc _, Lib.NoAny.zero _ _, Nat.zero_le _⟩
 case round =>
  obtain ⟨pos, hi, hF, hno, hpl⟩ := hrel
  by_cases hp : pos < s.size
  ·have hnx : ∀ ty, (Instr.next (.pointer (some ⟨w'.heap.size, 0, none⟩)) true ty).run Tryz.prog wr = _ := fun ty => Lib.run_next_any_at wr w'.heap.size s pos ty hi hp
   have hwd := width_pos s pos hp
   have hm0 : wr.iterPos w'.heap.size = pos := by simp only [World.iterPos, hi]
   have hi2 := Lib.iterAt_heap wr w'.heap.size s pos (pos + (Utf8.decode s pos).2) hi
   have hF2 : Fresh w' (wr.iterAt w'.heap.size s (pos + (Utf8.decode s pos).2)) := hF.trans (D' := fun k => k = w'.heap.size) ⟨rfl, rfl, rfl, by rw [Lib.iterAt_size]; exact Nat.le_refl _, fun k _ hn => Lib.iterAt_other wr _ k s _ hn⟩ (fun j h1 h2 => by omega)
   have hsm := decode_small s pos hp
   by_cases ha : (s[pos]'hp).toNat < 128
   ·obtain ⟨x, hx⟩ : ∃ x : UInt8, s[pos]'hp = x := ⟨_, rfl⟩
    have hxl : s.data.toList[pos]? = some x := by rw [← hx]; exact Lib.data_getElem? s pos hp
    have hdec : (Utf8.decode s pos).1 = x.toNat ∧ (Utf8.decode s pos).2 = 1 := by
     have hd : (Utf8.decode s pos).1 < 128 := by
      rw [Lib.decode_at, get_bang s pos hp]
      unfold Lib.decodeN
      rw [if_pos ha]
      exact ha
     obtain ⟨d1, d2⟩ := hsm hd
     exact ⟨by rw [← d1, hx], d2⟩
    rw [hx] at ha
    obtain ⟨d1, d2⟩ := hdec
    rw [d1, d2] at hnx
    rw [d2] at hi2 hF2
    have HX := Lib.hid hxl
    have HNO := Lib.hid hno
    have HM := Lib.hid hm0
    have hlx := HLO.out x ha
    have hcon := Lib.contains_iff_indexByte [41, 32, 9, 10, 40] x
    have HI2 := Lib.hid hi2
    have HF2 := Lib.hid hF2
    clear hsm hwd hm0 hxl hno hx d1 d2 hi hF hi2 hF2
    cases hin : ([41, 32, 9, 10, 40] : List UInt8).contains x
    ·rw [hin] at hcon
     have hlt : ¬ ((0 : Int) ≤ Lib.indexByte [41, 32, 9, 10, 40] x) := of_decide_eq_false hcon.symm
     have hlt2 : Lib.indexByte [41, 32, 9, 10, 40] x < 0 := by omega
     generalize Lib.indexByte [41, 32, 9, 10, 40] x = J at *
     have HLX := Lib.hid hlx
     have HIN := Lib.hid hin
     clear hcon hlt hin hlx
     go_wp2_with fail
     refine (HLX.out _).mono ?_
     rintro e w2 ⟨rfl, rfl⟩
     go_wp2
     go_roundw
     case rel => exact ⟨pos + 1, HI2.out, HF2.out, HNO.out.succ HX.out HIN.out, by omega⟩
     case measure => rw [HM.out]; simp only [World.iterPos, HI2.out]; omega
    ·rw [hin] at hcon
     have hge : (0 : Int) ≤ Lib.indexByte [41, 32, 9, 10, 40] x := of_decide_eq_true hcon.symm
     have hfin := Lib.indexAny_hit HNO.out HX.out hin
     generalize Lib.indexByte [41, 32, 9, 10, 40] x = J at *
     have HLX := Lib.hid hlx
     have HFIN := Lib.hid hfin
     clear hcon hin hlx hfin
     go_wp2_with fail
     refine (HLX.out _).mono ?_
     rintro e w2 ⟨rfl, rfl⟩
     go_wp2
     go_ret
     exact ⟨by rw [HFIN.out]; rfl, HF2.out⟩
   ·have ha' : 128 ≤ (s[pos]'hp).toNat := by omega
    obtain ⟨wl, wr1, -⟩ := wide_bytes s pos hp ha'
    have hno2 := noAny_wide hp ha' hno
    have hr1 := (decode_high s pos hp ha').1
    generalize (Utf8.decode s pos).1 = r at *
    generalize (Utf8.decode s pos).2 = wd at *
    have HNO := Lib.hid hno2
    have HM := Lib.hid hm0
    have hlx := HHI.out r hr1 wr1
    have HLX := Lib.hid hlx
    have HI2 := Lib.hid hi2
    have HF2 := Lib.hid hF2
    clear hsm hm0 hno2 hno hlx hi hF ha ha' hi2 hF2
    go_wp2_with fail
    refine (HLX.out _).mono ?_
    rintro e w2 ⟨rfl, hk2⟩
    have HI3 := Lib.hid (hk2.heap_some HI2.out (fun h => h))
    have HF3 := Lib.hid (HF2.out.tr hk2)
    clear hk2
    go_wp2
    go_roundw
    case rel => exact ⟨pos + wd, HI3.out, HF3.out, HNO.out, by omega⟩
    case measure => rw [HM.out]; simp only [World.iterPos, HI3.out]; omega
  ·have hnx : ∀ ty, (Instr.next (.pointer (some ⟨w'.heap.size, 0, none⟩)) true ty).run Tryz.prog wr = _ := fun ty => Lib.run_next_end_at wr w'.heap.size s pos ty hi hp
   obtain rfl : pos = s.size := by omega
   have hfin : Lib.indexAny s.data.toList [41, 32, 9, 10, 40] = -1 := Lib.indexAny_none (by rw [← Lib.size_eq]; exact hno)
   have HFIN := Lib.hid hfin
   have HF := Lib.hid hF
   clear hfin hno hi hF hp
   go_wp2
   go_ret
   exact ⟨by rw [HFIN.out]; rfl, HF.out⟩
theorem idxAny_any (s : ByteArray) (w : World) (hs : s.size ≤ 16777216) :
 Calls Tryz.prog 137 #[.string s, .string ⟨#[41, 32, 9, 10, 40]⟩] w fun e w' => e = .returned (.int .i64 (Lib.indexAny s.data.toList [41, 32, 9, 10, 40])) ∧ Fresh w w' := by
 by_cases h8 : s.size ≤ 8
 ·exact idxAny_short s w h8
 ·refine (Tryz.strings_IndexAny_long (fun _ => by kernel_rfl) s ⟨#[41, 32, 9, 10, 40]⟩ w (by decide) (by omega) (by omega) (by decide) (fun j b hb => ?_)).mono ?_
  ·have h2 : ∀ y ∈ ([41, 32, 9, 10, 40] : List UInt8), y.toNat < 128 := by decide
   exact h2 b (List.mem_of_getElem? hb)
  ·rintro e w' ⟨rfl, rfl⟩
   exact ⟨rfl, ((Keeps.refl _ _).alloc _).alloc _⟩
end Go.Proofs.YtbioecifiogffabGreatDoor
namespace Go.Proofs.YtbioecifiogffabGreatDoor
open Go.RowKit
theorem event_any (e : Ev) (w : World) :
 Calls Tryz.prog 18 #[.agg #[.int .i64 e.kind, .bool e.fin, .int .i64 e.level, .string ⟨e.text.toArray⟩]] w fun r w' => r = .returned (.agg #[.int .i64 e.kind, .bool e.fin, .int .i64 e.level, .string ⟨e.text.toArray⟩]) ∧ Fresh w w' := by
 go_enter Tryz.func18, Tryz.ntmps18
 go_wp2
 exact bodyPost_ret (v := .agg #[.int .i64 e.kind, .bool e.fin, .int .i64 e.level, .string ⟨e.text.toArray⟩]) (by simp [results, Tryz.results18, go_sem]) rfl ⟨rfl, ((Keeps.refl _ _).alloc _).alloc _⟩
end Go.Proofs.YtbioecifiogffabGreatDoor
namespace Go.Proofs.YtbioecifiogffabGreatDoor
open Go.RowKit
end Go.Proofs.YtbioecifiogffabGreatDoor
namespace Go.Proofs.YtbioecifiogffabGreatDoor
open Go.RowKit
end Go.Proofs.YtbioecifiogffabGreatDoor
