/- Texts of this proof, joined: Base, Text, Come, Shelf, Build, Regular, ComeW, Base2, HeldK, Range. Conditions: as each theorem names them. -/
import Derived.Test.YtbioecifiogffaaGreatDoorProg
import Derived.WalkKit
import Derived.WalkSpells
import Derived.WalkLawsBesides
import Derived.Lib.OthersKept
import Derived.Lib.FrozenHead2
import Derived.Lib.Hide
import Derived.Lib.RuneBytes
import Derived.Lib.RuneLoops
import Derived.Shelf.Strings.Builder1
import Derived.Shelf.Strings.Builder2
import Derived.Shelf.Strings.OnBuilder
import Derived.Shelf.Strings.Trim
import Derived.Shelf.Small.Utf8
import Derived.Shelf.Small.Strs
import Derived.Shelf.Small.Wraps
import Derived.Shelf.Strings.BuilderF
import Derived.Shelf.Strings.BuilderK
import Derived.Shelf.Strings.BuilderRune
import Derived.Shelf.Utf8.AppendRunePlain
import Derived.Shelf.Strconv.Itoa0
import Derived.Shelf.Strconv.Itoa1
import Derived.Shelf.LaysM
import Derived.Shelf.Strconv.Itoa2
import Derived.Shelf.Strconv.Itoa3
import Derived.Shelf.Strings.Search1
import Derived.Shelf.Strings.Search2
import Derived.Shelf.Strings.Search3
import Derived.Shelf.Strings.Cut
import Derived.Shelf.Strings.Count
import Derived.Shelf.Strings.Shaped
import Derived.Shelf.Strings.Prefix
import Derived.Shelf.Strings.Split
import Derived.Shelf.Strings.Replace
import Derived.Shelf.Strings.SplitShaped
import Derived.Shelf.Unicode.Decode
import Derived.Shelf.Strings.Runes
import Derived.Shelf.Strings.RuneCount
import Derived.Shelf.Strings.IndexAny
import Derived.Shelf.Strings.AsciiSet
import Derived.Shelf.Strings.IndexAnyAll
import Derived.Shelf.Strings.Explode
import Derived.Shelf.Unicode.DecodeSlow
import Derived.Shelf.Unicode.DecodeAny
import Derived.Deep.DeepCutAuto
import Derived.OrdersHeld
import Derived.Deep.RegionHeld
import Derived.RangeFuncNested
import Derived.RangeFuncCalls
import Derived.RangeFuncLeaves
import Derived.OwnWalkIn
import Derived.TacticsInMore
set_option linter.unusedVariables false
set_option linter.unusedSimpArgs false
set_option maxHeartbeats 8000000
set_option maxRecDepth 1000000
namespace Go.Proofs.YtbioecifiogffaaGreatDoor
open Go.RowKit
structure Keeps (D : Nat → Prop) (w w' : World) : Prop where
 os : w'.os = w.os
 tape : w'.tape = w.tape
 output : w'.output = w.output
 size : w.heap.size ≤ w'.heap.size
 block : ∀ k, k < w.heap.size → ¬ D k → w'.heap[k]? = w.heap[k]?
namespace Keeps
variable {D D' : Nat → Prop} {a b c w w' : World}
theorem refl (D : Nat → Prop) (w : World) : Keeps D w w := ⟨rfl, rfl, rfl, Nat.le_refl _, fun _ _ _ => rfl⟩
theorem trans (h : Keeps D a b) (k : Keeps D' b c) (hD : ∀ j, j < a.heap.size → D' j → D j) : Keeps D a c :=
 ⟨k.os.trans h.os, k.tape.trans h.tape, k.output.trans h.output, Nat.le_trans h.size k.size, fun j hj hn =>
   (k.block j (Nat.lt_of_lt_of_le hj h.size) (fun e => hn (hD j hj e))).trans (h.block j hj hn)⟩
theorem tr (h : Keeps D a b) (k : Keeps D b c) : Keeps D a c := h.trans k (fun _ _ h => h)
theorem mono (h : Keeps D w w') (hD : ∀ j, j < w.heap.size → D j → D' j) : Keeps D' w w' :=
 ⟨h.os, h.tape, h.output, h.size, fun j hj hn => h.block j hj (fun e => hn (hD j hj e))⟩
theorem drew (h : Keeps D a w) : Keeps D a w.drew := ⟨h.os, h.tape, h.output, h.size, h.block⟩
theorem drewN (h : Keeps D a w) (n : Nat) : Keeps D a (w.drewN n) := ⟨h.os, h.tape, h.output, h.size, h.block⟩
theorem alloc (h : Keeps D a w) (o : Obj) : Keeps D a (w.alloc o) :=
 ⟨h.os, h.tape, h.output, Nat.le_trans h.size (by simp), fun k hk hn => (Below.heap_alloc w o k (Nat.lt_of_lt_of_le hk h.size)).trans (h.block k hk hn)⟩
theorem setCell (h : Keeps D a w) {p : Addr} (hp : p.block < a.heap.size → D p.block) (u : Value) : Keeps D a (w.setCell p u) :=
 ⟨h.os, h.tape, h.output, Nat.le_trans h.size (by simp [World.setCell]), fun k hk hn =>
   (Below.heap_setCell w p u k (fun e => hn (by rw [e] at hk ⊢; exact hp hk))).trans (h.block k hk hn)⟩
theorem freeze (h : Keeps D a w) {p : Addr} (hp : p.block < a.heap.size → D p.block) (n : Nat) : Keeps D a (w.freeze p n) := by
 unfold World.freeze
 split
 ·exact h
 ·refine ⟨h.os, h.tape, h.output, Nat.le_trans h.size (by simp), fun k hk hn => ?_⟩
  simp only [Array.getElem?_modify]
  rw [if_neg (fun e => hn (by rw [← e] at hk ⊢; exact hp hk))]
  exact h.block k hk hn
theorem cell (h : Keeps D w w') {p : Addr} (hp : p.block < w.heap.size) (hn : ¬ D p.block) : w'.cell? p = w.cell? p := World.cell?_of_block (h.block p.block hp hn)
theorem cell_some (h : Keeps D w w') {p : Addr} {v : Value} (hv : w.cell? p = some v) (hn : ¬ D p.block) : w'.cell? p = some v :=
 (h.cell (World.block_lt_of_cell? w p hv) hn).trans hv
theorem frozen (h : Keeps D w w') {p : Addr} (hp : p.block < w.heap.size) (hn : ¬ D p.block) : w'.frozen? p = w.frozen? p := World.frozen?_of_block (h.block p.block hp hn)
theorem heap_some (h : Keeps D w w') {k : Nat} {o : Obj} (hv : w.heap[k]? = some o) (hn : ¬ D k) : w'.heap[k]? = some o :=
 (h.block k (Array.getElem?_eq_some_iff.1 hv).1 hn).trans hv
theorem grown {row : Option Nat} (h : Keeps D a w) (hg : w.grownBy w' row) (hr : ∀ k, row = some k → k < a.heap.size → D k) : Keeps D a w' :=
 ⟨hg.os.trans h.os, hg.tape.trans h.tape, hg.output.trans h.output, Nat.le_trans h.size hg.size, fun k hk hn =>
   (hg.block k (Nat.lt_of_lt_of_le hk h.size) (fun e => hn (hr k e.symm hk))).trans (h.block k hk hn)⟩
theorem of_below' (h : Below w.heap.size w w') : Keeps D w w' :=
 ⟨h.os, h.tape, h.output, h.size, fun k hk _ => h.block k hk⟩
theorem below (h : Keeps D w w') {B : Nat} (hB : B ≤ w.heap.size) (hD : ∀ k, k < B → ¬ D k) : Below B w w' :=
 ⟨h.os, h.tape, h.output, h.size, fun k hk => h.block k (Nat.lt_of_lt_of_le hk hB) (hD k hk)⟩
end Keeps
abbrev Fresh (w w' : World) : Prop := Keeps (fun _ => False) w w'
theorem Fresh.of {w w' : World} (h : Below w.heap.size w w') : Fresh w w' := Keeps.of_below' h
def RowIs (w : World) (v : Value) (g : Nat) (e : TypeId) (size n : Nat) (xs : List Value) : Prop :=
 w.ownsRow 0 e size v n xs ∧ ∀ k, v.ownBlock = some k → k = g
theorem RowIs.nil (w : World) (g : Nat) (e : TypeId) (size : Nat) : RowIs w (.slice none 0 0) g e size 0 [] :=
 ⟨World.ownsRow_nil _ _ _ _, fun k h => by simp [Value.ownBlock] at h⟩
theorem RowIs.kept {D : Nat → Prop} {w w' : World} {v : Value} {g : Nat} {e : TypeId} {size n : Nat} {xs : List Value} (h : RowIs w v g e size n xs) (hk : Keeps D w w') (hn : g < w.heap.size → ¬ D g) : RowIs w' v g e size n xs := by
 refine ⟨⟨h.1.1, ?_⟩, h.2⟩
 rcases h.1.2 with hh | ⟨g', cap, cur, rfl, hb, hgg, rest⟩
 ·exact .inl hh
 ·have e1 : g' = g := h.2 g' rfl
  subst e1
  exact .inr ⟨g', cap, cur, rfl, hb, hk.heap_some hgg (hn (Array.getElem?_eq_some_iff.1 hgg).1), rest⟩
theorem RowIs.lt {w : World} {p : Option Addr} {c g : Nat} {e : TypeId} {size n m : Nat} {xs : List Value} (h : RowIs w (.slice p m c) g e size n xs) (hn : 0 < n) : g < w.heap.size ∧ p = some ⟨g, 0, none⟩ ∧ m = n := by
 rcases h.1.2 with ⟨_, h0⟩ | ⟨g', cap, cur, hv, hb, hgg, rest⟩
 ·omega
 ·have e1 : g' = g := h.2 g' (by rw [hv]; rfl)
  subst e1
  cases hv
  exact ⟨(Array.getElem?_eq_some_iff.1 hgg).1, rfl, rfl⟩
theorem RowIs.form {w : World} {v : Value} {g : Nat} {e : TypeId} {size n : Nat} {xs : List Value} (h : RowIs w v g e size n xs) : ∃ p c, v = .slice p n c := by
 rcases h.1.2 with ⟨rfl, rfl⟩ | ⟨g', cap, cur, rfl, hb, hgg, rest⟩
 ·exact ⟨_, _, rfl⟩
 ·exact ⟨_, _, rfl⟩
theorem RowIs.cellAt {w : World} {p : Option Addr} {c g : Nat} {e : TypeId} {size n m : Nat} {xs : List Value} (h : RowIs w (.slice p m c) g e size n xs) (hn : 0 < n) (j : Nat) (hj : j < n * size) : w.cell? ⟨g, j, none⟩ = xs[j]? := by
 obtain ⟨_, rfl, rfl⟩ := h.lt hn
 exact h.1.cellAt j hj
theorem run_append_row {P : Program} (w : World) (t ty e : TypeId) (i : TypeInfo) (z : Value) (size bytes : Nat) (ht : P.underlying t = some (.slice e)) (hi : P.info? e = some i) (hz : i.zero = some z)
 (hsize : i.size = size) (hby : i.bytes = bytes) (hzs : z.cells.size = size) (hsz : 0 < size)
 (v : Value) (g n : Nat) (xs : List Value) (hrow : RowIs w v g e size n xs)
 (ao : Option Addr) (m c : Nat) (news : List Value) (hl : news.length = m * size) (hnone : ao = none → m = 0 ∧ c = 0) (hnews : ∀ ad, ao = some ad → ∀ j u, news[j]? = some u → w.cell? (ad.add j) = some u) (h1 : ∀ u ∈ news, u.oneCell' = true)
 (h63 : n + m ≤ maxLen) (hbytes : (n + m) * bytes ≤ 140737488355328) :
 ∃ p c' g' w', (Builtin.append_ #[t, t] ty #[v, .slice ao m c]).run P w = .ok (.slice p (n + m) c') w' ∧ RowIs w' (.slice p (n + m) c') g' e size (n + m) (xs ++ news) ∧ (g' = g ∨ g' = w.heap.size) ∧ Keeps (fun k => v.ownBlock = some k) w w' := by
 obtain ⟨hown, hblk⟩ := hrow
 cases ao with
 | none =>
  obtain ⟨rfl, rfl⟩ := hnone rfl
  have hn0 : news = [] := List.eq_nil_of_length_eq_zero (by simpa using hl)
  subst hn0
  have hrun := run_append_owned_none (P := P) w 0 t ty e i size ht hi v n xs hown
  obtain ⟨p, c', rfl⟩ := RowIs.form ⟨hown, hblk⟩
  refine ⟨p, c', g, w, hrun, ?_, .inl rfl, Keeps.refl _ _⟩
  exact ⟨by simpa using hown, hblk⟩
 | some ad =>
  have hn' := hnews ad rfl
  -- where it is nil, or has no room, the block is new; else the same
  rcases hown.2 with ⟨rfl, rfl⟩ | ⟨g', cap, cur, rfl, hbg, hg, hnc, hcm, hcs, htake⟩
  ·obtain ⟨v', w', hr, ho, hgr, hnil⟩ := run_append_own (P := P) w w.heap.size t ty e i z size bytes ht hi hz hsize hby hzs hsz (.slice none 0 0) 0 xs ⟨hown.1, .inl ⟨rfl, rfl⟩⟩ ad m c news hl hn' h1 h63 hbytes (Nat.le_refl _)
   have hk : Keeps (fun k => (Value.slice none 0 0).ownBlock = some k) w w' := (Keeps.refl _ w).grown hgr (fun k e _ => by cases e)
   rcases ho.2 with ⟨rfl, h0⟩ | ⟨g2, cap2, cur2, rfl, hb2, hg2, r2⟩
   ·have h00 : 0 + m = 0 := h0
    refine ⟨none, 0, g, w', by rw [h00]; exact hr, ⟨⟨ho.1, .inl ⟨by rw [h00], h0⟩⟩, fun k e => by cases e⟩, .inl rfl, hk⟩
   ·have hlast : g2 = w.heap.size := by
     by_cases hm : m = 0
     ·subst hm
      have hn0 : news = [] := List.eq_nil_of_length_eq_zero (by simpa using hl)
      subst hn0
      exact absurd (hnil.2 ⟨rfl, rfl⟩) (by intro e; cases e)
     ·have hx : xs = [] := List.eq_nil_of_length_eq_zero (by simpa using hown.1)
      subst hx
      subst hsize
      subst hby
      have hr2 := run_append_nil (P := P) w t ty e i z ht hi hz ad m c news hl hn' (by omega) (by have := h63; simp only [maxLen] at this; omega) (by rw [Nat.zero_add] at hbytes; omega)
      rw [hr2] at hr
      injection hr with e1 e2
      injection e1 with e3
      injection e3 with e4
      injection e4 with e5
      exact e5.symm
    subst hlast
    exact ⟨some ⟨w.heap.size, 0, none⟩, cap2, w.heap.size, w', hr, ⟨⟨ho.1, .inr ⟨w.heap.size, cap2, cur2, rfl, Nat.zero_le _, hg2, r2⟩⟩, fun k e => by cases e; rfl⟩, .inr rfl, hk⟩
  ·have e1 : g' = g := hblk g' rfl
   subst e1
   by_cases hroom : n + m ≤ cap
   ·obtain ⟨w', hr, ho, hgr⟩ := run_append_fits (P := P) w 0 t ty e i size ht hi hsize g' n cap xs ⟨hown.1, .inr ⟨g', cap, cur, rfl, hbg, hg, hnc, hcm, hcs, htake⟩⟩ ad m c news hl hn' h1 hroom
    exact ⟨some ⟨g', 0, none⟩, cap, g', w', hr, ⟨ho, fun k e => by cases e; rfl⟩, .inl rfl, (Keeps.refl _ w).grown hgr (fun k e _ => e)⟩
   ·subst hsize
    subst hby
    have holds : ∀ j u, xs[j]? = some u → w.cell? ((⟨g', 0, none⟩ : Addr).add j) = some u := World.ownsRow.cells (v := .slice (some ⟨g', 0, none⟩) n cap) hown (g := g') rfl
    have hr := run_append_grow (P := P) w t ty e i z ht hi hz ⟨g', 0, none⟩ n cap xs hown.1 holds ad m c news hl hn' (by omega) (by have := h63; simp only [maxLen] at this; omega) (growslice_fits (by omega) hbytes)
    obtain ⟨v', w', hr', ho, hgr, _⟩ := run_append_own (P := P) w 0 t ty e i z i.size i.bytes ht hi hz rfl rfl hzs hsz (.slice (some ⟨g', 0, none⟩) n cap) n xs hown ad m c news hl hn' h1 h63 hbytes (Nat.zero_le _)
    rw [hr] at hr'
    cases hr'
    exact ⟨some ⟨w.heap.size, 0, none⟩, _, w.heap.size, _, hr, ⟨ho, fun k e => by cases e; rfl⟩, .inr rfl, (Keeps.refl _ w).grown hgr (fun k e _ => e)⟩
theorem wpList_append_row {P : Program} (w : World) {ops : Array Oper} {rest : List Oper} {o : Oper} {a : Act} {Q : Exit → Act → World → Prop}
 (hg : o.guard = none) (s x : Operand) (t : TypeId) (hop : o.op = Op.call { callee := Callee.builtin Builtin.append, args := #[s, x], argTypes := #[t, t] })
 (e : TypeId) (i : TypeInfo) (z : Value) (size bytes : Nat) (ht : P.underlying t = some (.slice e)) (hi : P.info? e = some i) (hz : i.zero = some z)
 (hsize : i.size = size) (hby : i.bytes = bytes) (hzs : z.cells.size = size) (hsz : 0 < size)
 (v : Value) (gb n : Nat) (xs : List Value) (hs : a.eval s = v) (hrow : RowIs w v gb e size n xs)
 (ao : Option Addr) (m c : Nat) (news : List Value) (hx : a.eval x = .slice ao m c) (hl : news.length = m * size) (hnone : ao = none → m = 0 ∧ c = 0) (hnews : ∀ ad, ao = some ad → ∀ j u, news[j]? = some u → w.cell? (ad.add j) = some u) (h1 : ∀ u ∈ news, u.oneCell' = true)
 (h63 : n + m ≤ maxLen) (hbytes : (n + m) * bytes ≤ 140737488355328)
 (hK : ∀ p c' g' w', RowIs w' (.slice p (n + m) c') g' e size (n + m) (xs ++ news) → (g' = gb ∨ g' = w.heap.size) → Keeps (fun k => v.ownBlock = some k) w w' → wpList P ops Q rest (a.put o.dst (.slice p (n + m) c')) w') :
 wpList P ops Q (o :: rest) a w := by
 refine wpList_plain hg fun K hK' => ?_
 obtain ⟨p, c', g', w', hrun, r1, r2, r3⟩ := run_append_row (P := P) w t o.type e i z size bytes ht hi hz hsize hby hzs hsz v gb n xs hrow ao m c news hl hnone hnews h1 h63 hbytes
 unfold Oper.wp
 simp [execOp, hop, resolve, invoke, builtin, hs, hx, hrun, Result.andThen]
 exact hK' _ _ (hK p c' g' w' r1 r2 r3)
theorem run_append_row_string {P : Program} (w : World) (t u ty e : TypeId) (i : TypeInfo) (ht : P.underlying t = some (.slice e)) (hu : P.underlying u = some .string) (hi : P.info? e = some i) (hz : i.zero = some (.int .u8 0))
 (hsize : i.size = 1) (hby : i.bytes = 1) (v : Value) (g n : Nat) (xs : List Value) (hrow : RowIs w v g e 1 n xs) (s : ByteArray) (h63 : n + s.size ≤ maxLen) (hbytes : n + s.size ≤ 140737488355328) :
 ∃ p c' g' w', (Builtin.append_ #[t, u] ty #[v, .string s]).run P w = .ok (.slice p (n + s.size) c') w' ∧ RowIs w' (.slice p (n + s.size) c') g' e 1 (n + s.size) (xs ++ Lib.strCells s) ∧ (g' = g ∨ w.heap.size ≤ g') ∧ Keeps (fun k => v.ownBlock = some k) w w' := by
 obtain ⟨hown, hblk⟩ := hrow
 rcases hown.2 with ⟨rfl, rfl⟩ | ⟨g', cap, cur, rfl, hbg, hg, hnc, hcm, hcs, htake⟩
 ·obtain ⟨v', w', hr, ho, hgr, hnil⟩ := Lib.run_append_own_string (P := P) w w.heap.size t u ty e i ht hu hi hz hsize hby (.slice none 0 0) 0 xs ⟨hown.1, .inl ⟨rfl, rfl⟩⟩ s h63 hbytes (Nat.le_refl _)
  have hk : Keeps (fun k => (Value.slice none 0 0).ownBlock = some k) w w' := (Keeps.refl _ w).grown hgr (fun k e _ => by cases e)
  rcases ho.2 with ⟨rfl, h0⟩ | ⟨g2, cap2, cur2, rfl, hb2, hg2, r2⟩
  ·have h00 : 0 + s.size = 0 := h0
   exact ⟨none, 0, g, w', by rw [h00]; exact hr, ⟨⟨ho.1, .inl ⟨by rw [h00], h0⟩⟩, fun k e => by cases e⟩, .inl rfl, hk⟩
  ·exact ⟨some ⟨g2, 0, none⟩, cap2, g2, w', hr, ⟨⟨ho.1, .inr ⟨g2, cap2, cur2, rfl, Nat.zero_le _, hg2, r2⟩⟩, fun k e => by cases e; rfl⟩, .inr hb2, hk⟩
 ·have e1 : g' = g := hblk g' rfl
  subst e1
  obtain ⟨v', w', hr, ho, hgr, hnil⟩ := Lib.run_append_own_string (P := P) w 0 t u ty e i ht hu hi hz hsize hby (.slice (some ⟨g', 0, none⟩) n cap) n xs hown s h63 hbytes (Nat.zero_le _)
  have hk : Keeps (fun k => (Value.slice (some ⟨g', 0, none⟩) n cap).ownBlock = some k) w w' := (Keeps.refl _ w).grown hgr (fun k e _ => e)
  have hxl : xs.length = n := by simpa using hown.1
  by_cases hroom : n + s.size ≤ cap
  ·have hcs' : cur.size = cap := by simpa using hcs
   have hr' := Lib.run_append_room_string (P := P) w t u ty e i ht hu hi hsize g' n cap cur hg s hroom (by omega)
   rw [hr'] at hr
   cases hr
   exact ⟨_, _, g', _, hr', ⟨ho, fun k e => by cases e; rfl⟩, .inl rfl, hk⟩
  ·have holds : ∀ j u, xs[j]? = some u → w.cell? ((⟨g', 0, none⟩ : Addr).add j) = some u := World.ownsRow.cells (v := .slice (some ⟨g', 0, none⟩) n cap) hown (g := g') rfl
   have hr' := Lib.run_append_grow_string (P := P) w t u ty e i (.int .u8 0) ht hu hi hz ⟨g', 0, none⟩ n cap xs (by rw [hsize]; simpa using hxl) holds s (by omega) (by simp only [maxLen] at h63; omega) (by rw [hby]; exact growslice_fits (by omega) (by omega))
   rw [hr'] at hr
   cases hr
   exact ⟨_, _, w.heap.size, _, hr', ⟨ho, fun k e => by cases e; rfl⟩, .inr (Nat.le_refl _), hk⟩
theorem wpList_append_row_string {P : Program} (w : World) {ops : Array Oper} {rest : List Oper} {o : Oper} {a : Act} {Q : Exit → Act → World → Prop} (hgd : o.guard = none) (sl x : Operand) (t u : TypeId)
 (ho : o.op = .call { callee := .builtin .append, args := #[sl, x], argTypes := #[t, u] })
 (e : TypeId) (i : TypeInfo) (ht : P.underlying t = some (.slice e)) (hu : P.underlying u = some .string) (hi : P.info? e = some i) (hz : i.zero = some (.int .u8 0))
 (hsize : i.size = 1) (hby : i.bytes = 1)
 (v : Value) (g n : Nat) (xs : List Value) (hs : a.eval sl = v) (hrow : RowIs w v g e 1 n xs) (s : ByteArray) (hx : a.eval x = .string s)
 (h63 : n + s.size ≤ maxLen) (hbytes : n + s.size ≤ 140737488355328)
 (hK : ∀ p c' g' w', RowIs w' (.slice p (n + s.size) c') g' e 1 (n + s.size) (xs ++ Lib.strCells s) → (g' = g ∨ w.heap.size ≤ g') → Keeps (fun k => v.ownBlock = some k) w w' → wpList P ops Q rest (a.put o.dst (.slice p (n + s.size) c')) w') : wpList P ops Q (o :: rest) a w := by
 refine wpList_plain hgd fun K hK' => ?_
 obtain ⟨p, c', g', w', hr, h2, h3, h4⟩ := run_append_row_string (P := P) w t u o.type e i ht hu hi hz hsize hby v g n xs hrow s h63 hbytes
 unfold Oper.wp execOp
 simp only [ho, resolve, invoke, builtin, Sem.run_bind, Sem.run_pure, Result.andThen_ok, List.map_toArray, List.map_cons, List.map_nil, hs, hx, hr]
 exact hK' _ _ (hK p c' g' w' h2 h3 h4)
end Go.Proofs.YtbioecifiogffaaGreatDoor
namespace Go.Proofs.YtbioecifiogffaaGreatDoor
open Go.RowKit
def runesAt (s : ByteArray) : Nat → Nat → List Nat
 | 0, _ => []
 | f + 1, pos => if pos < s.size then (Utf8.decode s pos).1 :: runesAt s f (pos + (Utf8.decode s pos).2) else []
def regP : Bool → List Nat → List UInt8
 | cr, [] => if cr then [10] else []
 | cr, r :: rs => (if cr = true ∧ r ≠ 10 then [10] else []) ++ (if r = 13 then [] else if r = 0 then Lib.encodeRune 65533 else Lib.encodeRune r) ++ regP (decide (r = 13)) rs
def regR : List Nat → List UInt8
 | [] => []
 | r :: rs => (if r = 0 ∨ r = 65533 then Lib.encodeRune 65533 else if r = 13 ∧ rs.head? = some 10 then [] else if r = 13 then [10] else Lib.encodeRune r) ++ regR rs
def regular (s : ByteArray) : List UInt8 := regR (runesAt s s.size 0)
theorem regP_eq (rs : List Nat) : regP false rs = regR rs ∧ regP true rs = (if rs.head? = some 10 then [] else [10]) ++ regR rs := by
 induction rs with
 | nil => simp [regP, regR]
 | cons r rs ih =>
  obtain ⟨h1, h2⟩ := ih
  by_cases h13 : r = 13
  ·subst h13
   by_cases hh : rs.head? = some 10 <;> simp [regP, regR, h2, hh]
  ·by_cases h0 : r = 0
   ·subst h0
    simp [regP, regR, h1]
   ·by_cases h3 : r = 65533
    ·subst h3
     simp [regP, regR, h1]
    ·by_cases h10 : r = 10
     ·subst h10
      simp [regP, regR, h1]
     ·simp [regP, regR, h1, h13, h0, h3, h10]
theorem regular_P (s : ByteArray) : regP false (runesAt s s.size 0) = regular s := (regP_eq _).1
theorem encodeRune_le (r : Int) : (Lib.encodeRune r).length ≤ 4 := by
 have := Lib.runeCells_le r
 rw [Lib.runeCells_length] at this
 exact this.2
theorem regR_length (rs : List Nat) : (regR rs).length ≤ 4 * rs.length := by
 induction rs with
 | nil => simp [regR]
 | cons r rs ih =>
  simp only [regR, List.length_append, List.length_cons]
  have h1 := encodeRune_le r
  have h2 := encodeRune_le 65533
  split
  ·omega
  ·split
   ·simp; omega
   ·split
    ·simp; omega
    ·omega
theorem runesAt_length (s : ByteArray) (f : Nat) : ∀ pos, (runesAt s f pos).length ≤ f := by
 induction f with
 | zero => intro pos; simp [runesAt]
 | succ f ih =>
  intro pos
  simp only [runesAt]
  split
  ·have := ih (pos + (Utf8.decode s pos).2)
   simp; omega
  ·simp
theorem regular_length (s : ByteArray) : (regular s).length ≤ 4 * s.size := by
 have h1 := regR_length (runesAt s s.size 0)
 have h2 := runesAt_length s s.size 0
 unfold regular
 omega
theorem runesAt_end (s : ByteArray) (f pos : Nat) (h : ¬ pos < s.size) : runesAt s f pos = [] := by
 cases f <;> simp [runesAt, h]
theorem runesAt_step (s : ByteArray) (f pos : Nat) (h : pos < s.size) : runesAt s (f + 1) pos = (Utf8.decode s pos).1 :: runesAt s f (pos + (Utf8.decode s pos).2) := by
 simp [runesAt, h]
theorem width_pos (s : ByteArray) (pos : Nat) (h : pos < s.size) : 1 ≤ (Utf8.decode s pos).2 := by
 by_cases ha : (s[pos]'h).toNat < 128
 ·rw [decode_ascii s pos h ha]
  exact Nat.le_refl _
 ·exact (decode_high s pos h (by omega)).2
theorem decode_small (s : ByteArray) (pos : Nat) (h : pos < s.size) (hr : (Utf8.decode s pos).1 < 128) : (s[pos]'h).toNat = (Utf8.decode s pos).1 ∧ (Utf8.decode s pos).2 = 1 := by
 by_cases ha : (s[pos]'h).toNat < 128
 ·rw [decode_ascii s pos h ha]
  exact ⟨rfl, rfl⟩
 ·have := (decode_high s pos h (by omega)).1
  omega
theorem head_runesAt (s : ByteArray) (f pos : Nat) (hf : s.size ≤ pos + f) : (runesAt s f pos).head? = some 10 ↔ ∃ h : pos < s.size, (s[pos]'h).toNat = 10 := by
 by_cases h : pos < s.size
 ·obtain ⟨k, rfl⟩ : ∃ k, f = k + 1 := ⟨f - 1, by omega⟩
  rw [runesAt_step s k pos h]
  simp only [List.head?_cons, Option.some.injEq]
  constructor
  ·intro e
   exact ⟨h, by rw [(decode_small s pos h (by omega)).1, e]⟩
  ·rintro ⟨_, e⟩
   rw [decode_ascii s pos h (by omega)]
   exact e
 ·rw [runesAt_end s f pos h]
  simp [h]
theorem ba_append (a b : List UInt8) : (⟨a.toArray⟩ : ByteArray) ++ ⟨b.toArray⟩ = ⟨(a ++ b).toArray⟩ := by
 apply ByteArray.ext
 simp
theorem encode_eq (r : Int) : Utf8.encode r = ⟨(Lib.encodeRune r).toArray⟩ := by
 by_cases h1 : 0 ≤ r ∧ r ≤ 127
 ·have hv : Utf8.valid r = true := by simp [Utf8.valid]; omega
  rw [Lib.encodeRune, Lib.encodeRuneZ_one h1.1 h1.2]
  have : r.toNat < 128 := by omega
  simp [Utf8.encode, hv, this, UInt8.ofNat]
 ·by_cases h2 : 128 ≤ r ∧ r ≤ 2047
  ·have hv : Utf8.valid r = true := by simp [Utf8.valid]; omega
   rw [Lib.encodeRune, Lib.encodeRuneZ_two h2.1 h2.2]
   have a : ¬ r.toNat < 128 := by omega
   have b : r.toNat < 2048 := by omega
   have e1 : 192 + r.toNat / 64 = (192 + r / 64).toNat := by omega
   have e2 : 128 + r.toNat % 64 = (128 + r % 64).toNat := by omega
   simp [Utf8.encode, hv, a, b, e1, e2]
  ·by_cases h3 : (2048 ≤ r ∧ r < 55296) ∨ (57343 < r ∧ r ≤ 65535)
   ·have hv : Utf8.valid r = true := by simp [Utf8.valid]; omega
    rw [Lib.encodeRune, Lib.encodeRuneZ_three h3]
    have a : ¬ r.toNat < 128 := by omega
    have b : ¬ r.toNat < 2048 := by omega
    have c : r.toNat < 65536 := by omega
    have e1 : 224 + r.toNat / 4096 = (224 + r / 4096).toNat := by omega
    have e2 : 128 + r.toNat / 64 % 64 = (128 + r / 64 % 64).toNat := by omega
    have e3 : 128 + r.toNat % 64 = (128 + r % 64).toNat := by omega
    simp [Utf8.encode, hv, a, b, c, e1, e2, e3]
   ·by_cases h4 : 65536 ≤ r ∧ r ≤ 1114111
    ·have hv : Utf8.valid r = true := by simp [Utf8.valid]; omega
     rw [Lib.encodeRune, Lib.encodeRuneZ_four h4.1 h4.2]
     have a : ¬ r.toNat < 128 := by omega
     have b : ¬ r.toNat < 2048 := by omega
     have c : ¬ r.toNat < 65536 := by omega
     have e0 : 240 + r.toNat / 262144 = (240 + r / 262144).toNat := by omega
     have e1 : 128 + r.toNat / 4096 % 64 = (128 + r / 4096 % 64).toNat := by omega
     have e2 : 128 + r.toNat / 64 % 64 = (128 + r / 64 % 64).toNat := by omega
     have e3 : 128 + r.toNat % 64 = (128 + r % 64).toNat := by omega
     simp [Utf8.encode, hv, a, b, c, e0, e1, e2, e3]
    ·have hb : r < 0 ∨ (55296 ≤ r ∧ r ≤ 57343) ∨ 1114111 < r := by omega
     have hv : Utf8.valid r = false := by
      simp [Utf8.valid]
      constructor <;> intro <;> omega
     rw [Lib.encodeRune, Lib.encodeRuneZ_bad hb]
     simp [Utf8.encode, hv, Utf8.runeError]
end Go.Proofs.YtbioecifiogffaaGreatDoor
namespace Go.Proofs.YtbioecifiogffaaGreatDoor
open Go.RowKit
structure ComeL where
 text : List UInt8
 err : Nat
 n : Nat
 reads : Nat
def pieceOf (rest : List UInt8) : List Int → List UInt8
 | [] => rest
 | c :: _ => if c < 0 ∨ (rest.length : Int) < c then [] else rest.take c.toNat
def doneOf (wth : Bool) (rest : List UInt8) : List Int → Bool
 | [] => wth || rest.isEmpty
 | c :: cs => wth && (pieceOf rest (c :: cs)).length == rest.length && cs.isEmpty
def comeGo (failAt : Int) (wth : Bool) : Nat → Nat → List UInt8 → List UInt8 → Nat → List Int → ComeL
 | 0, k, _, _, _, _ => ⟨[], 0, 0, k⟩
 | f + 1, k, rest, all, idle, cuts =>
  if (k : Int) + 1 = failAt then ⟨[], 4, all.length, k + 1⟩
  else
   let p := pieceOf rest cuts
   let d := doneOf wth rest cuts
   let idle' := if p ≠ [] ∨ d = true then 0 else idle + 1
   if 300 < (all ++ p).length then ⟨[], 1, 0, k + 1⟩
   else if 2 < idle' then ⟨[], 2, 0, k + 1⟩
   else if d = true then ⟨regular ⟨(all ++ p).toArray⟩, 0, 0, k + 1⟩
   else comeGo failAt wth f (k + 1) (rest.drop p.length) (all ++ p) idle' cuts.tail
def comeL (text : List UInt8) (cuts : List Int) (failAt : Int) (wth : Bool) : ComeL := comeGo failAt wth (cuts.length + 2) 0 text [] 0 cuts
def fuelFor (f : Nat) (rest : List UInt8) (cuts : List Int) : Prop := cuts.length + 1 ≤ f ∧ (rest ≠ [] → cuts.length + 2 ≤ f)
theorem doneOf_cons (wth : Bool) (rest : List UInt8) (c : Int) (cs : List Int) : doneOf wth rest (c :: cs) = (wth && (pieceOf rest (c :: cs)).length == rest.length && cs.isEmpty) := rfl
theorem comeGo_succ (failAt : Int) (wth : Bool) (f k : Nat) (rest all : List UInt8) (idle : Nat) (cuts : List Int) :
 comeGo failAt wth (f + 1) k rest all idle cuts =
 if (k : Int) + 1 = failAt then ⟨[], 4, all.length, k + 1⟩
 else if 300 < (all ++ pieceOf rest cuts).length then ⟨[], 1, 0, k + 1⟩
  else if 2 < (if pieceOf rest cuts ≠ [] ∨ doneOf wth rest cuts = true then 0 else idle + 1) then ⟨[], 2, 0, k + 1⟩
  else if doneOf wth rest cuts = true then ⟨regular ⟨(all ++ pieceOf rest cuts).toArray⟩, 0, 0, k + 1⟩
  else comeGo failAt wth f (k + 1) (rest.drop (pieceOf rest cuts).length) (all ++ pieceOf rest cuts) (if pieceOf rest cuts ≠ [] ∨ doneOf wth rest cuts = true then 0 else idle + 1) cuts.tail := rfl
theorem fuelFor_start (text : List UInt8) (cuts : List Int) : fuelFor (cuts.length + 2) text cuts := ⟨by omega, fun _ => by omega⟩
theorem pieceOf_le (rest : List UInt8) (cuts : List Int) : (pieceOf rest cuts).length ≤ rest.length := by
 cases cuts with
 | nil => simp [pieceOf]
 | cons c cs =>
  simp only [pieceOf]
  split
  ·simp
  ·simp; omega
theorem fuelFor_step {f : Nat} {rest : List UInt8} {cuts : List Int} {wth : Bool} (h : fuelFor f rest cuts) (hd : doneOf wth rest cuts = false) :
 ∃ f', f = f' + 1 ∧ fuelFor f' (rest.drop (pieceOf rest cuts).length) cuts.tail := by
 obtain ⟨h1, h2⟩ := h
 refine ⟨f - 1, by omega, ?_⟩
 cases cuts with
 | nil =>
  simp only [doneOf, Bool.or_eq_false_iff] at hd
  have hne : rest ≠ [] := by intro e; rw [e] at hd; simp at hd
  have := h2 hne
  constructor
  ·simp at this ⊢; omega
  ·intro hh
   simp [pieceOf] at hh
 | cons c cs =>
  simp only [List.length_cons, List.tail_cons] at *
  refine ⟨by omega, fun hh => ?_⟩
  have : rest ≠ [] := by intro e; rw [e] at hh; simp at hh
  have := h2 this
  omega
end Go.Proofs.YtbioecifiogffaaGreatDoor
namespace Go.Proofs
open Go.Shelf
def Tryz.lays156_ren : Go.Shelf.Ren := ⟨fun | 156 => 144 | 165 => 130 | 166 => 101 | 169 => 102 | 240 => 115 | 241 => 159 | 276 => 126 | 277 => 188 | n => n, fun | 31 => 86 | 9 => 9 | 3 => 3 | 4 => 4 | 0 => 0 | 20 => 20 | 72 => 178 | 76 => 76 | 70 => 176 | 37 => 71 | 75 => 75 | 127 => 217 | 164 => 154 | 5 => 5 | 80 => 180 | n => n, fun | n => n⟩
theorem Tryz.lays156 : Go.Proofs.Lays.n156 Tryz.prog Tryz.lays156_ren := {
  mixed := by kernel_rfl
  f156 := Tryz.func144.trans (congrArg some (by kernel_rfl))
  f165 := Tryz.func130.trans (congrArg some (by kernel_rfl))
  f166 := Tryz.func101.trans (congrArg some (by kernel_rfl))
  f169 := Tryz.func102.trans (congrArg some (by kernel_rfl))
  f240 := Tryz.func115.trans (congrArg some (by kernel_rfl))
  f241 := Tryz.func159.trans (congrArg some (by kernel_rfl))
  f276 := Tryz.func126.trans (congrArg some (by kernel_rfl))
  f277 := Tryz.func188.trans (congrArg some (by kernel_rfl))
  t0 := Tryz.underlying0
  a0 := Tryz.isAgg0
  z0 := Tryz.sizeOf0
  v0 := Tryz.zeroValue0
  t3 := Tryz.underlying3
  a3 := Tryz.isAgg3
  z3 := Tryz.sizeOf3
  v3 := Tryz.zeroValue3
  t4 := Tryz.underlying4
  a4 := Tryz.isAgg4
  z4 := Tryz.sizeOf4
  v4 := Tryz.zeroValue4
  t9 := Tryz.underlying9
  a9 := Tryz.isAgg9
  z9 := Tryz.sizeOf9
  v9 := Tryz.zeroValue9
  t20 := Tryz.underlying20
  a20 := Tryz.isAgg20
  z20 := Tryz.sizeOf20
  v20 := Tryz.zeroValue20
  t31 := Tryz.underlying86
  a31 := Tryz.isAgg86
  z31 := Tryz.sizeOf86
  v31 := Tryz.zeroValue86
  t37 := Tryz.underlying71
  a37 := Tryz.isAgg71
  z37 := Tryz.sizeOf71
  v37 := Tryz.zeroValue71
  t70 := Tryz.underlying176
  a70 := Tryz.isAgg176
  z70 := Tryz.sizeOf176
  v70 := Tryz.zeroValue176
  t72 := Tryz.underlying178
  a72 := Tryz.isAgg178
  z72 := Tryz.sizeOf178
  v72 := Tryz.zeroValue178
  t75 := Tryz.underlying75
  a75 := Tryz.isAgg75
  z75 := Tryz.sizeOf75
  v75 := Tryz.zeroValue75
  t76 := Tryz.underlying76
  a76 := Tryz.isAgg76
  z76 := Tryz.sizeOf76
  v76 := Tryz.zeroValue76
  t127 := Tryz.underlying217
  a127 := Tryz.isAgg217
  z127 := Tryz.sizeOf217
  v127 := Tryz.zeroValue217
  t164 := Tryz.underlying154
  a164 := Tryz.isAgg154
  z164 := Tryz.sizeOf154
  v164 := Tryz.zeroValue154 }
theorem Tryz.Builder_Extra_156 : Builder.Extra Tryz.prog Tryz.lays156_ren := {
  sizeBuilder := by kernel_rfl
  liesBuilder := by kernel_rfl
  t5 := Tryz.underlying5
  a5 := Tryz.isAgg5
  z5 := Tryz.sizeOf5
  v5 := Tryz.zeroValue5
  infoByte := by kernel_rfl
  cellsByte := by kernel_rfl
  sizeByte := by kernel_rfl
  neB5 := by decide }
open Go.RowKit in
theorem Tryz.strings_Join_none (a : Option Addr) (c : Nat) (sep : ByteArray) (w : World) :
 Calls Tryz.prog 144 #[.slice a 0 c, .string sep] w fun e w' => e = .returned (.string ⟨#[]⟩) ∧ w' = w := Any.strings_Join_none Tryz.lays156 Tryz.Builder_Extra_156 a c sep w
open Go.RowKit in
theorem Tryz.strings_Join (bk o c : Nat) (xs : List ByteArray) (sep : ByteArray) (w : World) (hcells : ∀ (j : Nat) x, xs[j]? = some x → w.cell? ⟨bk, o + j, none⟩ = some (.string x)) (hbk : bk < w.heap.size) (hN : xs.length ≤ 140737488355328) (hcap : xs.length ≤ c) (hlen : (Lib.join (xs.map (·.data.toList)) sep.data.toList).length ≤ 140737488355328) :
 Calls Tryz.prog 144 #[.slice (some ⟨bk, o, none⟩) xs.length c, .string sep] w fun e w' => e = .returned (.string ⟨(Lib.join (xs.map (·.data.toList)) sep.data.toList).toArray⟩) ∧ Below w.heap.size w w' := Any.strings_Join Tryz.lays156 Tryz.Builder_Extra_156 bk o c xs sep w hcells hbk hN hcap hlen
def Tryz.lays161_ren : Go.Shelf.Ren := ⟨fun | 161 => 172 | 231 => 162 | 227 => 164 | 233 => 165 | 235 => 167 | 228 => 192 | 197 => 132 | 151 => 193 | 260 => 161 | 152 => 199 | 137 => 106 | 119 => 205 | 224 => 190 | 225 => 189 | 217 => 117 | 266 => 128 | n => n, fun | 9 => 9 | 4 => 4 | 3 => 3 | 5 => 5 | 117 => 256 | 116 => 255 | 0 => 0 | 124 => 259 | 105 => 232 | 21 => 21 | 119 => 271 | 46 => 188 | 139 => 274 | 138 => 273 | n => n, fun | 3 => 6 | 4 => 7 | n => n⟩
theorem Tryz.lays161 : Go.Proofs.Lays.n161 Tryz.prog Tryz.lays161_ren := {
  mixed := by kernel_rfl
  f119 := Tryz.func205.trans (congrArg some (by kernel_rfl))
  f137 := Tryz.func106.trans (congrArg some (by kernel_rfl))
  f151 := Tryz.func193.trans (congrArg some (by kernel_rfl))
  f152 := Tryz.func199.trans (congrArg some (by kernel_rfl))
  f161 := Tryz.func172.trans (congrArg some (by kernel_rfl))
  f197 := Tryz.func132.trans (congrArg some (by kernel_rfl))
  f217 := Tryz.func117.trans (congrArg some (by kernel_rfl))
  f224 := Tryz.func190.trans (congrArg some (by kernel_rfl))
  f225 := Tryz.func189.trans (congrArg some (by kernel_rfl))
  f227 := Tryz.func164.trans (congrArg some (by kernel_rfl))
  f228 := Tryz.func192.trans (congrArg some (by kernel_rfl))
  f231 := Tryz.func162.trans (congrArg some (by kernel_rfl))
  f233 := Tryz.func165.trans (congrArg some (by kernel_rfl))
  f235 := Tryz.func167.trans (congrArg some (by kernel_rfl))
  f260 := Tryz.func161.trans (congrArg some (by kernel_rfl))
  f266 := Tryz.func128.trans (congrArg some (by kernel_rfl))
  t0 := Tryz.underlying0
  a0 := Tryz.isAgg0
  z0 := Tryz.sizeOf0
  v0 := Tryz.zeroValue0
  t3 := Tryz.underlying3
  a3 := Tryz.isAgg3
  z3 := Tryz.sizeOf3
  v3 := Tryz.zeroValue3
  t4 := Tryz.underlying4
  a4 := Tryz.isAgg4
  z4 := Tryz.sizeOf4
  v4 := Tryz.zeroValue4
  t5 := Tryz.underlying5
  a5 := Tryz.isAgg5
  z5 := Tryz.sizeOf5
  v5 := Tryz.zeroValue5
  t9 := Tryz.underlying9
  a9 := Tryz.isAgg9
  z9 := Tryz.sizeOf9
  v9 := Tryz.zeroValue9
  t21 := Tryz.underlying21
  a21 := Tryz.isAgg21
  z21 := Tryz.sizeOf21
  v21 := Tryz.zeroValue21
  t46 := Tryz.underlying188
  a46 := Tryz.isAgg188
  z46 := Tryz.sizeOf188
  v46 := Tryz.zeroValue188
  t105 := Tryz.underlying232
  a105 := Tryz.isAgg232
  z105 := Tryz.sizeOf232
  v105 := Tryz.zeroValue232
  t116 := Tryz.underlying255
  a116 := Tryz.isAgg255
  z116 := Tryz.sizeOf255
  t117 := Tryz.underlying256
  a117 := Tryz.isAgg256
  z117 := Tryz.sizeOf256
  v117 := Tryz.zeroValue256
  t119 := Tryz.underlying271
  a119 := Tryz.isAgg271
  z119 := Tryz.sizeOf271
  t124 := Tryz.underlying259
  a124 := Tryz.isAgg259
  z124 := Tryz.sizeOf259
  v124 := Tryz.zeroValue259
  t138 := Tryz.underlying273
  a138 := Tryz.isAgg273
  z138 := Tryz.sizeOf273
  v138 := Tryz.zeroValue273
  t139 := Tryz.underlying274
  a139 := Tryz.isAgg274
  z139 := Tryz.sizeOf274
  v139 := Tryz.zeroValue274
  g3 := by kernel_rfl
  g4 := by kernel_rfl }
open Go.RowKit in
theorem Tryz.strings_TrimLeft_one (s : ByteArray) (c : UInt8) (hc : c.toNat < 128) (w : World) :
 Calls Tryz.prog 172 #[.string s, .string ⟨#[c]⟩] w fun e w' => e = .returned (.string ⟨(Lib.trimLeftB s.data.toList c).toArray⟩) ∧ w' = w := Any.strings_TrimLeft_one Tryz.lays161 s c hc w
def Tryz.lays160_ren : Go.Shelf.Ren := ⟨fun | 160 => 133 | 232 => 163 | 231 => 162 | 227 => 164 | 234 => 166 | 233 => 165 | 236 => 168 | 235 => 167 | 228 => 192 | 271 => 194 | 151 => 193 | 197 => 132 | 120 => 204 | 152 => 199 | 260 => 161 | 137 => 106 | 119 => 205 | 224 => 190 | 225 => 189 | 217 => 117 | 266 => 128 | n => n, fun | 9 => 9 | 4 => 4 | 3 => 3 | 5 => 5 | 117 => 256 | 116 => 255 | 0 => 0 | 124 => 259 | 21 => 21 | 105 => 232 | 46 => 188 | 119 => 271 | 139 => 274 | 138 => 273 | n => n, fun | 3 => 6 | 4 => 7 | n => n⟩
theorem Tryz.lays160 : Go.Proofs.Lays.n160 Tryz.prog Tryz.lays160_ren := {
  mixed := by kernel_rfl
  f119 := Tryz.func205.trans (congrArg some (by kernel_rfl))
  f120 := Tryz.func204.trans (congrArg some (by kernel_rfl))
  f137 := Tryz.func106.trans (congrArg some (by kernel_rfl))
  f151 := Tryz.func193.trans (congrArg some (by kernel_rfl))
  f152 := Tryz.func199.trans (congrArg some (by kernel_rfl))
  f160 := Tryz.func133.trans (congrArg some (by kernel_rfl))
  f197 := Tryz.func132.trans (congrArg some (by kernel_rfl))
  f217 := Tryz.func117.trans (congrArg some (by kernel_rfl))
  f224 := Tryz.func190.trans (congrArg some (by kernel_rfl))
  f225 := Tryz.func189.trans (congrArg some (by kernel_rfl))
  f227 := Tryz.func164.trans (congrArg some (by kernel_rfl))
  f228 := Tryz.func192.trans (congrArg some (by kernel_rfl))
  f231 := Tryz.func162.trans (congrArg some (by kernel_rfl))
  f232 := Tryz.func163.trans (congrArg some (by kernel_rfl))
  f233 := Tryz.func165.trans (congrArg some (by kernel_rfl))
  f234 := Tryz.func166.trans (congrArg some (by kernel_rfl))
  f235 := Tryz.func167.trans (congrArg some (by kernel_rfl))
  f236 := Tryz.func168.trans (congrArg some (by kernel_rfl))
  f260 := Tryz.func161.trans (congrArg some (by kernel_rfl))
  f266 := Tryz.func128.trans (congrArg some (by kernel_rfl))
  f271 := Tryz.func194.trans (congrArg some (by kernel_rfl))
  t0 := Tryz.underlying0
  a0 := Tryz.isAgg0
  z0 := Tryz.sizeOf0
  v0 := Tryz.zeroValue0
  t3 := Tryz.underlying3
  a3 := Tryz.isAgg3
  z3 := Tryz.sizeOf3
  v3 := Tryz.zeroValue3
  t4 := Tryz.underlying4
  a4 := Tryz.isAgg4
  z4 := Tryz.sizeOf4
  v4 := Tryz.zeroValue4
  t5 := Tryz.underlying5
  a5 := Tryz.isAgg5
  z5 := Tryz.sizeOf5
  v5 := Tryz.zeroValue5
  t9 := Tryz.underlying9
  a9 := Tryz.isAgg9
  z9 := Tryz.sizeOf9
  v9 := Tryz.zeroValue9
  t21 := Tryz.underlying21
  a21 := Tryz.isAgg21
  z21 := Tryz.sizeOf21
  v21 := Tryz.zeroValue21
  t46 := Tryz.underlying188
  a46 := Tryz.isAgg188
  z46 := Tryz.sizeOf188
  v46 := Tryz.zeroValue188
  t105 := Tryz.underlying232
  a105 := Tryz.isAgg232
  z105 := Tryz.sizeOf232
  v105 := Tryz.zeroValue232
  t116 := Tryz.underlying255
  a116 := Tryz.isAgg255
  z116 := Tryz.sizeOf255
  t117 := Tryz.underlying256
  a117 := Tryz.isAgg256
  z117 := Tryz.sizeOf256
  v117 := Tryz.zeroValue256
  t119 := Tryz.underlying271
  a119 := Tryz.isAgg271
  z119 := Tryz.sizeOf271
  t124 := Tryz.underlying259
  a124 := Tryz.isAgg259
  z124 := Tryz.sizeOf259
  v124 := Tryz.zeroValue259
  t138 := Tryz.underlying273
  a138 := Tryz.isAgg273
  z138 := Tryz.sizeOf273
  v138 := Tryz.zeroValue273
  t139 := Tryz.underlying274
  a139 := Tryz.isAgg274
  z139 := Tryz.sizeOf274
  v139 := Tryz.zeroValue274
  g3 := by kernel_rfl
  g4 := by kernel_rfl }
def Tryz.lays119_ren : Go.Shelf.Ren := ⟨fun | 119 => 205 | n => n, fun | 21 => 21 | 4 => 4 | n => n, fun | n => n⟩
theorem Tryz.lays119 : Go.Proofs.Lays.n119 Tryz.prog Tryz.lays119_ren := {
  mixed := by kernel_rfl
  f119 := Tryz.func205.trans (congrArg some (by kernel_rfl))
  t4 := Tryz.underlying4
  a4 := Tryz.isAgg4
  z4 := Tryz.sizeOf4
  v4 := Tryz.zeroValue4
  t21 := Tryz.underlying21
  a21 := Tryz.isAgg21
  z21 := Tryz.sizeOf21
  v21 := Tryz.zeroValue21 }
theorem Tryz.utf8_ValidRune (r : Int) (w : World) :
 Calls Tryz.prog 205 #[.int .i32 r] w fun e w' => e = .returned (.bool (Lib.validRune r)) ∧ w' = w := Any.utf8_ValidRune Tryz.lays119 r w
def Tryz.lays137_ren : Go.Shelf.Ren := ⟨fun | 137 => 106 | 217 => 117 | 266 => 128 | n => n, fun | 9 => 9 | 5 => 5 | 3 => 3 | n => n, fun | n => n⟩
theorem Tryz.lays137 : Go.Proofs.Lays.n137 Tryz.prog Tryz.lays137_ren := {
  mixed := by kernel_rfl
  f137 := Tryz.func106.trans (congrArg some (by kernel_rfl))
  f217 := Tryz.func117.trans (congrArg some (by kernel_rfl))
  f266 := Tryz.func128.trans (congrArg some (by kernel_rfl))
  t3 := Tryz.underlying3
  a3 := Tryz.isAgg3
  z3 := Tryz.sizeOf3
  v3 := Tryz.zeroValue3
  t5 := Tryz.underlying5
  a5 := Tryz.isAgg5
  z5 := Tryz.sizeOf5
  v5 := Tryz.zeroValue5
  t9 := Tryz.underlying9
  a9 := Tryz.isAgg9
  z9 := Tryz.sizeOf9
  v9 := Tryz.zeroValue9 }
open Go.RowKit in
theorem Tryz.strings_IndexByte (s : ByteArray) (c : Int) (w : World) :
 Calls Tryz.prog 106 #[.string s, .int .u8 c] w fun e w' => e = .returned (.int .i64 (Lib.indexByte s.data.toList c.toNat.toUInt8)) ∧ w' = w := Any.strings_IndexByte Tryz.lays137 s c w
def Tryz.lays103_ren : Go.Shelf.Ren := ⟨fun | 103 => 170 | 210 => 195 | 206 => 169 | n => n, fun | 9 => 9 | 4 => 4 | 24 => 152 | 3 => 3 | n => n, fun | n => n⟩
theorem Tryz.lays103 : Go.Proofs.Lays.n103 Tryz.prog Tryz.lays103_ren := {
  mixed := by kernel_rfl
  f103 := Tryz.func170.trans (congrArg some (by kernel_rfl))
  f206 := Tryz.func169.trans (congrArg some (by kernel_rfl))
  f210 := Tryz.func195.trans (congrArg some (by kernel_rfl))
  t3 := Tryz.underlying3
  a3 := Tryz.isAgg3
  z3 := Tryz.sizeOf3
  v3 := Tryz.zeroValue3
  t4 := Tryz.underlying4
  a4 := Tryz.isAgg4
  z4 := Tryz.sizeOf4
  v4 := Tryz.zeroValue4
  t9 := Tryz.underlying9
  a9 := Tryz.isAgg9
  z9 := Tryz.sizeOf9
  v9 := Tryz.zeroValue9
  t24 := Tryz.underlying152
  a24 := Tryz.isAgg152
  z24 := Tryz.sizeOf152
  v24 := Tryz.zeroValue152 }
open Go.RowKit in
theorem Tryz.strings_CutPrefix (s p : ByteArray) (w : World) :
 Calls Tryz.prog 170 #[.string s, .string p] w fun e w' => e = .returned (.tuple #[.string ⟨(Lib.trimPrefix s.data.toList p.data.toList).toArray⟩, .bool (Lib.hasPrefix s.data.toList p.data.toList)]) ∧ w' = w := Any.strings_CutPrefix Tryz.lays103 s p w
def Tryz.lays242_ren : Go.Shelf.Ren := ⟨fun | 242 => 123 | 278 => 146 | n => n, fun | 37 => 71 | 21 => 21 | 51 => 242 | 4 => 4 | 5 => 5 | 46 => 188 | n => n, fun | n => n⟩
theorem Tryz.lays242 : Go.Proofs.Lays.n242 Tryz.prog Tryz.lays242_ren := {
  mixed := by kernel_rfl
  f242 := Tryz.func123.trans (congrArg some (by kernel_rfl))
  f278 := Tryz.func146.trans (congrArg some (by kernel_rfl))
  t4 := Tryz.underlying4
  a4 := Tryz.isAgg4
  z4 := Tryz.sizeOf4
  v4 := Tryz.zeroValue4
  t5 := Tryz.underlying5
  a5 := Tryz.isAgg5
  z5 := Tryz.sizeOf5
  v5 := Tryz.zeroValue5
  t21 := Tryz.underlying21
  a21 := Tryz.isAgg21
  z21 := Tryz.sizeOf21
  v21 := Tryz.zeroValue21
  t37 := Tryz.underlying71
  a37 := Tryz.isAgg71
  z37 := Tryz.sizeOf71
  v37 := Tryz.zeroValue71
  t46 := Tryz.underlying188
  a46 := Tryz.isAgg188
  z46 := Tryz.sizeOf188
  v46 := Tryz.zeroValue188
  t51 := Tryz.underlying242
  a51 := Tryz.isAgg242
  z51 := Tryz.sizeOf242
  v51 := Tryz.zeroValue242 }
open Go.RowKit in
theorem Tryz.utf8_AppendRune_plain (B : Nat) (v : Value) (n : Nat) (xs : List Value) (r : Int) (hr0 : -2147483648 ≤ r) (hr1 : r ≤ 2147483647) (w : World) (hown : w.ownsRow B 5 1 v n xs) (hlen : n + 4 ≤ 140737488355328) (hBw : B ≤ w.heap.size) :
 Calls Tryz.prog 123 #[v, .int .i32 r] w fun e w' => ∃ v', e = .returned v' ∧ w'.ownsRow B 5 1 v' (n + (Lib.runeCells r).length) (xs ++ Lib.runeCells r) ∧ ∃ o, (w.alloc o).grownBy w' v.ownBlock := Any.utf8_AppendRune_plain Tryz.lays242 (by kernel_rfl) B v n xs r hr0 hr1 w hown hlen hBw
def Tryz.lays171_ren : Go.Shelf.Ren := ⟨fun | 171 => 105 | 243 => 116 | 246 => 127 | 283 => 153 | 284 => 154 | 285 => 155 | 286 => 156 | 129 => 184 | 317 => 183 | 318 => 185 | 319 => 186 | 320 => 187 | 337 => 201 | 338 => 202 | n => n, fun | 3 => 3 | 9 => 9 | 2 => 2 | 4 => 4 | 171 => 247 | 0 => 0 | 53 => 248 | 37 => 71 | 5 => 5 | 173 => 251 | 212 => 266 | 51 => 242 | 20 => 20 | 213 => 267 | 46 => 188 | 232 => 281 | 233 => 282 | n => n, fun | 17 => 5 | 18 => 8 | 19 => 9 | n => n⟩
theorem Tryz.lays171 : Go.Proofs.Lays.n171 Tryz.prog Tryz.lays171_ren := {
  mixed := by kernel_rfl
  f129 := Tryz.func184.trans (congrArg some (by kernel_rfl))
  f171 := Tryz.func105.trans (congrArg some (by kernel_rfl))
  f243 := Tryz.func116.trans (congrArg some (by kernel_rfl))
  f246 := Tryz.func127.trans (congrArg some (by kernel_rfl))
  f283 := Tryz.func153.trans (congrArg some (by kernel_rfl))
  f284 := Tryz.func154.trans (congrArg some (by kernel_rfl))
  f285 := Tryz.func155.trans (congrArg some (by kernel_rfl))
  f286 := Tryz.func156.trans (congrArg some (by kernel_rfl))
  f317 := Tryz.func183.trans (congrArg some (by kernel_rfl))
  f318 := Tryz.func185.trans (congrArg some (by kernel_rfl))
  f319 := Tryz.func186.trans (congrArg some (by kernel_rfl))
  f320 := Tryz.func187.trans (congrArg some (by kernel_rfl))
  f337 := Tryz.func201.trans (congrArg some (by kernel_rfl))
  f338 := Tryz.func202.trans (congrArg some (by kernel_rfl))
  t0 := Tryz.underlying0
  a0 := Tryz.isAgg0
  z0 := Tryz.sizeOf0
  v0 := Tryz.zeroValue0
  t2 := Tryz.underlying2
  a2 := Tryz.isAgg2
  z2 := Tryz.sizeOf2
  v2 := Tryz.zeroValue2
  t3 := Tryz.underlying3
  a3 := Tryz.isAgg3
  z3 := Tryz.sizeOf3
  v3 := Tryz.zeroValue3
  t4 := Tryz.underlying4
  a4 := Tryz.isAgg4
  z4 := Tryz.sizeOf4
  v4 := Tryz.zeroValue4
  t5 := Tryz.underlying5
  a5 := Tryz.isAgg5
  z5 := Tryz.sizeOf5
  v5 := Tryz.zeroValue5
  t9 := Tryz.underlying9
  a9 := Tryz.isAgg9
  z9 := Tryz.sizeOf9
  v9 := Tryz.zeroValue9
  t20 := Tryz.underlying20
  a20 := Tryz.isAgg20
  z20 := Tryz.sizeOf20
  v20 := Tryz.zeroValue20
  t37 := Tryz.underlying71
  a37 := Tryz.isAgg71
  z37 := Tryz.sizeOf71
  v37 := Tryz.zeroValue71
  t46 := Tryz.underlying188
  a46 := Tryz.isAgg188
  z46 := Tryz.sizeOf188
  v46 := Tryz.zeroValue188
  t51 := Tryz.underlying242
  a51 := Tryz.isAgg242
  z51 := Tryz.sizeOf242
  v51 := Tryz.zeroValue242
  t53 := Tryz.underlying248
  a53 := Tryz.isAgg248
  z53 := Tryz.sizeOf248
  v53 := Tryz.zeroValue248
  t171 := Tryz.underlying247
  a171 := Tryz.isAgg247
  z171 := Tryz.sizeOf247
  v171 := Tryz.zeroValue247
  t173 := Tryz.underlying251
  a173 := Tryz.isAgg251
  z173 := Tryz.sizeOf251
  v173 := Tryz.zeroValue251
  t212 := Tryz.underlying266
  a212 := Tryz.isAgg266
  z212 := Tryz.sizeOf266
  v212 := Tryz.zeroValue266
  t213 := Tryz.underlying267
  a213 := Tryz.isAgg267
  z213 := Tryz.sizeOf267
  t232 := Tryz.underlying281
  a232 := Tryz.isAgg281
  z232 := Tryz.sizeOf281
  v232 := Tryz.zeroValue281
  t233 := Tryz.underlying282
  a233 := Tryz.isAgg282
  z233 := Tryz.sizeOf282
  v233 := Tryz.zeroValue282
  g17 := by kernel_rfl
  g18 := by kernel_rfl
  g19 := by kernel_rfl }
open Go.RowKit Go.Sort Go.Lib in
theorem Tryz.strconv_Itoa_small (i : Nat) (hi : i < 100) (w : World) :
 Calls Tryz.prog 105 #[.int .i64 i] w fun e w' => e = .returned (.string ⟨(Lib.decDigits i).toArray⟩) ∧ w' = w := Any.strconv_Itoa_small Tryz.lays171 i hi w
def Tryz.lays144_ren : Go.Shelf.Ren := ⟨fun | 144 => 181 | 143 => 131 | 219 => 160 | 217 => 117 | 225 => 189 | 224 => 190 | 267 => 191 | 266 => 128 | 314 => 203 | n => n, fun | 9 => 9 | 4 => 4 | 3 => 3 | 5 => 5 | 46 => 188 | 146 => 278 | 51 => 242 | n => n, fun | 1 => 4 | n => n⟩
theorem Tryz.lays144 : Go.Proofs.Lays.n144 Tryz.prog Tryz.lays144_ren := {
  mixed := by kernel_rfl
  f143 := Tryz.func131.trans (congrArg some (by kernel_rfl))
  f144 := Tryz.func181.trans (congrArg some (by kernel_rfl))
  f217 := Tryz.func117.trans (congrArg some (by kernel_rfl))
  f219 := Tryz.func160.trans (congrArg some (by kernel_rfl))
  f224 := Tryz.func190.trans (congrArg some (by kernel_rfl))
  f225 := Tryz.func189.trans (congrArg some (by kernel_rfl))
  f266 := Tryz.func128.trans (congrArg some (by kernel_rfl))
  f267 := Tryz.func191.trans (congrArg some (by kernel_rfl))
  f314 := Tryz.func203.trans (congrArg some (by kernel_rfl))
  t3 := Tryz.underlying3
  a3 := Tryz.isAgg3
  z3 := Tryz.sizeOf3
  v3 := Tryz.zeroValue3
  t4 := Tryz.underlying4
  a4 := Tryz.isAgg4
  z4 := Tryz.sizeOf4
  v4 := Tryz.zeroValue4
  t5 := Tryz.underlying5
  a5 := Tryz.isAgg5
  z5 := Tryz.sizeOf5
  v5 := Tryz.zeroValue5
  t9 := Tryz.underlying9
  a9 := Tryz.isAgg9
  z9 := Tryz.sizeOf9
  v9 := Tryz.zeroValue9
  t46 := Tryz.underlying188
  a46 := Tryz.isAgg188
  z46 := Tryz.sizeOf188
  v46 := Tryz.zeroValue188
  t51 := Tryz.underlying242
  a51 := Tryz.isAgg242
  z51 := Tryz.sizeOf242
  v51 := Tryz.zeroValue242
  t146 := Tryz.underlying278
  a146 := Tryz.isAgg278
  z146 := Tryz.sizeOf278
  v146 := Tryz.zeroValue278
  g1 := by kernel_rfl }
open Go.RowKit Go.Lib in
theorem Tryz.strings_Contains_one (s : ByteArray) (c : UInt8) (w : World) :
 Calls Tryz.prog 181 #[.string s, .string ⟨#[c]⟩] w fun e w' => e = .returned (.bool (decide (0 ≤ Lib.indexByte s.data.toList c))) ∧ w' = w := Any.strings_Contains_one Tryz.lays144 s c w
def Tryz.lays145_ren : Go.Shelf.Ren := ⟨fun | 145 => 149 | 220 => 180 | 219 => 160 | 217 => 117 | 225 => 189 | 224 => 190 | 267 => 191 | 266 => 128 | 314 => 203 | n => n, fun | 9 => 9 | 4 => 4 | 59 => 244 | 3 => 3 | 5 => 5 | 46 => 188 | 146 => 278 | 51 => 242 | n => n, fun | 1 => 4 | n => n⟩
theorem Tryz.lays145 : Go.Proofs.Lays.n145 Tryz.prog Tryz.lays145_ren := {
  mixed := by kernel_rfl
  f145 := Tryz.func149.trans (congrArg some (by kernel_rfl))
  f217 := Tryz.func117.trans (congrArg some (by kernel_rfl))
  f219 := Tryz.func160.trans (congrArg some (by kernel_rfl))
  f220 := Tryz.func180.trans (congrArg some (by kernel_rfl))
  f224 := Tryz.func190.trans (congrArg some (by kernel_rfl))
  f225 := Tryz.func189.trans (congrArg some (by kernel_rfl))
  f266 := Tryz.func128.trans (congrArg some (by kernel_rfl))
  f267 := Tryz.func191.trans (congrArg some (by kernel_rfl))
  f314 := Tryz.func203.trans (congrArg some (by kernel_rfl))
  t3 := Tryz.underlying3
  a3 := Tryz.isAgg3
  z3 := Tryz.sizeOf3
  v3 := Tryz.zeroValue3
  t4 := Tryz.underlying4
  a4 := Tryz.isAgg4
  z4 := Tryz.sizeOf4
  v4 := Tryz.zeroValue4
  t5 := Tryz.underlying5
  a5 := Tryz.isAgg5
  z5 := Tryz.sizeOf5
  v5 := Tryz.zeroValue5
  t9 := Tryz.underlying9
  a9 := Tryz.isAgg9
  z9 := Tryz.sizeOf9
  v9 := Tryz.zeroValue9
  t46 := Tryz.underlying188
  a46 := Tryz.isAgg188
  z46 := Tryz.sizeOf188
  v46 := Tryz.zeroValue188
  t51 := Tryz.underlying242
  a51 := Tryz.isAgg242
  z51 := Tryz.sizeOf242
  v51 := Tryz.zeroValue242
  t59 := Tryz.underlying244
  a59 := Tryz.isAgg244
  z59 := Tryz.sizeOf244
  v59 := Tryz.zeroValue244
  t146 := Tryz.underlying278
  a146 := Tryz.isAgg278
  z146 := Tryz.sizeOf278
  v146 := Tryz.zeroValue278
  g1 := by kernel_rfl }
open Go.RowKit Go.Lib in
theorem Tryz.strings_Cut (s sep : ByteArray) (m : Int) (w : World) (hs : s.size < 4294967281) (hm : w.cell? ⟨4, 0, none⟩ = some (.int .i64 m)) :
 Calls Tryz.prog 149 #[.string s, .string sep] w fun e w' => e = .returned (.tuple #[.string ⟨(Lib.cut s.data.toList sep.data.toList).1.toArray⟩, .string ⟨(Lib.cut s.data.toList sep.data.toList).2.1.toArray⟩, .bool (Lib.cut s.data.toList sep.data.toList).2.2]) ∧ ∃ n, w' = w.drewN n := Any.strings_Cut Tryz.lays145 s sep m w hs hm
def Tryz.lays99_ren : Go.Shelf.Ren := ⟨fun | 99 => 134 | 206 => 169 | n => n, fun | 9 => 9 | 4 => 4 | 3 => 3 | n => n, fun | n => n⟩
theorem Tryz.lays99 : Go.Proofs.Lays.n99 Tryz.prog Tryz.lays99_ren := {
  mixed := by kernel_rfl
  f99 := Tryz.func134.trans (congrArg some (by kernel_rfl))
  f206 := Tryz.func169.trans (congrArg some (by kernel_rfl))
  t3 := Tryz.underlying3
  a3 := Tryz.isAgg3
  z3 := Tryz.sizeOf3
  v3 := Tryz.zeroValue3
  t4 := Tryz.underlying4
  a4 := Tryz.isAgg4
  z4 := Tryz.sizeOf4
  v4 := Tryz.zeroValue4
  t9 := Tryz.underlying9
  a9 := Tryz.isAgg9
  z9 := Tryz.sizeOf9
  v9 := Tryz.zeroValue9 }
open Go.RowKit Go.Lib in
theorem Tryz.strings_HasPrefix (s p : ByteArray) (w : World) :
 Calls Tryz.prog 134 #[.string s, .string p] w fun e w' => e = .returned (.bool (Lib.hasPrefix s.data.toList p.data.toList)) ∧ w' = w := Any.strings_HasPrefix Tryz.lays99 s p w
def Tryz.lays101_ren : Go.Shelf.Ren := ⟨fun | 101 => 174 | 208 => 196 | 206 => 169 | n => n, fun | 9 => 9 | 4 => 4 | 3 => 3 | n => n, fun | n => n⟩
theorem Tryz.lays101 : Go.Proofs.Lays.n101 Tryz.prog Tryz.lays101_ren := {
  mixed := by kernel_rfl
  f101 := Tryz.func174.trans (congrArg some (by kernel_rfl))
  f206 := Tryz.func169.trans (congrArg some (by kernel_rfl))
  f208 := Tryz.func196.trans (congrArg some (by kernel_rfl))
  t3 := Tryz.underlying3
  a3 := Tryz.isAgg3
  z3 := Tryz.sizeOf3
  v3 := Tryz.zeroValue3
  t4 := Tryz.underlying4
  a4 := Tryz.isAgg4
  z4 := Tryz.sizeOf4
  v4 := Tryz.zeroValue4
  t9 := Tryz.underlying9
  a9 := Tryz.isAgg9
  z9 := Tryz.sizeOf9
  v9 := Tryz.zeroValue9 }
open Go.RowKit Go.Lib in
theorem Tryz.strings_TrimPrefix (s p : ByteArray) (w : World) :
 Calls Tryz.prog 174 #[.string s, .string p] w fun e w' => e = .returned (.string ⟨(Lib.trimPrefix s.data.toList p.data.toList).toArray⟩) ∧ w' = w := Any.strings_TrimPrefix Tryz.lays101 s p w
def Tryz.lays146_ren : Go.Shelf.Ren := ⟨fun | 146 => 122 | 221 => 145 | 268 => 179 | 138 => 129 | 143 => 131 | 195 => 157 | 197 => 132 | 218 => 158 | 219 => 160 | 260 => 161 | 217 => 117 | 225 => 189 | 224 => 190 | 267 => 191 | 266 => 128 | 314 => 203 | n => n, fun | 9 => 9 | 31 => 86 | 3 => 3 | 4 => 4 | 0 => 0 | 105 => 232 | 21 => 21 | 5 => 5 | 46 => 188 | 119 => 271 | 139 => 274 | 138 => 273 | 146 => 278 | 51 => 242 | n => n, fun | 1 => 4 | 3 => 6 | 4 => 7 | n => n⟩
theorem Tryz.lays146 : Go.Proofs.Lays.n146 Tryz.prog Tryz.lays146_ren := {
  mixed := by kernel_rfl
  f138 := Tryz.func129.trans (congrArg some (by kernel_rfl))
  f143 := Tryz.func131.trans (congrArg some (by kernel_rfl))
  f146 := Tryz.func122.trans (congrArg some (by kernel_rfl))
  f195 := Tryz.func157.trans (congrArg some (by kernel_rfl))
  f197 := Tryz.func132.trans (congrArg some (by kernel_rfl))
  f217 := Tryz.func117.trans (congrArg some (by kernel_rfl))
  f218 := Tryz.func158.trans (congrArg some (by kernel_rfl))
  f219 := Tryz.func160.trans (congrArg some (by kernel_rfl))
  f221 := Tryz.func145.trans (congrArg some (by kernel_rfl))
  f224 := Tryz.func190.trans (congrArg some (by kernel_rfl))
  f225 := Tryz.func189.trans (congrArg some (by kernel_rfl))
  f260 := Tryz.func161.trans (congrArg some (by kernel_rfl))
  f266 := Tryz.func128.trans (congrArg some (by kernel_rfl))
  f267 := Tryz.func191.trans (congrArg some (by kernel_rfl))
  f268 := Tryz.func179.trans (congrArg some (by kernel_rfl))
  f314 := Tryz.func203.trans (congrArg some (by kernel_rfl))
  t0 := Tryz.underlying0
  a0 := Tryz.isAgg0
  z0 := Tryz.sizeOf0
  v0 := Tryz.zeroValue0
  t3 := Tryz.underlying3
  a3 := Tryz.isAgg3
  z3 := Tryz.sizeOf3
  v3 := Tryz.zeroValue3
  t4 := Tryz.underlying4
  a4 := Tryz.isAgg4
  z4 := Tryz.sizeOf4
  v4 := Tryz.zeroValue4
  t5 := Tryz.underlying5
  a5 := Tryz.isAgg5
  z5 := Tryz.sizeOf5
  v5 := Tryz.zeroValue5
  t9 := Tryz.underlying9
  a9 := Tryz.isAgg9
  z9 := Tryz.sizeOf9
  v9 := Tryz.zeroValue9
  t21 := Tryz.underlying21
  a21 := Tryz.isAgg21
  z21 := Tryz.sizeOf21
  v21 := Tryz.zeroValue21
  t31 := Tryz.underlying86
  a31 := Tryz.isAgg86
  z31 := Tryz.sizeOf86
  v31 := Tryz.zeroValue86
  t46 := Tryz.underlying188
  a46 := Tryz.isAgg188
  z46 := Tryz.sizeOf188
  v46 := Tryz.zeroValue188
  t51 := Tryz.underlying242
  a51 := Tryz.isAgg242
  z51 := Tryz.sizeOf242
  v51 := Tryz.zeroValue242
  t105 := Tryz.underlying232
  a105 := Tryz.isAgg232
  z105 := Tryz.sizeOf232
  v105 := Tryz.zeroValue232
  t119 := Tryz.underlying271
  a119 := Tryz.isAgg271
  z119 := Tryz.sizeOf271
  t138 := Tryz.underlying273
  a138 := Tryz.isAgg273
  z138 := Tryz.sizeOf273
  v138 := Tryz.zeroValue273
  t139 := Tryz.underlying274
  a139 := Tryz.isAgg274
  z139 := Tryz.sizeOf274
  v139 := Tryz.zeroValue274
  t146 := Tryz.underlying278
  a146 := Tryz.isAgg278
  z146 := Tryz.sizeOf278
  v146 := Tryz.zeroValue278
  g1 := by kernel_rfl
  g3 := by kernel_rfl
  g4 := by kernel_rfl }
open Go.RowKit Go.Lib in
theorem Tryz.strings_Split (s sep : ByteArray) (m : Int) (w : World) (hs : s.size < 4294967281) (hm : w.cell? ⟨4, 0, none⟩ = some (.int .i64 m)) (h1 : 1 ≤ sep.size) :
 Calls Tryz.prog 122 #[.string s, .string sep] w fun e w' =>
  e = .returned (.slice (some ⟨w.heap.size, 0, none⟩) (Lib.countB s sep + 1) (Lib.countB s sep + 1)) ∧ w' = w.alloc (.cells ((Lib.splitB sep 0 (Lib.countB s sep) s).map Value.string).toArray 9) := Any.strings_Split Tryz.lays146 (by kernel_rfl) s sep m w hs hm h1
def Tryz.lays155_ren : Go.Shelf.Ren := ⟨fun | 155 => 108 | 154 => 118 | 138 => 129 | 165 => 130 | 143 => 131 | 166 => 101 | 197 => 132 | 169 => 102 | 195 => 157 | 218 => 158 | 240 => 115 | 241 => 159 | 219 => 160 | 260 => 161 | 276 => 126 | 277 => 188 | 217 => 117 | 225 => 189 | 224 => 190 | 267 => 191 | 266 => 128 | 314 => 203 | n => n, fun | 9 => 9 | 3 => 3 | 4 => 4 | 72 => 178 | 0 => 0 | 76 => 76 | 105 => 232 | 21 => 21 | 5 => 5 | 70 => 176 | 20 => 20 | 37 => 71 | 75 => 75 | 127 => 217 | 164 => 154 | 46 => 188 | 119 => 271 | 139 => 274 | 138 => 273 | 146 => 278 | 51 => 242 | 80 => 180 | n => n, fun | 1 => 4 | 3 => 6 | 4 => 7 | n => n⟩
theorem Tryz.lays155 : Go.Proofs.Lays.n155 Tryz.prog Tryz.lays155_ren := {
  mixed := by kernel_rfl
  f138 := Tryz.func129.trans (congrArg some (by kernel_rfl))
  f143 := Tryz.func131.trans (congrArg some (by kernel_rfl))
  f154 := Tryz.func118.trans (congrArg some (by kernel_rfl))
  f155 := Tryz.func108.trans (congrArg some (by kernel_rfl))
  f165 := Tryz.func130.trans (congrArg some (by kernel_rfl))
  f166 := Tryz.func101.trans (congrArg some (by kernel_rfl))
  f169 := Tryz.func102.trans (congrArg some (by kernel_rfl))
  f195 := Tryz.func157.trans (congrArg some (by kernel_rfl))
  f197 := Tryz.func132.trans (congrArg some (by kernel_rfl))
  f217 := Tryz.func117.trans (congrArg some (by kernel_rfl))
  f218 := Tryz.func158.trans (congrArg some (by kernel_rfl))
  f219 := Tryz.func160.trans (congrArg some (by kernel_rfl))
  f224 := Tryz.func190.trans (congrArg some (by kernel_rfl))
  f225 := Tryz.func189.trans (congrArg some (by kernel_rfl))
  f240 := Tryz.func115.trans (congrArg some (by kernel_rfl))
  f241 := Tryz.func159.trans (congrArg some (by kernel_rfl))
  f260 := Tryz.func161.trans (congrArg some (by kernel_rfl))
  f266 := Tryz.func128.trans (congrArg some (by kernel_rfl))
  f267 := Tryz.func191.trans (congrArg some (by kernel_rfl))
  f276 := Tryz.func126.trans (congrArg some (by kernel_rfl))
  f277 := Tryz.func188.trans (congrArg some (by kernel_rfl))
  f314 := Tryz.func203.trans (congrArg some (by kernel_rfl))
  t0 := Tryz.underlying0
  a0 := Tryz.isAgg0
  z0 := Tryz.sizeOf0
  v0 := Tryz.zeroValue0
  t3 := Tryz.underlying3
  a3 := Tryz.isAgg3
  z3 := Tryz.sizeOf3
  v3 := Tryz.zeroValue3
  t4 := Tryz.underlying4
  a4 := Tryz.isAgg4
  z4 := Tryz.sizeOf4
  v4 := Tryz.zeroValue4
  t5 := Tryz.underlying5
  a5 := Tryz.isAgg5
  z5 := Tryz.sizeOf5
  v5 := Tryz.zeroValue5
  t9 := Tryz.underlying9
  a9 := Tryz.isAgg9
  z9 := Tryz.sizeOf9
  v9 := Tryz.zeroValue9
  t20 := Tryz.underlying20
  a20 := Tryz.isAgg20
  z20 := Tryz.sizeOf20
  v20 := Tryz.zeroValue20
  t21 := Tryz.underlying21
  a21 := Tryz.isAgg21
  z21 := Tryz.sizeOf21
  v21 := Tryz.zeroValue21
  t37 := Tryz.underlying71
  a37 := Tryz.isAgg71
  z37 := Tryz.sizeOf71
  v37 := Tryz.zeroValue71
  t46 := Tryz.underlying188
  a46 := Tryz.isAgg188
  z46 := Tryz.sizeOf188
  v46 := Tryz.zeroValue188
  t51 := Tryz.underlying242
  a51 := Tryz.isAgg242
  z51 := Tryz.sizeOf242
  v51 := Tryz.zeroValue242
  t70 := Tryz.underlying176
  a70 := Tryz.isAgg176
  z70 := Tryz.sizeOf176
  v70 := Tryz.zeroValue176
  t72 := Tryz.underlying178
  a72 := Tryz.isAgg178
  z72 := Tryz.sizeOf178
  v72 := Tryz.zeroValue178
  t75 := Tryz.underlying75
  a75 := Tryz.isAgg75
  z75 := Tryz.sizeOf75
  v75 := Tryz.zeroValue75
  t76 := Tryz.underlying76
  a76 := Tryz.isAgg76
  z76 := Tryz.sizeOf76
  v76 := Tryz.zeroValue76
  t105 := Tryz.underlying232
  a105 := Tryz.isAgg232
  z105 := Tryz.sizeOf232
  v105 := Tryz.zeroValue232
  t119 := Tryz.underlying271
  a119 := Tryz.isAgg271
  z119 := Tryz.sizeOf271
  t127 := Tryz.underlying217
  a127 := Tryz.isAgg217
  z127 := Tryz.sizeOf217
  v127 := Tryz.zeroValue217
  t138 := Tryz.underlying273
  a138 := Tryz.isAgg273
  z138 := Tryz.sizeOf273
  v138 := Tryz.zeroValue273
  t139 := Tryz.underlying274
  a139 := Tryz.isAgg274
  z139 := Tryz.sizeOf274
  v139 := Tryz.zeroValue274
  t146 := Tryz.underlying278
  a146 := Tryz.isAgg278
  z146 := Tryz.sizeOf278
  v146 := Tryz.zeroValue278
  t164 := Tryz.underlying154
  a164 := Tryz.isAgg154
  z164 := Tryz.sizeOf154
  v164 := Tryz.zeroValue154
  g1 := by kernel_rfl
  g3 := by kernel_rfl
  g4 := by kernel_rfl }
theorem Tryz.Builder_Extra_155 : Builder.Extra Tryz.prog Tryz.lays155_ren := {
  sizeBuilder := by kernel_rfl
  liesBuilder := by kernel_rfl
  t5 := Tryz.underlying5
  a5 := Tryz.isAgg5
  z5 := Tryz.sizeOf5
  v5 := Tryz.zeroValue5
  infoByte := by kernel_rfl
  cellsByte := by kernel_rfl
  sizeByte := by kernel_rfl
  neB5 := by decide }
open Go.RowKit Go.Lib in
theorem Tryz.strings_ReplaceAll (s old new : ByteArray) (m : Int) (w : World) (hs : s.size < 4294967281) (hm : w.cell? ⟨4, 0, none⟩ = some (.int .i64 m)) (h1 : 1 ≤ old.size) (hlen : s.size + Lib.countB s old * new.size ≤ 140737488355328) :
 Calls Tryz.prog 108 #[.string s, .string old, .string new] w fun e w' =>
  e = .returned (.string ⟨(Lib.replaceAll s.data.toList old.data.toList new.data.toList).toArray⟩) ∧ Below w.heap.size w w' := Any.strings_ReplaceAll Tryz.lays155 Tryz.Builder_Extra_155 s old new m w hs hm h1 hlen
def Tryz.lays152_ren : Go.Shelf.Ren := ⟨fun | 152 => 199 | 137 => 106 | 119 => 205 | 224 => 190 | 225 => 189 | 217 => 117 | 266 => 128 | n => n, fun | 9 => 9 | 21 => 21 | 3 => 3 | 4 => 4 | 5 => 5 | 0 => 0 | 46 => 188 | n => n, fun | n => n⟩
theorem Tryz.lays152 : Go.Proofs.Lays.n152 Tryz.prog Tryz.lays152_ren := {
  mixed := by kernel_rfl
  f119 := Tryz.func205.trans (congrArg some (by kernel_rfl))
  f137 := Tryz.func106.trans (congrArg some (by kernel_rfl))
  f152 := Tryz.func199.trans (congrArg some (by kernel_rfl))
  f217 := Tryz.func117.trans (congrArg some (by kernel_rfl))
  f224 := Tryz.func190.trans (congrArg some (by kernel_rfl))
  f225 := Tryz.func189.trans (congrArg some (by kernel_rfl))
  f266 := Tryz.func128.trans (congrArg some (by kernel_rfl))
  t0 := Tryz.underlying0
  a0 := Tryz.isAgg0
  z0 := Tryz.sizeOf0
  v0 := Tryz.zeroValue0
  t3 := Tryz.underlying3
  a3 := Tryz.isAgg3
  z3 := Tryz.sizeOf3
  v3 := Tryz.zeroValue3
  t4 := Tryz.underlying4
  a4 := Tryz.isAgg4
  z4 := Tryz.sizeOf4
  v4 := Tryz.zeroValue4
  t5 := Tryz.underlying5
  a5 := Tryz.isAgg5
  z5 := Tryz.sizeOf5
  v5 := Tryz.zeroValue5
  t9 := Tryz.underlying9
  a9 := Tryz.isAgg9
  z9 := Tryz.sizeOf9
  v9 := Tryz.zeroValue9
  t21 := Tryz.underlying21
  a21 := Tryz.isAgg21
  z21 := Tryz.sizeOf21
  v21 := Tryz.zeroValue21
  t46 := Tryz.underlying188
  a46 := Tryz.isAgg188
  z46 := Tryz.sizeOf188
  v46 := Tryz.zeroValue188 }
open Go.RowKit Go.Lib in
theorem Tryz.strings_IndexRune_ascii (s : ByteArray) (r : Int) (w : World) (h0 : 0 ≤ r) (h1 : r < 128) :
 Calls Tryz.prog 199 #[.string s, .int .i32 r] w fun e w' => e = .returned (.int .i64 (Lib.indexByte s.data.toList r.toNat.toUInt8)) ∧ w' = w := Any.strings_IndexRune_ascii Tryz.lays152 s r w h0 h1
def Tryz.lays226_ren : Go.Shelf.Ren := ⟨fun | 226 => 200 | n => n, fun | 3 => 3 | 4 => 4 | n => n, fun | n => n⟩
theorem Tryz.lays226 : Go.Proofs.Lays.n226 Tryz.prog Tryz.lays226_ren := {
  mixed := by kernel_rfl
  f226 := Tryz.func200.trans (congrArg some (by kernel_rfl))
  t3 := Tryz.underlying3
  a3 := Tryz.isAgg3
  z3 := Tryz.sizeOf3
  v3 := Tryz.zeroValue3
  t4 := Tryz.underlying4
  a4 := Tryz.isAgg4
  z4 := Tryz.sizeOf4
  v4 := Tryz.zeroValue4 }
open Go.RowKit Go.Lib in
theorem Tryz.strings_shouldUseASCIISet (n : Int) (w : World) :
 Calls Tryz.prog 200 #[.int .i64 n] w fun e w' => e = .returned (.bool (decide (8 < n))) ∧ w' = w := Any.strings_shouldUseASCIISet Tryz.lays226 n w
def Tryz.lays153_ren : Go.Shelf.Ren := ⟨fun | 153 => 182 | 152 => 199 | 226 => 200 | 227 => 164 | 228 => 192 | 137 => 106 | 119 => 205 | 224 => 190 | 225 => 189 | 217 => 117 | 266 => 128 | n => n, fun | 9 => 9 | 3 => 3 | 4 => 4 | 5 => 5 | 21 => 21 | 117 => 256 | 116 => 255 | 0 => 0 | 46 => 188 | 124 => 259 | n => n, fun | n => n⟩
theorem Tryz.lays153 : Go.Proofs.Lays.n153 Tryz.prog Tryz.lays153_ren := {
  mixed := by kernel_rfl
  f119 := Tryz.func205.trans (congrArg some (by kernel_rfl))
  f137 := Tryz.func106.trans (congrArg some (by kernel_rfl))
  f152 := Tryz.func199.trans (congrArg some (by kernel_rfl))
  f153 := Tryz.func182.trans (congrArg some (by kernel_rfl))
  f217 := Tryz.func117.trans (congrArg some (by kernel_rfl))
  f224 := Tryz.func190.trans (congrArg some (by kernel_rfl))
  f225 := Tryz.func189.trans (congrArg some (by kernel_rfl))
  f226 := Tryz.func200.trans (congrArg some (by kernel_rfl))
  f227 := Tryz.func164.trans (congrArg some (by kernel_rfl))
  f228 := Tryz.func192.trans (congrArg some (by kernel_rfl))
  f266 := Tryz.func128.trans (congrArg some (by kernel_rfl))
  t0 := Tryz.underlying0
  a0 := Tryz.isAgg0
  z0 := Tryz.sizeOf0
  v0 := Tryz.zeroValue0
  t3 := Tryz.underlying3
  a3 := Tryz.isAgg3
  z3 := Tryz.sizeOf3
  v3 := Tryz.zeroValue3
  t4 := Tryz.underlying4
  a4 := Tryz.isAgg4
  z4 := Tryz.sizeOf4
  v4 := Tryz.zeroValue4
  t5 := Tryz.underlying5
  a5 := Tryz.isAgg5
  z5 := Tryz.sizeOf5
  v5 := Tryz.zeroValue5
  t9 := Tryz.underlying9
  a9 := Tryz.isAgg9
  z9 := Tryz.sizeOf9
  v9 := Tryz.zeroValue9
  t21 := Tryz.underlying21
  a21 := Tryz.isAgg21
  z21 := Tryz.sizeOf21
  v21 := Tryz.zeroValue21
  t46 := Tryz.underlying188
  a46 := Tryz.isAgg188
  z46 := Tryz.sizeOf188
  v46 := Tryz.zeroValue188
  t116 := Tryz.underlying255
  a116 := Tryz.isAgg255
  z116 := Tryz.sizeOf255
  t117 := Tryz.underlying256
  a117 := Tryz.isAgg256
  z117 := Tryz.sizeOf256
  v117 := Tryz.zeroValue256
  t124 := Tryz.underlying259
  a124 := Tryz.isAgg259
  z124 := Tryz.sizeOf259
  v124 := Tryz.zeroValue259 }
open Go.RowKit Go.Lib in
theorem Tryz.strings_IndexAny_long (hv116 : ∀ w, (zeroValue 255).run Tryz.prog w = .ok (.agg (Array.replicate 256 (.bool false))) w) (s chars : ByteArray) (w : World) (h2 : 2 ≤ chars.size) (h8 : 8 < s.size) (hs : s.size < 4294967281) (hcs : chars.size < 4294967281) (hascii : ∀ (j : Nat) b, chars.data.toList[j]? = some b → b.toNat < 128) :
 Calls Tryz.prog 182 #[.string s, .string chars] w fun e w' => e = .returned (.int .i64 (Lib.indexAny s.data.toList chars.data.toList)) ∧ w' = ((w.alloc (.cells (Lib.setCells chars.data.toList) 255)).alloc (.cells (Lib.setCells chars.data.toList) 255)) := Any.strings_IndexAny_long Tryz.lays153 hv116 (by kernel_rfl) s chars w h2 h8 hs hcs hascii
end Go.Proofs
namespace Go.Proofs.YtbioecifiogffaaGreatDoor
open Go.RowKit Go.Shelf
theorem Tryz.infoByte : (Tryz.prog.info? 5).map (fun i => (i.zero, i.size, i.bytes)) = some (some (.int .u8 0), 1, 1) := by kernel_rfl
theorem Tryz.sizeBuilder : (Tryz.prog.info? 178).map (·.size) = some 2 := by kernel_rfl
theorem Tryz.liesBuilder : liesAt Tryz.prog Tryz.prog.depth 178 (2 / Tryz.prog.cellsOf 178) 0 178 1 = true := by kernel_rfl
theorem RowIs.lift {w : World} {v : Value} {g B : Nat} {e : TypeId} {size n : Nat} {xs : List Value} (h : RowIs w v g e size n xs) (hB : B ≤ g) : w.ownsRow B e size v n xs := by
 refine ⟨h.1.1, ?_⟩
 rcases h.1.2 with hh | ⟨g', cap, cur, rfl, hb, hgg, rest⟩
 ·exact .inl hh
 ·have e1 : g' = g := h.2 g' rfl
  subst e1
  exact .inr ⟨g', cap, cur, rfl, hB, hgg, rest⟩
theorem RowIs.of {w : World} {v : Value} {B : Nat} {e : TypeId} {size n : Nat} {xs : List Value} (h : w.ownsRow B e size v n xs) (hB : B ≤ w.heap.size) : ∃ g, B ≤ g ∧ RowIs w v g e size n xs := by
 obtain ⟨h1, h2⟩ := h
 rcases h2 with ⟨rfl, rfl⟩ | ⟨g', cap, cur, rfl, hb, hgg, rest⟩
 ·exact ⟨w.heap.size, hB, ⟨h1, .inl ⟨rfl, rfl⟩⟩, fun k hk => by simp [Value.ownBlock] at hk⟩
 ·exact ⟨g', hb, ⟨h1, .inr ⟨g', cap, cur, rfl, Nat.zero_le _, hgg, rest⟩⟩, fun k hk => by simp [Value.ownBlock] at hk; exact hk.symm⟩
def BIs (w : World) (b g : Nat) (bs : List Value) : Prop :=
 ∃ p v, w.heap[b]? = some (.cells #[p, v] 178 (0, 0)) ∧ (p = .pointer none ∨ p = .pointer (some ⟨b, 0, none⟩)) ∧ RowIs w v g 5 1 bs.length bs
theorem BIs.kept {D : Nat → Prop} {w w' : World} {b g : Nat} {bs : List Value} (h : BIs w b g bs) (hk : Keeps D w w') (h1 : ¬ D b) (h2 : g < w.heap.size → ¬ D g) : BIs w' b g bs := by
 obtain ⟨p, v, hb, hp, hr⟩ := h
 exact ⟨p, v, hk.heap_some hb h1, hp, hr.kept hk h2⟩
theorem BIs.lt {w : World} {b g : Nat} {bs : List Value} (h : BIs w b g bs) : b < w.heap.size := by
 obtain ⟨p, v, hb, hp, hr⟩ := h
 exact (Array.getElem?_eq_some_iff.1 hb).1
theorem BIs.own_ne {w : World} {b g : Nat} {p v : Value} {n : Nat} {bs : List Value} (hb : w.heap[b]? = some (.cells #[p, v] 178 (0, 0))) (hr : RowIs w v g 5 1 n bs) : v.ownBlock ≠ some b := by
 intro e0
 rcases hr.1.2 with ⟨rfl, _⟩ | ⟨g', cap, cur, rfl, _, hgg, rest⟩
 ·cases e0
 ·have : g' = b := by simpa [Value.ownBlock] using e0
  subst this
  rw [hb] at hgg
  cases hgg
theorem BIs.fresh (w : World) (g : Nat) : BIs (w.alloc (.cells #[.pointer none, .slice none 0 0] 178)) w.heap.size g [] :=
 ⟨_, _, heap_alloc_new w _, .inl rfl, RowIs.nil _ _ _ _⟩
theorem BIs.put {w : World} {b g : Nat} {p v v' : Value} {bs : List Value} (hb : w.heap[b]? = some (.cells #[p, v] 178 (0, 0))) (hp : p = .pointer none ∨ p = .pointer (some ⟨b, 0, none⟩))
 (hr : RowIs w v' g 5 1 bs.length bs) : BIs (w.setCell ⟨b, 1, none⟩ v') b g bs := by
 refine ⟨p, v', ?_, hp, ?_⟩
 ·simp [World.setCell, Array.getElem?_modify, hb]
 ·refine ⟨⟨hr.1.1, ?_⟩, hr.2⟩
  rcases hr.1.2 with hh | ⟨g', cap, cur, rfl, hb2, hgg, rest⟩
  ·exact .inl hh
  ·refine .inr ⟨g', cap, cur, rfl, hb2, ?_, rest⟩
   have hne : g' ≠ b := by
    intro e1
    subst e1
    rw [hb] at hgg
    cases hgg
   rw [Below.heap_setCell _ _ _ _ (by simpa using hne)]
   exact hgg
theorem Builder_copyCheck_fresh (b : Nat) (w : World) (h0 : w.cell? ⟨b, 0, none⟩ = some (.pointer none)) (hsh : w.shape? b = some (178, 2)) (hfz : w.frozen? ⟨b, 0, none⟩ = false) :
 Calls Tryz.prog 115 #[.pointer (some ⟨b, 0, none⟩)] w fun e w' => e = .returned (.tuple #[]) ∧ w' = w.setCell ⟨b, 0, none⟩ (.pointer (some ⟨b, 0, none⟩)) := by
 obtain ⟨j, hj, hjs⟩ := Option.map_eq_some_iff.1 Tryz.sizeBuilder
 go_enter Tryz.func115, Tryz.ntmps115
 go_wp2
 rw [Lib.run_to_unsafe w ⟨b, 0, none⟩ Tryz.underlying176 Tryz.underlying154 hj (by rw [hjs]; decide) hsh (Nat.zero_lt_succ 1)]
 simp only [Result.andThen]
 rw [Oper.upon_value]
 go_wp2
 rw [run_callFunc_extern Tryz.func126 (by kernel_rfl) (by kernel_rfl) (by kernel_rfl) (e := Extern.AbiNoEscape.same) (by kernel_rfl)]
 rw [Lib.run_noEscape]
 simp only [Result.andThen]
 rw [Oper.upon_value]
 go_wp2
 rw [Lib.run_from_unsafe w ⟨b, 0, none⟩ Tryz.underlying154 Tryz.underlying176 hj hsh Tryz.liesBuilder]
 simp only [Result.andThen]
 rw [Oper.upon_value]
 go_wp2
 go_end0
 exact ⟨rfl, rfl⟩
theorem Builder_copyCheck_used (b : Nat) (w : World) (h0 : w.cell? ⟨b, 0, none⟩ = some (.pointer (some ⟨b, 0, none⟩))) :
 Calls Tryz.prog 115 #[.pointer (some ⟨b, 0, none⟩)] w fun e w' => e = .returned (.tuple #[]) ∧ w' = w := by
 obtain ⟨j, hj, hjs⟩ := Option.map_eq_some_iff.1 Tryz.sizeBuilder
 go_enter Tryz.func115, Tryz.ntmps115
 go_wp2
 rw [Lib.run_neq_ptr_same w _ Tryz.underlying176 hj]
 go_wp2
 go_end0
 exact ⟨rfl, rfl⟩
theorem Builder_copyCheck (b g : Nat) (bs : List Value) (w : World) (h : BIs w b g bs) :
 Calls Tryz.prog 115 #[.pointer (some ⟨b, 0, none⟩)] w fun e w' => e = .returned (.tuple #[]) ∧ (∃ v, w'.heap[b]? = some (.cells #[.pointer (some ⟨b, 0, none⟩), v] 178 (0, 0)) ∧ RowIs w' v g 5 1 bs.length bs) ∧ Keeps (fun k => k = b) w w' := by
 obtain ⟨p, v, hb, hp, hr⟩ := h
 rcases hp with rfl | rfl
 ·refine (Builder_copyCheck_fresh b w (by rw [Lib.cell_of_heap hb]; rfl) (by simp [World.shape?, hb]) (by simp [World.frozen?, hb])).mono ?_
  rintro e w' ⟨rfl, rfl⟩
  have hk : Keeps (fun k => k = b) w (w.setCell ⟨b, 0, none⟩ (.pointer (some ⟨b, 0, none⟩))) := (Keeps.refl (fun k => k = b) w).setCell (p := ⟨b, 0, none⟩) (fun _ => rfl) _
  refine ⟨rfl, ⟨v, by simp [World.setCell, Array.getElem?_modify, hb], ?_⟩, hk⟩
  refine ⟨⟨hr.1.1, ?_⟩, hr.2⟩
  rcases hr.1.2 with hh | ⟨g', cap, cur, rfl, hb2, hgg, rest⟩
  ·exact .inl hh
  ·refine .inr ⟨g', cap, cur, rfl, hb2, hk.heap_some hgg ?_, rest⟩
   intro e1
   subst e1
   rw [hb] at hgg
   cases hgg
 ·refine (Builder_copyCheck_used b w (by rw [Lib.cell_of_heap hb]; rfl)).mono ?_
  rintro e w' ⟨rfl, rfl⟩
  exact ⟨rfl, ⟨v, hb, hr⟩, Keeps.refl _ _⟩
theorem Builder_Len (b g : Nat) (bs : List Value) (w : World) (h : BIs w b g bs) :
 Calls Tryz.prog 100 #[.pointer (some ⟨b, 0, none⟩)] w fun e w' => e = .returned (.int .i64 bs.length) ∧ w = w' := by
 obtain ⟨p, v, hb, hp, hr⟩ := h
 obtain ⟨ao, cap, rfl⟩ := hr.form
 have c1 : w.cell? ⟨b, 1, none⟩ = some (.slice ao bs.length cap) := by rw [Lib.cell_of_heap hb]; rfl
 clear hb hp hr
 go_enter Tryz.func100, Tryz.ntmps100
 go_wp2
 go_ret
 exact ⟨rfl, rfl⟩
theorem Builder_WriteByte (b g : Nat) (bs : List Value) (c : Int) (w : World) (h : BIs w b g bs) (hlen : bs.length + 1 ≤ 70368744177664) :
 Calls Tryz.prog 107 #[.pointer (some ⟨b, 0, none⟩), .int .u8 c] w fun e w' => e = .returned .nilIface ∧ ∃ g', BIs w' b g' (bs ++ [.int .u8 c]) ∧ (g' = g ∨ w.heap.size ≤ g') ∧ Keeps (fun k => k = b ∨ k = g) w w' := by
 obtain ⟨i0, hi, hz0, hz1, hz2⟩ := info_parts Tryz.infoByte
 have hbl := h.lt
 go_enter Tryz.func107, Tryz.ntmps107
 go_wp2_with (go_at_call 115; refine (Builder_copyCheck b g bs _ h).mono ?_)
 rintro e w1 ⟨rfl, ⟨v, hbk, hr⟩, hk1⟩
 have c0 : w1.cell? ⟨b, 0, none⟩ = some (.pointer (some ⟨b, 0, none⟩)) := by rw [Lib.cell_of_heap hbk]; rfl
 have c1 : w1.cell? ⟨b, 1, none⟩ = some v := by rw [Lib.cell_of_heap hbk]; rfl
 go_wp2_with (at_builtin; refine wpList_append_row _ rfl _ _ 71 rfl 5 i0 (.int .u8 0) 1 1 Tryz.underlying71 hi hz0 hz1 hz2 rfl (by decide) v g bs.length bs rfl (hr.kept ((Keeps.refl (fun _ => False) w1).alloc _) (fun _ h => h)) (some ⟨w1.heap.size, 0, none⟩) 1 1 [.int .u8 c] rfl rfl ?c0 ?c1 ?c2 ?c3 ?c4 ?_)
 case c0 => intro h; cases h
 case c1 => intro ad had; cases had; exact cell_one_new _ _ _
 case c2 => intro u hu; simp at hu; subst hu; rfl
 case c3 => unfold maxLen; omega
 case c4 => omega
 intro p c' g' w2 hr2 hg2 hk2
 have hs := hk1.size
 have hne : v.ownBlock ≠ some b := BIs.own_ne hbk hr
 have hb2 : w2.heap[b]? = some (.cells #[.pointer (some ⟨b, 0, none⟩), v] 178 (0, 0)) :=
  (hk2.block b (by simp; omega) hne).trans ((Below.heap_alloc w1 _ b (by omega)).trans hbk)
 have d0 : w2.cell? ⟨b, 0, none⟩ = some (.pointer (some ⟨b, 0, none⟩)) := by rw [Lib.cell_of_heap hb2]; rfl
 have d1 : w2.cell? ⟨b, 1, none⟩ = some v := by rw [Lib.cell_of_heap hb2]; rfl
 have f1 : w2.frozen? ⟨b, 1, none⟩ = false := Lib.frozen_of_heap hb2 1
 have hK : Keeps (fun k => k = b ∨ k = g) w (w2.setCell ⟨b, 1, none⟩ (.slice p (bs.length + 1) c')) :=
  (((hk1.mono (fun _ _ h => .inl h)).alloc _).trans hk2 (fun k _ h => .inr (hr.2 k h))).setCell (fun _ => .inl rfl) _
 have hB : BIs (w2.setCell ⟨b, 1, none⟩ (.slice p (bs.length + 1) c')) b g' (bs ++ [.int .u8 c]) := BIs.put hb2 (.inr rfl) (by simpa using hr2)
 have hg : g' = g ∨ w.heap.size ≤ g' := by omega
 clear hr2 hg2 hk2 hne hb2 hr hbk hk1 h
 go_wp2
 go_ret
 exact ⟨rfl, g', hB, hg, hK⟩
theorem Builder_WriteString (b g : Nat) (bs : List Value) (s : ByteArray) (w : World) (h : BIs w b g bs) (hlen : bs.length + s.size ≤ 70368744177664) :
 Calls Tryz.prog 101 #[.pointer (some ⟨b, 0, none⟩), .string s] w fun e w' => e = .returned (.tuple #[.int .i64 s.size, .nilIface]) ∧ ∃ g', BIs w' b g' (bs ++ Lib.strCells s) ∧ (g' = g ∨ w.heap.size ≤ g') ∧ Keeps (fun k => k = b ∨ k = g) w w' := by
 obtain ⟨i0, hi, hz0, hz1, hz2⟩ := info_parts Tryz.infoByte
 have hbl := h.lt
 go_enter Tryz.func101, Tryz.ntmps101
 go_wp2_with (go_at_call 115; refine (Builder_copyCheck b g bs _ h).mono ?_)
 rintro e w1 ⟨rfl, ⟨v, hbk, hr⟩, hk1⟩
 have c0 : w1.cell? ⟨b, 0, none⟩ = some (.pointer (some ⟨b, 0, none⟩)) := by rw [Lib.cell_of_heap hbk]; rfl
 have c1 : w1.cell? ⟨b, 1, none⟩ = some v := by rw [Lib.cell_of_heap hbk]; rfl
 have hne : v.ownBlock ≠ some b := BIs.own_ne hbk hr
 go_wp2_with (at_builtin; refine wpList_append_row_string _ rfl _ _ 71 9 rfl 5 i0 Tryz.underlying71 Tryz.underlying9 hi hz0 hz1 hz2 v g bs.length bs rfl hr s rfl ?c3 ?c4 ?_)
 case c3 => unfold maxLen; omega
 case c4 => omega
 intro p c' g' w2 hr2 hg2 hk2
 have hs := hk1.size
 have hb2 : w2.heap[b]? = some (.cells #[.pointer (some ⟨b, 0, none⟩), v] 178 (0, 0)) :=
  (hk2.block b (by omega) hne).trans hbk
 have d0 : w2.cell? ⟨b, 0, none⟩ = some (.pointer (some ⟨b, 0, none⟩)) := by rw [Lib.cell_of_heap hb2]; rfl
 have d1 : w2.cell? ⟨b, 1, none⟩ = some v := by rw [Lib.cell_of_heap hb2]; rfl
 have f1 : w2.frozen? ⟨b, 1, none⟩ = false := Lib.frozen_of_heap hb2 1
 have hK : Keeps (fun k => k = b ∨ k = g) w (w2.setCell ⟨b, 1, none⟩ (.slice p (bs.length + s.size) c')) :=
  ((hk1.mono (fun _ _ h => .inl h)).trans hk2 (fun k _ h => .inr (hr.2 k h))).setCell (fun _ => .inl rfl) _
 have hB : BIs (w2.setCell ⟨b, 1, none⟩ (.slice p (bs.length + s.size) c')) b g' (bs ++ Lib.strCells s) := BIs.put hb2 (.inr rfl) (by simpa [Lib.strCells_length] using hr2)
 have hg : g' = g ∨ w.heap.size ≤ g' := by omega
 clear hr2 hg2 hk2 hne hb2 hr hbk hk1 h
 go_wp2
 go_ret2
 exact ⟨rfl, g', hB, hg, hK⟩
theorem Builder_WriteRune (B b g : Nat) (bs : List Value) (r : Int) (hr0 : -2147483648 ≤ r) (hr1 : r ≤ 2147483647) (w : World) (h : BIs w b g bs) (hB1 : B ≤ g) (hB2 : B ≤ w.heap.size) (hlen : bs.length + 4 ≤ 70368744177664) :
 Calls Tryz.prog 113 #[.pointer (some ⟨b, 0, none⟩), .int .i32 r] w fun e w' => (∃ n : Int, e = .returned (.tuple #[.int .i64 n, .nilIface])) ∧ ∃ g', BIs w' b g' (bs ++ Lib.runeCells r) ∧ B ≤ g' ∧ Keeps (fun k => k = b ∨ k = g) w w' := by
 have hbl := h.lt
 go_enter Tryz.func113, Tryz.ntmps113
 go_wp2_with (go_at_call 115; refine (Builder_copyCheck b g bs _ h).mono ?_)
 rintro e w1 ⟨rfl, ⟨v, hbk, hr⟩, hk1⟩
 obtain ⟨p0, c00, rfl⟩ := hr.form
 have c0 : w1.cell? ⟨b, 0, none⟩ = some (.pointer (some ⟨b, 0, none⟩)) := by rw [Lib.cell_of_heap hbk]; rfl
 have c1 : w1.cell? ⟨b, 1, none⟩ = some (.slice p0 bs.length c00) := by rw [Lib.cell_of_heap hbk]; rfl
 have hne := BIs.own_ne hbk hr
 have hs := hk1.size
 go_wp2_with (go_at_call 123; refine (Tryz.utf8_AppendRune_plain B _ _ bs r hr0 hr1 _ (hr.lift hB1) (by omega) (by omega)).mono ?_)
 rintro e w2 ⟨v2, rfl, hown2, o, hgr⟩
 have hk2 : Keeps (fun k => (Value.slice p0 bs.length c00).ownBlock = some k) w1 w2 := ((Keeps.refl _ w1).alloc o).grown hgr (fun k e _ => e)
 have hs2 := hk2.size
 obtain ⟨g', hg', hr2⟩ := RowIs.of hown2 (by omega)
 obtain ⟨p, c', rfl⟩ := hr2.form
 have hb2 : w2.heap[b]? = some (.cells #[.pointer (some ⟨b, 0, none⟩), .slice p0 bs.length c00] 178 (0, 0)) :=
  (hk2.block b (by omega) hne).trans hbk
 have d0 : w2.cell? ⟨b, 0, none⟩ = some (.pointer (some ⟨b, 0, none⟩)) := by rw [Lib.cell_of_heap hb2]; rfl
 have d1 : w2.cell? ⟨b, 1, none⟩ = some (.slice p0 bs.length c00) := by rw [Lib.cell_of_heap hb2]; rfl
 have f1 : w2.frozen? ⟨b, 1, none⟩ = false := Lib.frozen_of_heap hb2 1
 have hK : Keeps (fun k => k = b ∨ k = g) w (w2.setCell ⟨b, 1, none⟩ (.slice p (bs.length + (Lib.runeCells r).length) c')) :=
  ((hk1.mono (fun _ _ h => .inl h)).trans hk2 (fun k _ h => .inr (hr.2 k h))).setCell (fun _ => .inl rfl) _
 have hBI : BIs (w2.setCell ⟨b, 1, none⟩ (.slice p (bs.length + (Lib.runeCells r).length) c')) b g' (bs ++ Lib.runeCells r) := BIs.put hb2 (.inr rfl) (by simpa using hr2)
 clear hr2 hk2 hne hb2 hr hbk hk1 h hown2 hgr
 go_wp2
 go_ret2
 exact ⟨⟨_, rfl⟩, g', hBI, hg', hK⟩
theorem Builder_String (b g : Nat) (l : List UInt8) (w : World) (h : BIs w b g (Lib.byteCells l)) :
 Calls Tryz.prog 102 #[.pointer (some ⟨b, 0, none⟩)] w fun e w' => e = .returned (.string ⟨l.toArray⟩) ∧ Keeps (fun k => k = g) w w' := by
 obtain ⟨p, v, hb, hp, hr⟩ := h
 obtain ⟨ao, cap, rfl⟩ := hr.form
 have c1 : w.drew.cell? ⟨b, 1, none⟩ = some (.slice ao (Lib.byteCells l).length cap) := by
  have : w.drew.heap[b]? = some (.cells #[p, .slice ao (Lib.byteCells l).length cap] 178 (0, 0)) := hb
  rw [Lib.cell_of_heap this]; rfl
 rw [Lib.byteCells_length] at c1 hr hb
 by_cases h0 : l = []
 ·subst h0
  have hUS : ∀ q, (Builtin.unsafeString_ #[217, 3] 9 #[.pointer q, .int .i64 0]).run Tryz.prog w.drew = .ok (.string .empty) w.drew := fun q => Lib.run_unsafeString_none _ _ _ _ q
  rcases hr.1.2 with ⟨hv, _⟩ | ⟨g', cap', cur, hv, hb3, hgg, rest⟩
  ·cases hv
   have hSD : (Builtin.unsafeSliceData_ #[71] 217 #[.slice none 0 0]).run Tryz.prog w.drew = .ok (.pointer none) w.drew := rfl
   clear hr hb hp
   go_enter Tryz.func102, Tryz.ntmps102
   go_wp2
   go_region
   all_goals (go_wp2; go_ret; exact ⟨rfl, (Keeps.refl _ _).drew⟩)
  ·cases hv
   have hgd : w.drew.heap[g']? = some (.cells cur 5 (0, 0)) := hgg
   have hbl : b < w.heap.size := (Array.getElem?_eq_some_iff.1 hb).1
   by_cases hc0 : cap = 0
   ·subst hc0
    have hSD : (Builtin.unsafeSliceData_ #[71] 217 #[.slice (some ⟨g', 0, none⟩) 0 0]).run Tryz.prog w.drew = .ok (.pointer (some ⟨w.drew.heap.size, 0, none⟩)) (w.drew.alloc (.view ⟨g', 0, none⟩ 5)) :=
     Lib.run_unsafeSliceData_zero w.drew _ _ 5 Tryz.underlying217 ⟨g', 0, none⟩ 0 (5, cur.size) (by simp [World.shape?, hgd])
    have c2 : (w.drew.alloc (.view ⟨g', 0, none⟩ 5)).cell? ⟨b, 1, none⟩ = some (.slice (some ⟨g', 0, none⟩) 0 0) := by
     have : (w.drew.alloc (.view ⟨g', 0, none⟩ 5)).heap[b]? = _ := (Lib.alloc_old w.drew _ b hbl).trans hb
     rw [Lib.cell_of_heap this]; rfl
    have c3 : (w.alloc (.view ⟨g', 0, none⟩ 5)).drew.cell? ⟨b, 1, none⟩ = some (.slice (some ⟨g', 0, none⟩) 0 0) := c2
    have c0 : w.cell? ⟨b, 1, none⟩ = some (.slice (some ⟨g', 0, none⟩) 0 0) := c1
    have hUS2 : ∀ (W : World) q, (Builtin.unsafeString_ #[217, 3] 9 #[.pointer q, .int .i64 0]).run Tryz.prog W = .ok (.string .empty) W := fun W q => Lib.run_unsafeString_none _ _ _ _ q
    clear hr hb hp rest hgg hgd hUS
    go_enter Tryz.func102, Tryz.ntmps102
    go_wp2
    go_region
    all_goals (go_wp2; go_ret; exact ⟨rfl, ((Keeps.refl _ _).drew).alloc _⟩)
   ·have hSD : (Builtin.unsafeSliceData_ #[71] 217 #[.slice (some ⟨g', 0, none⟩) 0 cap]).run Tryz.prog w.drew = .ok (.pointer (some ⟨g', 0, none⟩)) w.drew :=
     Lib.run_unsafeSliceData_row _ _ _ _ _ _ hc0
    clear hc0 hr hb hp rest hgg hgd
    go_enter Tryz.func102, Tryz.ntmps102
    go_wp2
    go_region
    all_goals (go_wp2; go_ret; exact ⟨rfl, (Keeps.refl _ _).drew⟩)
 ·have hl0 : l.length ≠ 0 := by simpa using h0
  rcases hr.1.2 with ⟨_, h00⟩ | ⟨g', cap', cur, hv, hb3, hgg, hnc, hcm, hcs, htake⟩
  ·exact absurd h00 hl0
  ·cases hv
   have e1 : g' = g := hr.2 g' rfl
   subst e1
   have hSD : (Builtin.unsafeSliceData_ #[71] 217 #[.slice (some ⟨g', 0, none⟩) l.length cap]).run Tryz.prog w.drew = .ok (.pointer (some ⟨g', 0, none⟩)) w.drew :=
    Lib.run_unsafeSliceData_row _ _ _ _ _ _ (by omega)
   have hUS : (Builtin.unsafeString_ #[217, 3] 9 #[.pointer (some ⟨g', 0, none⟩), .int .i64 l.length]).run Tryz.prog w.drew = .ok (.string ⟨l.toArray⟩) (w.drew.freeze ⟨g', 0, none⟩ l.length) := by
    refine Lib.run_unsafeString_row w.drew 217 3 9 5 Tryz.underlying217 (by kernel_rfl) g' cur.size (by have hg' : w.drew.heap[g']? = some (.cells cur 5 (0, 0)) := hgg; simp [World.shape?, hg']) l h0 (by omega) (by unfold maxLen at hcm; omega) ?_
    intro j x hx
    have := World.ownsRow.cells (v := .slice (some ⟨g', 0, none⟩) l.length cap) hr.1 (g := g') rfl j (.int .u8 x.toNat) (by simp [Lib.byteCells, hx])
    exact this
   clear hr hb hp hgg hnc hcm hcs htake hl0
   go_enter Tryz.func102, Tryz.ntmps102
   go_wp2
   go_region
   all_goals (go_wp2; go_ret; exact ⟨rfl, ((Keeps.refl (fun k => k = g') w).drew).freeze (p := ⟨g', 0, none⟩) (fun _ => rfl) _⟩)
end Go.Proofs.YtbioecifiogffaaGreatDoor
namespace Go.Proofs.YtbioecifiogffaaGreatDoor
open Go.RowKit
def RegSt (w : World) (s : ByteArray) (pos : Nat) (acc : List UInt8) (W : World) : Prop :=
 (∃ g, w.heap.size ≤ g ∧ BIs W w.heap.size g (Lib.byteCells acc)) ∧ W.heap[w.heap.size + 1]? = some (.stringIter s pos) ∧ Below w.heap.size w W
theorem BIs.iter {w w' : World} {b g k : Nat} {bs : List Value} {s : ByteArray} {pos : Nat} (h : BIs w b g bs) (hi : w.heap[k]? = some (.stringIter s pos)) (hk : Keeps (fun j => j = b ∨ j = g) w w') : w'.heap[k]? = some (.stringIter s pos) ∨ g = k := by
 by_cases hg : g = k
 ·exact .inr hg
 ·obtain ⟨p, v, hb, _⟩ := h
  refine .inl (hk.heap_some hi ?_)
  rintro (rfl | rfl)
  ·rw [hb] at hi; cases hi
  ·exact hg rfl
theorem BIs.move {w : World} {b g k : Nat} {bs : List Value} {s : ByteArray} {pos : Nat} (h : BIs w b g bs) (hi : w.heap[k]? = some (.stringIter s pos)) (B : Nat) (hB : B ≤ g) (hb : B ≤ b) : ∃ g', B ≤ g' ∧ BIs w b g' bs ∧ g' ≠ k := by
 by_cases hg : g = k
 ·subst hg
  obtain ⟨p, v, hbk, hp, hr⟩ := h
  rcases hr.1.2 with ⟨rfl, h0⟩ | ⟨g', cap, cur, rfl, hb2, hgg, rest⟩
  ·refine ⟨b, hb, ⟨p, _, hbk, hp, ⟨⟨hr.1.1, .inl ⟨rfl, h0⟩⟩, fun k e => by cases e⟩⟩, ?_⟩
   rintro rfl
   rw [hi] at hbk
   cases hbk
  ·have e1 : g' = g := hr.2 g' rfl
   subst e1
   rw [hi] at hgg
   cases hgg
 ·exact ⟨g, hB, h, hg⟩
theorem reg_byte (w : World) (s : ByteArray) (pos : Nat) (acc : List UInt8) (c : UInt8) (W : World) (h : RegSt w s pos acc W) (hl : acc.length + 1 ≤ 70368744177664) :
 Calls Tryz.prog 107 #[.pointer (some ⟨w.heap.size, 0, none⟩), .int .u8 c.toNat] W fun e W' => e = .returned .nilIface ∧ RegSt w s pos (acc ++ [c]) W' := by
 obtain ⟨⟨g0, hg0, hb0⟩, hi, hbw⟩ := h
 obtain ⟨g, hg, hb, hne⟩ := hb0.move hi w.heap.size hg0 (Nat.le_refl _)
 refine (Builder_WriteByte _ g _ _ W hb (by rw [Lib.byteCells_length]; exact hl)).mono ?_
 rintro e W' ⟨rfl, g', hb', hg', hk⟩
 have hs := hbw.size
 refine ⟨rfl, ⟨g', by omega, by rw [Lib.byteCells_append]; exact hb'⟩, ?_, hbw.trans (hk.below hs (fun k hk1 hk2 => by omega))⟩
 rcases hb.iter hi hk with h1 | h1
 ·exact h1
 ·exact absurd h1 hne
theorem reg_rune (w : World) (s : ByteArray) (pos : Nat) (acc : List UInt8) (r : Int) (h0 : 0 ≤ r) (h1 : r ≤ 2147483647) (W : World) (h : RegSt w s pos acc W) (hl : acc.length + 4 ≤ 70368744177664) :
 Calls Tryz.prog 113 #[.pointer (some ⟨w.heap.size, 0, none⟩), .int .i32 r] W fun e W' => (∃ n : Int, e = .returned (.tuple #[.int .i64 n, .nilIface])) ∧ RegSt w s pos (acc ++ Lib.encodeRune r) W' := by
 obtain ⟨⟨g0, hg0, hb0⟩, hi, hbw⟩ := h
 obtain ⟨g, hg, hb, hne⟩ := hb0.move hi w.heap.size hg0 (Nat.le_refl _)
 have hs := hbw.size
 refine (Builder_WriteRune w.heap.size _ g _ r (by omega) h1 W hb hg hs (by rw [Lib.byteCells_length]; exact hl)).mono ?_
 rintro e W' ⟨he, g', hb', hg', hk⟩
 refine ⟨he, ⟨g', hg', by rw [Lib.byteCells_append, Lib.byteCells_encodeRune]; exact hb'⟩, ?_, hbw.trans (hk.below hs (fun k hk1 hk2 => by omega))⟩
 rcases hb.iter hi hk with h1 | h1
 ·exact h1
 ·exact absurd h1 hne
theorem RegSt.next {w : World} {s : ByteArray} {pos : Nat} {acc : List UInt8} {W : World} (h : RegSt w s pos acc W) (pos' : Nat) : RegSt w s pos' acc (W.iterAt (w.heap.size + 1) s pos') := by
 obtain ⟨⟨g0, hg0, hb0⟩, hi, hbw⟩ := h
 obtain ⟨g, hg, hb, hne⟩ := hb0.move hi w.heap.size hg0 (Nat.le_refl _)
 have hk : Keeps (fun k => k = w.heap.size + 1) W (W.iterAt (w.heap.size + 1) s pos') :=
  ⟨rfl, rfl, rfl, by rw [Lib.iterAt_size]; exact Nat.le_refl _, fun k _ hn => Lib.iterAt_other W _ k s pos' hn⟩
 refine ⟨⟨g, hg, hb.kept hk (by omega) (fun _ => hne)⟩, Lib.iterAt_heap W _ s pos pos' hi, hbw.trans (hk.below hbw.size (fun k hk1 hk2 => by omega))⟩
theorem Regular_any (s : ByteArray) (w : World) (hs : s.size ≤ 1099511627776) :
 Calls Tryz.prog 87 #[.string s] w fun e w' => e = .returned (.string ⟨(regular s).toArray⟩) ∧ Fresh w w' := by
 go_enter Tryz.func87, Tryz.ntmps87
 go_wp2
 go_loopw [4] (fun cr wr => ∃ (pos fuel : Nat) (acc : List UInt8) (c : Bool), cr = .bool c ∧ RegSt w s pos acc wr ∧ acc ++ regP c (runesAt s fuel pos) = regular s ∧ s.size ≤ pos + fuel ∧ acc.length + 5 * fuel ≤ 5 * s.size) (fun _ wr => s.size - wr.iterPos (w.heap.size + 1))
 case atStart =>
  refine ⟨0, s.size, [], false, rfl, ⟨⟨w.heap.size, Nat.le_refl _, (BIs.fresh w w.heap.size).kept ((Keeps.refl (fun _ => False) _).alloc _) (fun h => h) (fun _ h => h)⟩, ?_, ((Below.refl _ w).alloc (Nat.le_refl _) _).alloc (by simp) _⟩, ?_, by omega, by simp⟩
  ·have := World.iter_heap (w.alloc (.cells #[.pointer none, .slice none 0 0] 178)) s 0
   simpa using this
  ·rw [List.nil_append]; exact regular_P s
 case round =>
  obtain ⟨pos, fuel, acc, c, rfl, hS, hacc, hfu, hal⟩ := hrel
  by_cases hp : pos < s.size
  ·obtain ⟨f, rfl⟩ : ∃ f, fuel = f + 1 := ⟨fuel - 1, by omega⟩
   have hnx : ∀ ty, (Instr.next (.pointer (some ⟨w.heap.size + 1, 0, none⟩)) true ty).run Tryz.prog wr = _ := fun ty => Lib.run_next_any_at wr (w.heap.size + 1) s pos ty hS.2.1 hp
   have hwd := width_pos s pos hp
   have hd1 := decode_le s pos
   have hS1 := hS.next (pos + (Utf8.decode s pos).2)
   have hm0 : wr.iterPos (w.heap.size + 1) = pos := by simp only [World.iterPos, hS.2.1]
   rw [runesAt_step s f pos hp] at hacc
   clear hS
   generalize (Utf8.decode s pos).1 = r at *
   generalize (Utf8.decode s pos).2 = wd at *
   have HA : Hid (acc ++ regP c (r :: runesAt s f (pos + wd)) = regular s) := hacc
   clear hacc
   have HM : Hid (wr.iterPos (w.heap.size + 1) = pos) := hm0
   clear hm0
   have hdone : ∀ (acc' : List UInt8) (W : World), RegSt w s (pos + wd) acc' W → s.size - W.iterPos (w.heap.size + 1) < s.size - wr.iterPos (w.heap.size + 1) := by
    intro acc' W h
    have : W.iterPos (w.heap.size + 1) = pos + wd := by simp only [World.iterPos, h.2.1]
    rw [this, HM.out]
    omega
   have HD := Lib.hid hdone
   clear hdone
   have hlen : acc.length + 4 ≤ 70368744177664 := by omega
   by_cases h13 : r = 13
   ·obtain ⟨e13, en10⟩ : (((r : Int) == 13) = true) ∧ (((r : Int) != 10) = true) := by subst h13; decide
    have H13 := Lib.hid h13
    clear h13
    cases c
    ·go_wp2
     go_roundw
     case rel => exact ⟨pos + wd, f, acc, true, rfl, hS1, by rw [← HA.out]; simp [regP, H13.out], by omega, by omega⟩
     case measure => exact HD.out _ _ hS1
    ·go_wp2_with (go_at_call 107; refine (reg_byte w s _ acc 10 _ hS1 (by omega)).mono ?_)
     rintro e W2 ⟨rfl, hS2⟩
     go_wp2
     go_roundw
     case rel => exact ⟨pos + wd, f, acc ++ [10], true, rfl, hS2, by rw [← HA.out]; simp [regP, H13.out], by omega, by simp; omega⟩
     case measure => exact HD.out _ _ hS2
   ·have e13 : ((r : Int) == 13) = false := by rw [beq_eq_false_iff_ne]; omega
    have H13 := Lib.hid h13
    clear h13
    by_cases h0 : r = 0
    ·obtain ⟨e0, en10⟩ : (((r : Int) == 0) = true) ∧ (((r : Int) != 10) = true) := by subst h0; decide
     have H0 := Lib.hid h0
     clear h0
     cases c
     ·go_wp2_with (go_at_call 113; refine (reg_rune w s _ acc 65533 (by omega) (by omega) _ hS1 (by omega)).mono ?_)
      rintro e W2 ⟨⟨n, rfl⟩, hS2⟩
      go_wp2
      go_roundw
      case rel => exact ⟨pos + wd, f, _, false, rfl, hS2, by rw [← HA.out]; simp [regP, H0.out], by omega, by have := encodeRune_le 65533; simp; omega⟩
      case measure => exact HD.out _ _ hS2
     ·go_wp2_with (go_at_call 107; refine (reg_byte w s _ acc 10 _ hS1 (by omega)).mono ?_)
      rintro e W2 ⟨rfl, hS2⟩
      go_wp2_with (go_at_call 113; refine (reg_rune w s _ (acc ++ [10]) 65533 (by omega) (by omega) _ hS2 (by simp; omega)).mono ?_)
      rintro e W3 ⟨⟨n, rfl⟩, hS3⟩
      go_wp2
      go_roundw
      case rel => exact ⟨pos + wd, f, _, false, rfl, hS3, by rw [← HA.out]; simp [regP, H0.out], by omega, by have := encodeRune_le 65533; simp; omega⟩
      case measure => exact HD.out _ _ hS3
    ·have e0 : ((r : Int) == 0) = false := by rw [beq_eq_false_iff_ne]; omega
     have H0 := Lib.hid h0
     clear h0
     cases c
     ·go_wp2_with (go_at_call 113; refine (reg_rune w s _ acc r (by omega) (by omega) _ hS1 (by omega)).mono ?_)
      rintro e W2 ⟨⟨n, rfl⟩, hS2⟩
      go_wp2
      go_roundw
      case rel => exact ⟨pos + wd, f, _, false, rfl, hS2, by rw [← HA.out]; simp [regP, H0.out, H13.out], by omega, by have := encodeRune_le r; simp; omega⟩
      case measure => exact HD.out _ _ hS2
     ·by_cases h10 : r = 10
      ·obtain en10 : (((r : Int) != 10) = false) := by subst h10; decide
       have H10 := Lib.hid h10
       clear h10
       go_wp2_with (go_at_call 113; refine (reg_rune w s _ acc r (by omega) (by omega) _ hS1 (by omega)).mono ?_)
       rintro e W2 ⟨⟨n, rfl⟩, hS2⟩
       go_wp2
       go_roundw
       case rel => exact ⟨pos + wd, f, _, false, rfl, hS2, by rw [← HA.out]; simp [regP, H10.out], by omega, by have := encodeRune_le r; simp; omega⟩
       case measure => exact HD.out _ _ hS2
      ·have en10 : (((r : Int) != 10) = true) := by rw [bne_iff_ne]; omega
       have H10 := Lib.hid h10
       clear h10
       go_wp2_with (go_at_call 107; refine (reg_byte w s _ acc 10 _ hS1 (by omega)).mono ?_)
       rintro e W2 ⟨rfl, hS2⟩
       go_wp2_with (go_at_call 113; refine (reg_rune w s _ (acc ++ [10]) r (by omega) (by omega) _ hS2 (by simp; omega)).mono ?_)
       rintro e W3 ⟨⟨n, rfl⟩, hS3⟩
       go_wp2
       go_roundw
       case rel => exact ⟨pos + wd, f, _, false, rfl, hS3, by rw [← HA.out]; simp [regP, H0.out, H13.out, H10.out], by omega, by have := encodeRune_le r; simp; omega⟩
       case measure => exact HD.out _ _ hS3
  ·have hnx : ∀ ty, (Instr.next (.pointer (some ⟨w.heap.size + 1, 0, none⟩)) true ty).run Tryz.prog wr = _ := fun ty => Lib.run_next_end_at wr (w.heap.size + 1) s pos ty hS.2.1 hp
   rw [runesAt_end s fuel pos hp] at hacc
   have HA : Hid (acc ++ regP c [] = regular s) := hacc
   clear hacc hp
   obtain ⟨⟨g, hg, hb⟩, hi, hbw⟩ := hS
   have hS : RegSt w s pos acc wr := ⟨⟨g, hg, hb⟩, hi, hbw⟩
   have fin : ∀ (g : Nat) (acc' : List UInt8) (W : World), BIs W w.heap.size g (Lib.byteCells acc') → w.heap.size ≤ g → Below w.heap.size w W → acc' = regular s →
    Calls Tryz.prog 102 #[.pointer (some ⟨w.heap.size, 0, none⟩)] W fun e W' => e = .returned (.string ⟨(regular s).toArray⟩) ∧ Fresh w W' := by
    intro g acc' W hb hg hbw he
    refine (Builder_String _ g acc' W hb).mono ?_
    rintro e W' ⟨rfl, hk⟩
    subst he
    exact ⟨rfl, Fresh.of (hbw.trans (hk.below hbw.size (fun k h1 h2 => by omega)))⟩
   have FIN := Lib.hid fin
   clear fin
   cases c
   ·have hfin := FIN.out g acc wr hb hg hbw (by rw [← HA.out]; simp [regP])
    clear hb hi hbw hS
    go_wp2_with (go_at_call 102; refine hfin.mono ?_)
    rintro e W2 ⟨rfl, hF⟩
    go_wp2
    go_ret
    exact ⟨rfl, hF⟩
   ·clear hb hi hbw
    go_wp2_with (go_at_call 107; refine (reg_byte w s _ acc 10 _ hS (by omega)).mono ?_)
    rintro e W2 ⟨rfl, ⟨g2, hg2, hb2⟩, hi2, hbw2⟩
    have hfin := FIN.out g2 (acc ++ [10]) W2 hb2 hg2 hbw2 (by rw [← HA.out]; simp [regP])
    clear hb2 hi2 hbw2 hS
    go_wp2_with (go_at_call 102; refine hfin.mono ?_)
    rintro e W3 ⟨rfl, hF⟩
    go_wp2
    go_ret
    exact ⟨rfl, hF⟩
theorem refRegular_any (s : ByteArray) (w : World) (hs : s.size ≤ 1099511627776) :
 Calls Tryz.prog 34 #[.string s] w fun e w' => e = .returned (.string ⟨(regular s).toArray⟩) ∧ Fresh w w' := by
 have henc : ∀ n : Int, Utf8.encode n = ⟨(Lib.encodeRune n).toArray⟩ := encode_eq
 go_enter Tryz.func34, Tryz.ntmps34
 go_wp2
 go_loopw [3] (fun o wr => ∃ (pos fuel : Nat) (acc : List UInt8), o = .string ⟨acc.toArray⟩ ∧ wr.heap[w.heap.size]? = some (.stringIter s pos) ∧ Fresh w wr ∧ acc ++ regR (runesAt s fuel pos) = regular s ∧ s.size ≤ pos + fuel ∧ acc.length + 5 * fuel ≤ 5 * s.size) (fun _ wr => s.size - wr.iterPos w.heap.size)
 case atStart =>
  exact ⟨0, s.size, [], rfl, World.iter_heap w s 0, (Keeps.refl _ _).alloc _, rfl, by omega, by simp⟩
 case round =>
  obtain ⟨pos, fuel, acc, rfl, hi, hF, hacc, hfu, hal⟩ := hrel
  by_cases hp : pos < s.size
  ·obtain ⟨f, rfl⟩ : ∃ f, fuel = f + 1 := ⟨fuel - 1, by omega⟩
   have hnx : ∀ ty, (Instr.next (.pointer (some ⟨w.heap.size, 0, none⟩)) true ty).run Tryz.prog wr = _ := fun ty => Lib.run_next_any_at wr w.heap.size s pos ty hi hp
   have hwd := width_pos s pos hp
   have hd1 := decode_le s pos
   have hm0 : wr.iterPos w.heap.size = pos := by simp only [World.iterPos, hi]
   have hsm := decode_small s pos hp
   have hhd := head_runesAt s f (pos + (Utf8.decode s pos).2) (by omega)
   rw [runesAt_step s f pos hp] at hacc
   have hi2 := Lib.iterAt_heap wr w.heap.size s pos (pos + (Utf8.decode s pos).2) hi
   have hF2 : Fresh w (wr.iterAt w.heap.size s (pos + (Utf8.decode s pos).2)) := hF.trans (D' := fun k => k = w.heap.size) ⟨rfl, rfl, rfl, by rw [Lib.iterAt_size]; exact Nat.le_refl _, fun k _ hn => Lib.iterAt_other wr _ k s _ hn⟩ (fun j h1 h2 => by omega)
   have hm1 : (wr.iterAt w.heap.size s (pos + (Utf8.decode s pos).2)).iterPos w.heap.size = pos + (Utf8.decode s pos).2 := by simp only [World.iterPos, hi2]
   clear hi hF
   generalize (Utf8.decode s pos).1 = r at *
   generalize (Utf8.decode s pos).2 = wd at *
   have HD : Hid (s.size - (wr.iterAt w.heap.size s (pos + wd)).iterPos w.heap.size < s.size - wr.iterPos w.heap.size) := by
    show _ < _
    rw [hm0, hm1]; omega
   have HA : Hid (acc ++ regR (r :: runesAt s f (pos + wd)) = regular s) := hacc
   clear hacc hm0 hm1
   have hle := encodeRune_le r
   by_cases h0 : r = 0
   ·obtain ⟨e0, e3⟩ : (((r : Int) == 0) = true) ∧ (((r : Int) == 65533) = false) := by subst h0; decide
    have H0 := Lib.hid h0
    clear h0 hsm hhd
    go_wp2
    go_roundw
    case rel => exact ⟨pos + wd, f, acc ++ Lib.encodeRune 65533, by rw [ba_append]; rfl, hi2, hF2, by rw [← HA.out]; simp [regR, H0.out], by omega, by have := encodeRune_le 65533; simp; omega⟩
    case measure => exact HD.out
   ·have e0 : ((r : Int) == 0) = false := by rw [beq_eq_false_iff_ne]; omega
    have H0 := Lib.hid h0
    clear h0
    by_cases h3 : r = 65533
    ·have e3 : ((r : Int) == 65533) = true := by subst h3; decide
     have H3 := Lib.hid h3
     clear h3 hsm hhd
     go_wp2
     go_roundw
     case rel => exact ⟨pos + wd, f, acc ++ Lib.encodeRune 65533, by rw [ba_append]; rfl, hi2, hF2, by rw [← HA.out]; simp [regR, H3.out], by omega, by have := encodeRune_le 65533; simp; omega⟩
     case measure => exact HD.out
    ·have e3 : ((r : Int) == 65533) = false := by rw [beq_eq_false_iff_ne]; omega
     have H3 := Lib.hid h3
     clear h3
     by_cases h13 : r = 13
     ·have e13 : ((r : Int) == 13) = true := by subst h13; decide
      have hw1 : wd = 1 := (hsm (by omega)).2
      have H13 := Lib.hid h13
      have HW := Lib.hid hw1
      have HH := Lib.hid hhd
      clear h13 hsm hhd hw1
      by_cases hlt : pos + 1 < s.size
      ·by_cases h10 : (s[pos + 1]'hlt).toNat = 10
       ·have e10 : (((s[pos + 1]'hlt).toNat : Int) == 10) = true := by rw [beq_iff_eq]; omega
        have hd10 : (runesAt s f (pos + wd)).head? = some 10 := HH.out.2 ⟨by rw [HW.out]; exact hlt, by simp only [HW.out]; exact h10⟩
        have HX := Lib.hid hd10
        clear hd10 h10
        go_wp2
        go_roundw
        case rel => exact ⟨pos + wd, f, acc, rfl, hi2, hF2, by rw [← HA.out]; simp [regR, H13.out, HX.out], by omega, by omega⟩
        case measure => exact HD.out
       ·have e10 : (((s[pos + 1]'hlt).toNat : Int) == 10) = false := by rw [beq_eq_false_iff_ne]; omega
        have hd10 : ¬ (runesAt s f (pos + wd)).head? = some 10 := fun h => by
         obtain ⟨_, h'⟩ := HH.out.1 h
         simp only [HW.out] at h'
         exact h10 h'
        have HX := Lib.hid hd10
        clear hd10 h10
        go_wp2
        go_roundw
        case rel => exact ⟨pos + wd, f, acc ++ [10], by rw [← ba_append], hi2, hF2, by rw [← HA.out]; simp [regR, H13.out, HX.out], by omega, by simp; omega⟩
        case measure => exact HD.out
      ·have hd10 : ¬ (runesAt s f (pos + wd)).head? = some 10 := fun h => by
        obtain ⟨h', _⟩ := HH.out.1 h
        rw [HW.out] at h'
        exact hlt h'
       have HX := Lib.hid hd10
       clear hd10
       go_wp2
       go_roundw
       case rel => exact ⟨pos + wd, f, acc ++ [10], by rw [← ba_append], hi2, hF2, by rw [← HA.out]; simp [regR, H13.out, HX.out], by omega, by simp; omega⟩
       case measure => exact HD.out
     ·have e13 : ((r : Int) == 13) = false := by rw [beq_eq_false_iff_ne]; omega
      have H13 := Lib.hid h13
      clear h13 hsm hhd
      go_wp2
      go_roundw
      case rel => exact ⟨pos + wd, f, acc ++ Lib.encodeRune r, by rw [← ba_append], hi2, hF2, by rw [← HA.out]; simp [regR, H0.out, H3.out, H13.out], by omega, by simp; omega⟩
      case measure => exact HD.out
  ·have hnx : ∀ ty, (Instr.next (.pointer (some ⟨w.heap.size, 0, none⟩)) true ty).run Tryz.prog wr = _ := fun ty => Lib.run_next_end_at wr w.heap.size s pos ty hi hp
   rw [runesAt_end s fuel pos hp] at hacc
   simp only [regR, List.append_nil] at hacc
   have HA := Lib.hid hacc
   clear hacc hp hi
   go_wp2
   go_ret
   exact ⟨by rw [show acc = regular s from HA.out]; rfl, hF⟩
end Go.Proofs.YtbioecifiogffaaGreatDoor
namespace Go.Proofs.YtbioecifiogffaaGreatDoor
open Go.RowKit
def IntsAt (w : World) (v : Value) (l : List Int) : Prop :=
 ∃ ao cap, v = .slice ao l.length cap ∧ l.length ≤ cap ∧ (ao = none → l = [] ∧ cap = 0) ∧ (l ≠ [] → ∃ b off, ao = some ⟨b, off, none⟩ ∧ ∀ j, j < l.length → w.cell? ⟨b, off + j, none⟩ = some (.int .i64 (l.getD j 0)))
theorem IntsAt.cells {w : World} {v : Value} {l : List Int} (h : IntsAt w v l) {k : Nat} (hk : k < l.length) : ∃ b off cap, v = .slice (some ⟨b, off, none⟩) l.length cap ∧ b < w.heap.size ∧ w.cell? ⟨b, off + k, none⟩ = some (.int .i64 (l.getD k 0)) := by
 obtain ⟨ao, cap, rfl, h1, h2, h3⟩ := h
 have hne : l ≠ [] := by intro e; rw [e] at hk; simp at hk
 obtain ⟨b, off, rfl, hc⟩ := h3 hne
 exact ⟨b, off, cap, rfl, World.block_lt_of_cell? w _ (hc k hk), hc k hk⟩
theorem IntsAt.form {w : World} {v : Value} {l : List Int} (h : IntsAt w v l) : ∃ ao cap, v = .slice ao l.length cap := by
 obtain ⟨ao, cap, rfl, _⟩ := h
 exact ⟨ao, cap, rfl⟩
theorem fit_any (s : ByteArray) (v : Value) (l : List Int) (fa : Int) (wt : Bool) (w : World) (hv : IntsAt w v l) (hs : s.size ≤ maxLen) (hl : l.length ≤ maxLen) :
 Calls Tryz.prog 18 #[.agg #[.string s, v, .int .i64 fa, .bool wt]] w fun e w' => e = .returned (.bool (decide (s.size ≤ 1048576 ∧ l.length ≤ 1048576))) ∧ Fresh w w' := by
 unfold maxLen at hs hl
 obtain ⟨ao, cap, rfl⟩ := hv.form
 clear hv
 by_cases h1 : s.size ≤ 1048576
 ·by_cases h2 : l.length ≤ 1048576
  ·have e1 : decide ((s.size : Int) ≤ 1048576) = true := by simp; omega
   have e2 : decide ((l.length : Int) ≤ 1048576) = true := by simp; omega
   go_enter Tryz.func18, Tryz.ntmps18
   go_wp2
   go_ret
   exact ⟨by simp [h1, h2], (Keeps.refl _ _).alloc _⟩
  ·have e1 : decide ((s.size : Int) ≤ 1048576) = true := by simp; omega
   have e2 : decide ((l.length : Int) ≤ 1048576) = false := by simp; omega
   go_enter Tryz.func18, Tryz.ntmps18
   go_wp2
   go_ret
   exact ⟨by simp [h1, h2], (Keeps.refl _ _).alloc _⟩
 ·have e1 : decide ((s.size : Int) ≤ 1048576) = false := by simp; omega
  go_enter Tryz.func18, Tryz.ntmps18
  go_wp2
  go_ret
  exact ⟨by simp [h1], (Keeps.refl _ _).alloc _⟩
theorem ext_drop (r : ByteArray) (p : ByteArray) : (r.extract p.size r.size).data.toList = r.data.toList.drop p.data.toList.length := by
 rw [Lib.extract_data, List.take_of_length_le]
 ·simp
 ·simp
theorem ba_app (a b : ByteArray) : (a ++ b).data.toList = a.data.toList ++ b.data.toList := by simp
theorem ba_of (a b : ByteArray) : (⟨(a.data.toList ++ b.data.toList).toArray⟩ : ByteArray) = a ++ b := by
 apply ByteArray.ext
 simp
theorem come_end {w W : World} {p0 p1 p2 p3 : Value} (h : Fresh w W) {i0 i1 i2 i3 : Nat} : Fresh w ((((W.setCell ⟨w.heap.size + 1, i0, none⟩ p0).setCell ⟨w.heap.size + 1, i1, none⟩ p1).setCell ⟨w.heap.size + 1, i2, none⟩ p2).setCell ⟨w.heap.size + 1, i3, none⟩ p3) :=
 (((h.setCell (p := ⟨w.heap.size + 1, i0, none⟩) (fun h => by simp at h; omega) _).setCell (p := ⟨w.heap.size + 1, i1, none⟩) (fun h => by simp at h; omega) _).setCell (p := ⟨w.heap.size + 1, i2, none⟩) (fun h => by simp at h; omega) _).setCell (p := ⟨w.heap.size + 1, i3, none⟩) (fun h => by simp at h; omega) _
theorem come_any (s : ByteArray) (v : Value) (cs : List Int) (fa : Int) (wt : Bool) (w : World) (hv : IntsAt w v cs) (hs : s.size ≤ 1048576) (hl : cs.length ≤ 1048576) (hw : ∀ x ∈ cs, -9223372036854775808 ≤ x ∧ x ≤ 9223372036854775807) :
 Calls Tryz.prog 25 #[.agg #[.string s, v, .int .i64 fa, .bool wt]] w fun e w' =>
  e = .returned (.agg #[.string ⟨(comeL s.data.toList cs fa wt).text.toArray⟩, .int .i64 (comeL s.data.toList cs fa wt).err, .int .i64 (comeL s.data.toList cs fa wt).n, .int .i64 (comeL s.data.toList cs fa wt).reads]) ∧ Fresh w w' := by
 obtain ⟨ao, cap, rfl⟩ := hv.form
 obtain ⟨T, hT⟩ : ∃ T, T = comeL s.data.toList cs fa wt := ⟨_, rfl⟩
 rw [← hT]
 have HT := Lib.hid hT
 clear hT
 go_enter Tryz.func25, Tryz.ntmps25
 go_wp2
 obtain ⟨W, hW⟩ : ∃ W, W = (w.alloc (.cells #[.string s, .slice ao cs.length cap, .int .i64 fa, .bool wt] 30)).alloc (.cells #[.string ⟨#[]⟩, .int .i64 0, .int .i64 0, .int .i64 0] 56) := ⟨_, rfl⟩
 rw [← hW]
 have c0 : W.cell? ⟨w.heap.size, 0, none⟩ = some (.string s) := by rw [hW]; simp
 have c1 : W.cell? ⟨w.heap.size, 1, none⟩ = some (.slice ao cs.length cap) := by rw [hW]; simp
 have c2 : W.cell? ⟨w.heap.size, 2, none⟩ = some (.int .i64 fa) := by rw [hW]; simp
 have c3 : W.cell? ⟨w.heap.size, 3, none⟩ = some (.bool wt) := by rw [hW]; simp
 have r0 : W.cell? ⟨w.heap.size + 1, 0, none⟩ = some (.string ⟨#[]⟩) := by rw [hW]; simp
 have r1 : W.cell? ⟨w.heap.size + 1, 1, none⟩ = some (.int .i64 0) := by rw [hW]; simp
 have r2 : W.cell? ⟨w.heap.size + 1, 2, none⟩ = some (.int .i64 0) := by rw [hW]; simp
 have r3 : W.cell? ⟨w.heap.size + 1, 3, none⟩ = some (.int .i64 0) := by rw [hW]; simp
 have f0 : W.frozen? ⟨w.heap.size + 1, 0, none⟩ = false := by rw [hW]; simp
 have f1 : W.frozen? ⟨w.heap.size + 1, 1, none⟩ = false := by rw [hW]; simp
 have f2 : W.frozen? ⟨w.heap.size + 1, 2, none⟩ = false := by rw [hW]; simp
 have f3 : W.frozen? ⟨w.heap.size + 1, 3, none⟩ = false := by rw [hW]; simp
 have hF : Fresh w W := by rw [hW]; exact ((Keeps.refl _ w).alloc _).alloc _
 have hsize : W.heap.size = w.heap.size + 2 := by rw [hW]; simp
 have HC : Hid (∀ k, k < cs.length → ∃ b off, ao = some ⟨b, off, none⟩ ∧ W.cell? ⟨b, off + k, none⟩ = some (.int .i64 (cs.getD k 0))) := by
  intro k hk
  obtain ⟨b, off, cap', he, hb, hc⟩ := hv.cells hk
  cases he
  exact ⟨b, off, rfl, hF.cell_some hc (fun h => h)⟩
 have HS := Lib.hid hsize
 have HK := Lib.hid hF
 clear hW hsize hF hv
 go_loop [3, 4, 5, 6] (fun r al id k => ∃ (kk ii f : Nat) (rb ab : ByteArray), r = .string rb ∧ al = .string ab ∧ id = .int .i64 ii ∧ k = .int .i64 kk ∧ comeGo fa wt f kk rb.data.toList ab.data.toList ii (cs.drop kk) = T ∧ fuelFor f rb.data.toList (cs.drop kk) ∧ kk + f = cs.length + 2 ∧ ab.size + rb.size ≤ 1048576 ∧ ii ≤ 2) (fun _ _ _ k => cs.length + 2 - (intOf k).toNat)
 case atStart => exact ⟨0, 0, cs.length + 2, s, .empty, rfl, rfl, rfl, rfl, by rw [HT.out]; rfl, fuelFor_start _ _, by omega, by simp; omega, by omega⟩
 case round =>
  obtain ⟨kk, ii, f, rb, ab, rfl, rfl, rfl, rfl, hgo, hfu, hkf, hsz, hid⟩ := hrel
  obtain ⟨f, rfl⟩ : ∃ f', f = f' + 1 := ⟨f - 1, by have := hfu.1; omega⟩
  have HG := Lib.hid hgo
  have HF := Lib.hid hfu
  clear hgo hfu
  by_cases hfail : (kk : Int) + 1 = fa
  ·have e1 : ((kk : Int) + 1 == fa) = true := by rw [beq_iff_eq]; exact hfail
   have hres : T = ⟨[], 4, ab.size, kk + 1⟩ := by
    rw [← HG.out, comeGo, if_pos hfail]
    simp
   have HR := Lib.hid hres
   clear hres hfail
   go_wp2
   refine bodyPost_ret (v := .agg #[.string ⟨#[]⟩, .int .i64 4, .int .i64 ab.size, .int .i64 (kk + 1)]) (by simp [results, Tryz.results25, go_sem, *]) rfl ⟨by rw [show T = _ from HR.out]; simp, ?_⟩
   exact come_end HK.out
  ·have e1 : ((kk : Int) + 1 == fa) = false := by rw [beq_eq_false_iff_ne]; exact hfail
   have HN := Lib.hid hfail
   clear hfail
   go_upto_region 9 with fail
   go_cut [8] (fun d wx => d = .bool (doneOf wt rb.data.toList []) ∧ W = wx)
   case first =>
    cases wt
    ·by_cases hr : rb.data.toList = []
     ·have he : rb = .empty := by apply ByteArray.ext; simpa using hr
      subst he
      go_wp2
      go_meet
      exact ⟨rfl, rfl⟩
     ·have hb1 : rb.toList.isEmpty = false := by rw [ByteArray.toList_eq]; simpa using hr
      have hb3 : doneOf false rb.data.toList [] = false := by simp [doneOf]; simpa using hr
      have HB := Lib.hid hb3
      clear hb3 hr
      go_wp2
      go_meet
      exact ⟨by rw [show doneOf false rb.data.toList [] = false from HB.out], rfl⟩
    ·go_wp2
     go_meet
     exact ⟨rfl, rfl⟩
   case rest =>
    obtain ⟨rfl, rfl⟩ := hcut
    go_upto_if 36 with fail
    go_cut [7, 8, 9] (fun p d n wx => ∃ pb : ByteArray, p = .string pb ∧ pb.data.toList = pieceOf rb.data.toList (cs.drop kk) ∧ d = .bool (doneOf wt rb.data.toList (cs.drop kk)) ∧ W = wx)
    case first =>
     by_cases hk : kk < cs.length
     ·obtain ⟨b, off, rfl, hc⟩ := HC.out kk hk
      have hdrop : cs.drop kk = cs.getD kk 0 :: cs.drop (kk + 1) := by
       rw [List.drop_eq_getElem_cons hk]; simp [hk]
      have hwc := hw (cs.getD kk 0) (by simp [hk])
      have hlast : (cs.drop (kk + 1)).isEmpty = decide (kk + 1 = cs.length) := by
       rw [Bool.eq_iff_iff]; simp; omega
      have hsz2 : rb.data.toList.length = rb.size := by simp
      generalize cs.getD kk 0 = c at *
      have HD := Lib.hid hdrop
      have HL := Lib.hid hlast
      have HZ := Lib.hid hsz2
      clear hdrop hlast hsz2
      by_cases hcl : c < 0 ∨ (rb.size : Int) < c
      ·have hpc : pieceOf rb.data.toList (c :: cs.drop (kk + 1)) = [] := by simp only [pieceOf]; rw [if_pos (by rw [HZ.out]; exact hcl)]
       have HP := Lib.hid hpc
       clear hpc
       cases wt
       ·rcases hcl with hcl | hcl
        ·go_wp2
         go_meet
         exact ⟨_, rfl, by rw [HD.out, HP.out]; simp, by rw [HD.out]; simp [doneOf], rfl⟩
        ·go_wp2
         go_meet
         exact ⟨_, rfl, by rw [HD.out, HP.out]; simp, by rw [HD.out]; simp [doneOf], rfl⟩
       ·-- with: the piece is empty; done where nothing is left and this was the last cut
        by_cases hz0 : rb.size = 0
        ·have q1 : ((0 : Int) == (rb.size : Int)) = true := by rw [hz0]; rfl
         by_cases hlst : kk + 1 = cs.length
         ·have q2 : ((kk : Int) + 1 == (cs.length : Int)) = true := by rw [beq_iff_eq]; omega
          have hd : doneOf true rb.data.toList (c :: cs.drop (kk + 1)) = true := by rw [doneOf_cons, HP.out, HL.out, HZ.out]; simp [hz0, hlst]
          have HDN := Lib.hid hd
          clear hd hz0 hlst
          rcases hcl with hcl | hcl
          all_goals
           go_wp2
           go_meet
           exact ⟨_, rfl, by rw [HD.out, HP.out]; simp, by rw [HD.out, HDN.out], rfl⟩
         ·have q2 : ((kk : Int) + 1 == (cs.length : Int)) = false := by rw [beq_eq_false_iff_ne]; omega
          have hd : doneOf true rb.data.toList (c :: cs.drop (kk + 1)) = false := by rw [doneOf_cons, HL.out]; simp [hlst]
          have HDN := Lib.hid hd
          clear hd hz0 hlst
          rcases hcl with hcl | hcl
          all_goals
           go_wp2
           go_meet
           exact ⟨_, rfl, by rw [HD.out, HP.out]; simp, by rw [HD.out, HDN.out], rfl⟩
        ·have q1 : ((0 : Int) == (rb.size : Int)) = false := by rw [beq_eq_false_iff_ne]; omega
         have hd : doneOf true rb.data.toList (c :: cs.drop (kk + 1)) = false := by rw [doneOf_cons, HP.out, HZ.out]; simp; omega
         have HDN := Lib.hid hd
         clear hd hz0
         rcases hcl with hcl | hcl
         all_goals
          go_wp2
          go_meet
          exact ⟨_, rfl, by rw [HD.out, HP.out]; simp, by rw [HD.out, HDN.out], rfl⟩
      ·obtain ⟨m, rfl⟩ : ∃ m : Nat, c = m := ⟨c.toNat, by omega⟩
       have hm : m ≤ rb.size := by omega
       have hpc : pieceOf rb.data.toList ((m : Int) :: cs.drop (kk + 1)) = rb.data.toList.take m := by simp only [pieceOf]; rw [if_neg (by rw [HZ.out]; exact hcl)]; rfl
       have HP := Lib.hid hpc
       have hpl : (pieceOf rb.data.toList ((m : Int) :: cs.drop (kk + 1))).length = m := by rw [hpc, List.length_take, HZ.out]; omega
       have HPL := Lib.hid hpl
       clear hpc hpl hcl
       cases wt
       ·have hd : doneOf false rb.data.toList ((m : Int) :: cs.drop (kk + 1)) = false := by simp [doneOf]
        have HDN := Lib.hid hd
        clear hd
        go_wp2
        go_meet
        exact ⟨_, rfl, by rw [HD.out, HP.out, Lib.extract_data]; simp, by rw [HD.out, HDN.out], rfl⟩
       ·by_cases hz0 : m = rb.size
        ·have q1 : ((m : Int) == (rb.size : Int)) = true := by rw [hz0]; simp
         have q3 : (m == rb.size) = true := by rw [hz0]; simp
         by_cases hlst : kk + 1 = cs.length
         ·have q2 : ((kk : Int) + 1 == (cs.length : Int)) = true := by rw [beq_iff_eq]; omega
          have hd : doneOf true rb.data.toList ((m : Int) :: cs.drop (kk + 1)) = true := by rw [doneOf_cons, HPL.out, HL.out, HZ.out]; simp [hz0, hlst]
          have HDN := Lib.hid hd
          clear hd hz0 hlst
          go_wp2
          go_meet
          exact ⟨_, rfl, by rw [HD.out, HP.out, Lib.extract_data]; simp, by rw [HD.out, HDN.out], rfl⟩
         ·have q2 : ((kk : Int) + 1 == (cs.length : Int)) = false := by rw [beq_eq_false_iff_ne]; omega
          have hd : doneOf true rb.data.toList ((m : Int) :: cs.drop (kk + 1)) = false := by rw [doneOf_cons, HL.out]; simp [hlst]
          have HDN := Lib.hid hd
          clear hd hz0 hlst
          go_wp2
          go_meet
          exact ⟨_, rfl, by rw [HD.out, HP.out, Lib.extract_data]; simp, by rw [HD.out, HDN.out], rfl⟩
        ·have q1 : ((m : Int) == (rb.size : Int)) = false := by rw [beq_eq_false_iff_ne]; omega
         have q3 : (m == rb.size) = false := by rw [beq_eq_false_iff_ne]; exact hz0
         have hd : doneOf true rb.data.toList ((m : Int) :: cs.drop (kk + 1)) = false := by rw [doneOf_cons, HPL.out, HZ.out]; simp [hz0]
         have HDN := Lib.hid hd
         clear hd hz0
         go_wp2
         go_meet
         exact ⟨_, rfl, by rw [HD.out, HP.out, Lib.extract_data]; simp, by rw [HD.out, HDN.out], rfl⟩
     ·have hdrop : cs.drop kk = [] := List.drop_eq_nil_of_le (by omega)
      have HD := Lib.hid hdrop
      clear hdrop
      go_wp2
      go_meet
      exact ⟨rb, rfl, by rw [HD.out]; rfl, by rw [HD.out], rfl⟩
    case rest =>
     obtain ⟨pb, rfl, hpb, rfl, rfl⟩ := hcut
     have hsteps := HG.out
     rw [comeGo_succ, if_neg HN.out, ← hpb] at hsteps
     have hfs := @fuelFor_step _ _ _ wt HF.out
     rw [← hpb] at hfs
     have hlen2 : (ab.data.toList ++ pb.data.toList).length = ab.size + pb.size := by simp
     have hple := pieceOf_le rb.data.toList (cs.drop kk)
     rw [← hpb] at hple
     have hps : pb.size ≤ rb.size := by simpa using hple
     rw [hlen2] at hsteps
     generalize doneOf wt rb.data.toList (cs.drop kk) = d at *
     have HSt := Lib.hid hsteps
     have HFs := Lib.hid hfs
     have HPB := Lib.hid hpb
     clear hsteps hfs hlen2 hple hpb
     by_cases hlong : 300 < ab.size + pb.size
     ·have hres : T = ⟨[], 1, 0, kk + 1⟩ := by rw [← HSt.out, if_pos hlong]
      have HR := Lib.hid hres
      clear hres
      by_cases hp : pb.data.toList = []
      ·have hb1 : pb.toList.isEmpty = true := by rw [ByteArray.toList_eq, hp]; rfl
       have hb2 : pb.toList = [] := by rw [ByteArray.toList_eq, hp]
       clear hp
       cases d
       all_goals
        go_wp2
        refine bodyPost_ret (v := .agg #[.string ⟨#[]⟩, .int .i64 1, .int .i64 0, .int .i64 (kk + 1)]) (by simp [results, Tryz.results25, go_sem, *]) rfl ⟨by rw [show T = _ from HR.out]; simp, come_end HK.out⟩
      ·have hb1 : pb.toList.isEmpty = false := by rw [ByteArray.toList_eq]; simpa using hp
       clear hp
       go_wp2
       refine bodyPost_ret (v := .agg #[.string ⟨#[]⟩, .int .i64 1, .int .i64 0, .int .i64 (kk + 1)]) (by simp [results, Tryz.results25, go_sem, *]) rfl ⟨by rw [show T = _ from HR.out]; simp, come_end HK.out⟩
     ·by_cases hp : pb.data.toList = []
      ·have hb1 : pb.toList.isEmpty = true := by rw [ByteArray.toList_eq, hp]; rfl
       have hb2 : pb.toList = [] := by rw [ByteArray.toList_eq, hp]
       have HPE := Lib.hid hp
       clear hp
       cases d
       ·by_cases hidl : ii = 2
        ·have hres : T = ⟨[], 2, 0, kk + 1⟩ := by rw [← HSt.out, if_neg hlong]; simp [hidl, show pb.data.toList = [] from HPE.out]
         have HR := Lib.hid hres
         subst hidl
         clear hres
         go_wp2
         refine bodyPost_ret (v := .agg #[.string ⟨#[]⟩, .int .i64 2, .int .i64 0, .int .i64 (kk + 1)]) (by simp [results, Tryz.results25, go_sem, *]) rfl ⟨by rw [show T = _ from HR.out]; simp, come_end HK.out⟩
        ·have hff : fuelFor f (rb.data.toList.drop pb.data.toList.length) (cs.drop (kk + 1)) := by
          obtain ⟨f2, e2, h2⟩ := HFs.out rfl
          have : f = f2 := by omega
          subst this
          simpa using h2
         have hgo2 : comeGo fa wt f (kk + 1) (rb.data.toList.drop pb.data.toList.length) (ab.data.toList ++ pb.data.toList) (ii + 1) (cs.drop (kk + 1)) = T := by
          rw [← HSt.out, if_neg hlong]
          simp [show pb.data.toList = [] from HPE.out, show ¬ 2 < ii + 1 by omega]
         have HGo := Lib.hid hgo2
         have HFF := Lib.hid hff
         clear hgo2 hff
         go_wp2
         go_round
         case rel => exact ⟨kk + 1, (ii + 1), f, rb.extract pb.size rb.size, ab ++ pb, rfl, rfl, by go_num, by go_num, by rw [ext_drop, ba_app]; exact HGo.out, by rw [ext_drop]; exact HFF.out, by omega, by simp; omega, by omega⟩
         case measure => simp [intOf]; omega
       ·have hres : T = ⟨regular (ab ++ pb), 0, 0, kk + 1⟩ := by
         rw [← HSt.out, if_neg hlong, if_neg (by simp), if_pos rfl, ba_of]
        have HR := Lib.hid hres
        clear hres
        go_wp2_with (go_at_call 34; refine (refRegular_any _ _ (by simp; omega)).mono ?_)
        rintro e w2 rfl hF2
        have q0 := hF2.cell_some r0 (fun h => h)
        have q1 := hF2.cell_some r1 (fun h => h)
        have q2 := hF2.cell_some r2 (fun h => h)
        have q3 := hF2.cell_some r3 (fun h => h)
        have g0 := (hF2.frozen (p := ⟨w.heap.size + 1, 0, none⟩) (by rw [HS.out]; simp) (fun h => h)).trans f0
        have g1 := (hF2.frozen (p := ⟨w.heap.size + 1, 1, none⟩) (by rw [HS.out]; simp) (fun h => h)).trans f1
        have g2 := (hF2.frozen (p := ⟨w.heap.size + 1, 2, none⟩) (by rw [HS.out]; simp) (fun h => h)).trans f2
        have g3 := (hF2.frozen (p := ⟨w.heap.size + 1, 3, none⟩) (by rw [HS.out]; simp) (fun h => h)).trans f3
        have HF2 := Lib.hid (Keeps.tr HK.out hF2)
        clear hF2 r0 r1 r2 r3 f0 f1 f2 f3 c0 c1 c2 c3
        go_wp2
        refine bodyPost_ret (v := .agg #[.string ⟨(regular (ab ++ pb)).toArray⟩, .int .i64 0, .int .i64 0, .int .i64 (kk + 1)]) (by simp [results, Tryz.results25, go_sem, *]) rfl ⟨by rw [show T = _ from HR.out]; simp, come_end HF2.out⟩
      ·have hb1 : pb.toList.isEmpty = false := by rw [ByteArray.toList_eq]; simpa using hp
       have HPN := Lib.hid hp
       clear hp
       cases d
       ·have hff : fuelFor f (rb.data.toList.drop pb.data.toList.length) (cs.drop (kk + 1)) := by
         obtain ⟨f2, e2, h2⟩ := HFs.out rfl
         have : f = f2 := by omega
         subst this
         simpa using h2
        have hgo2 : comeGo fa wt f (kk + 1) (rb.data.toList.drop pb.data.toList.length) (ab.data.toList ++ pb.data.toList) 0 (cs.drop (kk + 1)) = T := by
         rw [← HSt.out, if_neg hlong]
         simp [show ¬ pb.data.toList = [] from HPN.out]
        have HGo := Lib.hid hgo2
        have HFF := Lib.hid hff
        clear hgo2 hff
        go_wp2
        go_round
        case rel => exact ⟨kk + 1, 0, f, rb.extract pb.size rb.size, ab ++ pb, rfl, rfl, by go_num, by go_num, by rw [ext_drop, ba_app]; exact HGo.out, by rw [ext_drop]; exact HFF.out, by omega, by simp; omega, by omega⟩
        case measure => simp [intOf]; omega
       ·have hres : T = ⟨regular (ab ++ pb), 0, 0, kk + 1⟩ := by
         rw [← HSt.out, if_neg hlong, if_neg (by simp), if_pos rfl, ba_of]
        have HR := Lib.hid hres
        clear hres
        go_wp2_with (go_at_call 34; refine (refRegular_any _ _ (by simp; omega)).mono ?_)
        rintro e w2 rfl hF2
        have q0 := hF2.cell_some r0 (fun h => h)
        have q1 := hF2.cell_some r1 (fun h => h)
        have q2 := hF2.cell_some r2 (fun h => h)
        have q3 := hF2.cell_some r3 (fun h => h)
        have g0 := (hF2.frozen (p := ⟨w.heap.size + 1, 0, none⟩) (by rw [HS.out]; simp) (fun h => h)).trans f0
        have g1 := (hF2.frozen (p := ⟨w.heap.size + 1, 1, none⟩) (by rw [HS.out]; simp) (fun h => h)).trans f1
        have g2 := (hF2.frozen (p := ⟨w.heap.size + 1, 2, none⟩) (by rw [HS.out]; simp) (fun h => h)).trans f2
        have g3 := (hF2.frozen (p := ⟨w.heap.size + 1, 3, none⟩) (by rw [HS.out]; simp) (fun h => h)).trans f3
        have HF2 := Lib.hid (Keeps.tr HK.out hF2)
        clear hF2 r0 r1 r2 r3 f0 f1 f2 f3 c0 c1 c2 c3
        go_wp2
        refine bodyPost_ret (v := .agg #[.string ⟨(regular (ab ++ pb)).toArray⟩, .int .i64 0, .int .i64 0, .int .i64 (kk + 1)]) (by simp [results, Tryz.results25, go_sem, *]) rfl ⟨by rw [show T = _ from HR.out]; simp, come_end HF2.out⟩
end Go.Proofs.YtbioecifiogffaaGreatDoor
namespace Go.Proofs.YtbioecifiogffaaGreatDoor
open Go.RowKit
theorem heap_setCell_congr {A B : World} {p : Addr} {v : Value} (h : A.heap = B.heap) : (A.setCell p v).heap = (B.setCell p v).heap := by simp [World.setCell, h]
theorem name_world {P : Program} {c : Code} {Q : Exit → Act → World → Prop} {a : Act} {w : World} (h : ∀ X, X = w → Code.wp P c Q a X) : Code.wp P c Q a w := h w rfl
theorem RowIs.facts {w : World} {p : Option Addr} {c g : Nat} {e : TypeId} {size n m : Nat} {xs : List Value} (h : RowIs w (.slice p m c) g e size n xs) : n ≤ c ∧ (p = none → n = 0 ∧ c = 0) := by
 rcases h.1.2 with ⟨h0, h1⟩ | ⟨g', cap, cur, hv, hb, hgg, h2, _⟩
 ·cases h0
  exact ⟨by omega, fun _ => ⟨h1, rfl⟩⟩
 ·cases hv
  exact ⟨h2, fun e => by cases e⟩
theorem step_append_row {P : Program} (w : World) {ops : Array Oper} {o : Oper} {a : Act} {K : Act → World → Prop} {Q : Exit → Act → World → Prop} {E : Prop}
 (hg : o.guard = none) (s x : Operand) (t : TypeId) (hop : o.op = Op.call { callee := Callee.builtin Builtin.append, args := #[s, x], argTypes := #[t, t] })
 (e : TypeId) (i : TypeInfo) (z : Value) (size bytes : Nat) (ht : P.underlying t = some (.slice e)) (hi : P.info? e = some i) (hz : i.zero = some z)
 (hsize : i.size = size) (hby : i.bytes = bytes) (hzs : z.cells.size = size) (hsz : 0 < size)
 (v : Value) (gb n : Nat) (xs : List Value) (hs : a.eval s = v) (hrow : RowIs w v gb e size n xs)
 (ao : Option Addr) (m c : Nat) (news : List Value) (hx : a.eval x = .slice ao m c) (hl : news.length = m * size) (hnone : ao = none → m = 0 ∧ c = 0) (hnews : ∀ ad, ao = some ad → ∀ j u, news[j]? = some u → w.cell? (ad.add j) = some u) (h1 : ∀ u ∈ news, u.oneCell' = true)
 (h63 : n + m ≤ maxLen) (hbytes : (n + m) * bytes ≤ 140737488355328)
 (hK : ∀ p c' g' w', RowIs w' (.slice p (n + m) c') g' e size (n + m) (xs ++ news) → (g' = gb ∨ g' = w.heap.size) → Keeps (fun k => v.ownBlock = some k) w w' → K (a.put o.dst (.slice p (n + m) c')) w') :
 if Region.wanted o (yielded ops a.tmps) = true then Oper.wp P o a w K Q else E := by
 have hw : Region.wanted o (yielded ops a.tmps) = true := by simp [Region.wanted, hg]
 rw [if_pos hw]
 obtain ⟨p, c', g', w', hrun, r1, r2, r3⟩ := run_append_row (P := P) w t o.type e i z size bytes ht hi hz hsize hby hzs hsz v gb n xs hrow ao m c news hl hnone hnews h1 h63 hbytes
 unfold Oper.wp
 simp [execOp, hop, resolve, invoke, builtin, hs, hx, hrun, Result.andThen]
 exact hK p c' g' w' r1 r2 r3
end Go.Proofs.YtbioecifiogffaaGreatDoor
namespace Go.Proofs.YtbioecifiogffaaGreatDoor
open Go
section
variable {P : Program} {ops : Array Oper} {Q : Exit → Act → World → Prop} {md : Region.Mode} {S : World → Prop} {k : Nat}
def leadsTo (md : Region.Mode) (ops : Array Oper) : Nat → Nat → Nat → Bool
 | 0, _, _ => false
 | f + 1, k, i => match ops[k]? with | none => false | some o => o.after.any fun e => Region.binds md e && (e.on == i || leadsTo md ops f e.on i)
def Closed (md : Region.Mode) (ops : Array Oper) (listed : Array Bool) : Prop :=
 ∀ j o, ops[j]? = some o → listed.getD j false = true → ∀ e ∈ o.after, Region.binds md e = true → listed.getD e.on false = true
def closedB (md : Region.Mode) (ops : Array Oper) (listed : Array Bool) : Bool :=
 (List.range ops.size).all fun j => match ops[j]? with | none => true | some o => !listed.getD j false || o.after.all fun e => !Region.binds md e || listed.getD e.on false
theorem closedB_spec {listed : Array Bool} (h : closedB md ops listed = true) : Closed md ops listed := by
 intro j o ho hl e he hb
 have h1 := List.all_eq_true.1 h j (List.mem_range.2 (Array.getElem?_eq_some_iff.1 ho).1)
 simp only [ho, hl, Bool.not_true, Bool.false_or] at h1
 have h2 := Array.all_eq_true_iff_forall_mem.1 h1 e he
 simpa [hb] using h2
theorem getD_lt {listed : Array Bool} {x : Nat} (h : listed.getD x false = true) : x < listed.size := by
 rcases Nat.lt_or_ge x listed.size with h' | h'
 ·exact h'
 ·rw [Array.getD_eq_getD_getElem?, Array.getElem?_eq_none h'] at h
  cases h
theorem getD_set_mono {listed : Array Bool} {i x : Nat} (h : listed.getD x false = true) : (listed.setIfInBounds i true).getD x false = true := by
 have hx := getD_lt h
 rw [Array.getD_eq_getD_getElem?] at h ⊢
 rw [Array.getElem?_setIfInBounds]
 split
 ·simp [*]
 ·exact h
theorem getD_set_far {listed : Array Bool} {i x : Nat} (h : i ≠ x) : (listed.setIfInBounds i true).getD x false = listed.getD x false := by
 rw [Array.getD_eq_getD_getElem?, Array.getElem?_setIfInBounds_ne h, Array.getD_eq_getD_getElem?]
theorem Closed.set {listed : Array Bool} {i : Nat} (h : Closed md ops listed) (hr : i ∈ Region.ready md ops listed) : Closed md ops (listed.setIfInBounds i true) := by
 intro j o ho hl e he hb
 obtain ⟨_, oi, hoi, hall⟩ := mem_ready.1 hr
 by_cases hji : j = i
 ·subst hji
  rw [ho] at hoi
  cases hoi
  exact getD_set_mono (hall e he hb)
 ·rw [getD_set_far (fun e => hji e.symm)] at hl
  exact getD_set_mono (h j o ho hl e he hb)
theorem leads_spec {listed : Array Bool} (hc : Closed md ops listed) {i : Nat} : ∀ (f k : Nat) (o : Oper), ops[k]? = some o → (∀ e ∈ o.after, Region.binds md e = true → listed.getD e.on false = true) → leadsTo md ops f k i = true → listed.getD i false = true := by
 intro f
 induction f with
 | zero => intro k o _ _ h; simp [leadsTo] at h
 | succ f ih =>
  intro k o ho hall h
  unfold leadsTo at h
  simp only [ho, Array.any_eq_true'] at h
  obtain ⟨e, he, h⟩ := h
  simp only [Bool.and_eq_true, Bool.or_eq_true, beq_iff_eq] at h
  obtain ⟨hb, h⟩ := h
  have hl := hall e he hb
  rcases h with rfl | h
  ·exact hl
  ·cases hoe : ops[e.on]? with
   | none =>
    cases f with
    | zero => simp [leadsTo] at h
    | succ f => unfold leadsTo at h; simp [hoe] at h
   | some oe => exact ih e.on oe hoe (fun e' he' hb' => hc e.on oe hoe hl e' he' hb') h
def wpAnyK (P : Program) (md : Region.Mode) (ops : Array Oper) (Q : Exit → Act → World → Prop) (S : World → Prop) (k : Nat) : Nat → Array Bool → Act → World → Prop
 | 0, listed, a, w => Region.ready md ops listed = [] ∧ Q .normal a w
 | fuel + 1, listed, a, w =>
  (Region.ready md ops listed = [] → Q .normal a w) ∧
  ∀ i ∈ Region.ready md ops listed, wpOp P ops Q i (fun a' w' => (i ≠ k → S w') ∧ wpAnyK P md ops Q S k fuel (listed.setIfInBounds i true) a' w') a w
theorem wpAny_of_K : ∀ (fuel : Nat) (listed : Array Bool) (a : Act) (w : World), wpAnyK P md ops Q S k fuel listed a w → wpAny P md ops Q fuel listed a w
 | 0, _, _, _, h => h
 | fuel + 1, _, _, _, h => ⟨h.1, fun i hi => wpOp_mono (fun a' w' h' => wpAny_of_K fuel _ a' w' h'.2) (h.2 i hi)⟩
theorem wpAnyK_first {i : Nat} {oi : Oper} {v : Value} (hi : ops[i]? = some oi) (hsel : ∀ (j : Nat) (o : Oper) cs b, ops[j]? = some o → o.op ≠ .select cs b)
 (hQ : ∀ c a w, Q (.panic c) (a.put oi.dst v) w → Q (.panic c) a w) (hlead : leadsTo md ops ops.size k i = true) :
 ∀ (fuel : Nat) (listed : Array Bool) (a : Act) (w : World), Closed md ops listed →
  (∀ j oj, ops[j]? = some oj → j ≠ i → listed.getD j true = false → (∀ e ∈ oj.after, Region.binds md e = true → e.on ≠ i) → oi.apart ops oj = true) →
  i ∈ Region.ready md ops listed → YieldsIf P ops S oi v a → S w →
  wpAnyK P md ops Q S k fuel (listed.setIfInBounds i true) (a.put oi.dst v) w → wpAnyK P md ops Q S k (fuel + 1) listed a w := by
 intro fuel
 induction fuel with
 | zero =>
  intro listed a w _ _ hr hy hS H
  refine ⟨fun h => (by rw [h] at hr; cases hr), fun j hj => ?_⟩
  by_cases hji : j = i
  ·subst hji; exact hy.wpOp hi hS ⟨fun _ => hS, H⟩
  ·have := ready_mono hj hji
   rw [H.1] at this
   cases this
 | succ fuel ih =>
  intro listed a w hcl hfree hr hy hS H
  refine ⟨fun h => (by rw [h] at hr; cases hr), fun j hj => ?_⟩
  by_cases hji : j = i
  ·subst hji; exact hy.wpOp hi hS ⟨fun _ => hS, H⟩
  ·have h1 := H.2 j (ready_mono hj hji)
   obtain ⟨hjun, oj, hoj, hall⟩ := mem_ready.1 hj
   have hun := (mem_ready.1 hr).1
   have hjk : j ≠ k := by
    rintro rfl
    have h2 := leads_spec hcl _ _ _ hoj hall hlead
    have h3 := getD_lt h2
    rw [Array.getD_eq_getD_getElem?, Array.getElem?_eq_getElem h3] at hun h2
    have h4 : listed[i] = false := hun
    have h5 : listed[i] = true := h2
    rw [h4] at h5
    cases h5
   have hnot : ∀ e ∈ oj.after, Region.binds md e = true → e.on ≠ i := fun e he hb heq => by
    have h1 := hall e he hb
    have h0 := (mem_ready.1 hr).1
    rw [heq] at h1
    rcases Nat.lt_or_ge i listed.size with h' | h'
    ·simp [h'] at h0 h1; rw [h0] at h1; cases h1
    ·simp [Array.getElem?_eq_none h'] at h1
   have h2 := wpOp_putIf hoj (hfree j oj hoj hji hjun hnot) (fun cs b => hsel i oi cs b hi) (fun cs b => hsel j oj cs b hoj) hQ hy h1
   have hfree' : ∀ k ok, ops[k]? = some ok → k ≠ i → (listed.setIfInBounds j true).getD k true = false →
    (∀ e ∈ ok.after, Region.binds md e = true → e.on ≠ i) → oi.apart ops ok = true := fun k ok hk hki hun hno => by
    refine hfree k ok hk hki ?_ hno
    by_cases hjk : j = k
    ·subst hjk; exact hjun
    ·rw [getD_set_ne true hjk] at hun; exact hun
   refine wpOp_mono (fun a' w' h3 => ⟨h3.2.1, ih (listed.setIfInBounds j true) a' w' (hcl.set hj) hfree' (ready_mono hr (Ne.symm hji)) h3.1 (h3.2.1 hjk) ?_⟩) h2
   rw [Array.setIfInBounds_comm _ _ hji]
   exact h3.2.2
theorem K_take {i : Nat} {oi : Oper} {v : Value} {fuel : Nat} {listed : Array Bool} {a : Act} {w : World} (hi : ops[i]? = some oi)
 (hs : Region.noSelect ops = true) (hf : Region.free md ops listed i = true) (hr : (Region.ready md ops listed).contains i = true) (hl : leadsTo md ops ops.size k i = true) (hc : closedB md ops listed = true)
 (hQ : ∀ c a w, Q (.panic c) (a.put oi.dst v) w → Q (.panic c) a w) (hy : YieldsIf P ops S oi v a) (hS : S w)
 (h : wpAnyK P md ops Q S k fuel (listed.setIfInBounds i true) (a.put oi.dst v) w) : wpAnyK P md ops Q S k (fuel + 1) listed a w :=
 wpAnyK_first hi (Region.noSelect_spec hs) hQ hl fuel listed a w (closedB_spec hc) (Region.free_spec hi hf) (by simpa using hr) hy hS h
def okK (md : Region.Mode) (ops : Array Oper) (listed : Array Bool) (k i : Nat) : Bool :=
 Region.noSelect ops && (Region.free md ops listed i && ((Region.ready md ops listed).contains i && (leadsTo md ops ops.size k i && closedB md ops listed)))
def wpT (_ : List Nat) (P : Program) (md : Region.Mode) (ops : Array Oper) (Q : Exit → Act → World → Prop) (S : World → Prop) (k : Nat) (fuel : Nat) (listed : Array Bool) (a : Act) (w : World) : Prop := wpAnyK P md ops Q S k fuel listed a w
theorem K_is (is : List Nat) {fuel : Nat} {listed : Array Bool} {a : Act} {w : World} (h : wpT is P md ops Q S k fuel listed a w) : wpAnyK P md ops Q S k fuel listed a w := h
theorem K_no {fuel : Nat} {listed : Array Bool} {a : Act} {w : World} (h : wpAnyK P md ops Q S k fuel listed a w) : wpT [] P md ops Q S k fuel listed a w := h
theorem K_ok {is : List Nat} {i : Nat} {oi : Oper} {v : Value} {fuel : Nat} {listed : Array Bool} {a : Act} {w : World} (hi : ops[i]? = some oi) (hb : okK md ops listed k i = true)
 (hQ : ∀ c a w, Q (.panic c) (a.put oi.dst v) w → Q (.panic c) a w) (hy : YieldsIf P ops S oi v a) (hS : S w)
 (h : wpT is P md ops Q S k fuel (listed.setIfInBounds i true) (a.put oi.dst v) w) : wpT (i :: is) P md ops Q S k (fuel + 1) listed a w := by
 unfold okK at hb
 simp only [Bool.and_eq_true] at hb
 exact K_take hi hb.1 hb.2.1 hb.2.2.1 hb.2.2.2.1 hb.2.2.2.2 hQ hy hS h
theorem K_y {is : List Nat} {i : Nat} {oi : Oper} {v : Value} {fuel : Nat} {listed : Array Bool} {a : Act} {w : World} (hi : ops[i]? = some oi) (hb : okK md ops listed k i = true)
 (hQ : ∀ c a w, Q (.panic c) (a.put oi.dst v) w → Q (.panic c) a w) (hw : Region.wanted oi (yielded ops a.tmps) = true) (hy : ∀ w, S w → (execOp a.eval oi).run P w = .ok (.value v) w) (hS : S w)
 (h : wpT is P md ops Q S k fuel (listed.setIfInBounds i true) (a.put oi.dst v) w) : wpT (i :: is) P md ops Q S k (fuel + 1) listed a w :=
 K_ok hi hb hQ (.inl ⟨hw, hy⟩) hS h
theorem K_yD {is : List Nat} {i t : Nat} {oi : Oper} {v : Value} {fuel : Nat} {listed : Array Bool} {tm : Array Value} {df : List Deferred} {w : World} (hi : ops[i]? = some oi) (ht : oi.dst = some t) (hb : okK md ops listed k i = true)
 (hQ : ∀ c a w, Q (.panic c) (a.put oi.dst v) w → Q (.panic c) a w) (hw : Region.wanted oi (yielded ops (Act.mk tm df).tmps) = true) (hy : ∀ w, S w → (execOp (Act.mk tm df).eval oi).run P w = .ok (.value v) w) (hS : S w)
 (h : wpT is P md ops Q S k fuel (listed.setIfInBounds i true) ⟨tm.setIfInBounds t v, df⟩ w) : wpT (i :: is) P md ops Q S k (fuel + 1) listed ⟨tm, df⟩ w := by
 refine K_y hi hb hQ hw hy hS ?_
 rw [ht]
 exact h
theorem K_nD {is : List Nat} {i t : Nat} {oi : Oper} {fuel : Nat} {listed : Array Bool} {tm : Array Value} {df : List Deferred} {w : World} (hi : ops[i]? = some oi) (ht : oi.dst = some t) (hb : okK md ops listed k i = true)
 (hQ : ∀ c a w, Q (.panic c) (a.put oi.dst undef) w → Q (.panic c) a w) (hw : Region.wanted oi (yielded ops (Act.mk tm df).tmps) = false) (hS : S w)
 (h : wpT is P md ops Q S k fuel (listed.setIfInBounds i true) ⟨tm.setIfInBounds t undef, df⟩ w) : wpT (i :: is) P md ops Q S k (fuel + 1) listed ⟨tm, df⟩ w := by
 refine K_ok hi hb hQ (.inr ⟨hw, rfl⟩) hS ?_
 rw [ht]
 exact h
theorem K_one {i : Nat} {o : Oper} {fuel : Nat} {listed : Array Bool} {a : Act} {w : World} (hr : Region.ready md ops listed = [i]) (ho : ops[i]? = some o)
 (h : ∀ K' : Act → World → Prop, Shut (∀ a w, S w → (S w → wpAnyK P md ops Q S k fuel (listed.setIfInBounds i true) a w) → K' a w) → if Region.wanted o (yielded ops a.tmps) = true then Oper.wp P o a w K' Q else K' (a.put o.dst undef) w) :
 wpAnyK P md ops Q S k (fuel + 1) listed a w :=
 ⟨fun h0 => (by rw [hr] at h0; cases h0), fun j hj => by
   rw [hr] at hj
   obtain rfl := List.mem_singleton.1 hj
   exact wpOp_step ho (fun K' hK => h K' (fun a w hS hW => hK a w ⟨fun _ => hS, hW hS⟩))⟩
theorem K_last {o : Oper} {fuel : Nat} {listed : Array Bool} {a : Act} {w : World} (hr : Region.ready md ops listed = [k]) (ho : ops[k]? = some o)
 (h : ∀ K' : Act → World → Prop, Shut (∀ a w, wpAnyK P md ops Q S k fuel (listed.setIfInBounds k true) a w → K' a w) → if Region.wanted o (yielded ops a.tmps) = true then Oper.wp P o a w K' Q else K' (a.put o.dst undef) w) :
 wpAnyK P md ops Q S k (fuel + 1) listed a w :=
 ⟨fun h0 => (by rw [hr] at h0; cases h0), fun j hj => by
   rw [hr] at hj
   obtain rfl := List.mem_singleton.1 hj
   exact wpOp_step ho (fun K' hK => h K' (fun a w hW => hK a w ⟨fun h => absurd rfl h, hW⟩))⟩
theorem K_done {listed : Array Bool} {a : Act} {w : World} (hr : Region.ready md ops listed = []) (h : Q .normal a w) : ∀ fuel, wpAnyK P md ops Q S k fuel listed a w
 | 0 => ⟨hr, h⟩
 | _ + 1 => ⟨fun _ => h, by rw [hr]; simp⟩
theorem wp_region_K {id : Nat} {a : Act} {w : World} (k : Nat) (S : World → Prop) (hm : P.follows .mixedOrders = true)
 (h : wpAnyK P .any ops Q S k ops.size (Array.replicate ops.size false) a w.drew) : (Code.region id ops true).wp P Q a w :=
 wp_region_any hm (wpAny_of_K _ _ _ _ h)
end
end Go.Proofs.YtbioecifiogffaaGreatDoor
namespace Go.Proofs.YtbioecifiogffaaGreatDoor
open Go.RowKit
theorem putObj_keeps (w : World) (l : Nat) (o : Obj) : Keeps (fun j => j = l) w (w.putObj l o) :=
 ⟨rfl, rfl, rfl, by simp, fun k _ hk => World.putObj_heap_other hk⟩
def rPost (l : Nat) (r : Loop) (R : Ending → World → Prop) : Exit → Act → World → Prop
 | .normal, _, w => w.heap[l]? = some (.loop { r with state := .busy }) ∧ R (.returned (.bool true)) (w.putObj l (.loop { r with state := .ready, pending := none }))
 | .ret, _, w => w.heap[l]? = some (.loop { r with state := .busy }) ∧ R (.returned (.bool false)) (w.putObj l (.loop { r with state := .done, pending := some .ret }))
 | .exit id, _, w => w.heap[l]? = some (.loop { r with state := .busy }) ∧ R (.returned (.bool false)) (w.putObj l (.loop { r with state := .done, pending := some (.exit id) }))
 | .goto t, _, w => w.heap[l]? = some (.loop { r with state := .busy }) ∧ R (.returned (.bool false)) (w.putObj l (.loop { r with state := .done, pending := some (.goto t) }))
 | .panic _, _, _ => False
 | .outgrown, _, _ => False
theorem yield_round {P : Program} {l : Nat} {r : Loop} {args : Array Value} {W : World} {R : Ending → World → Prop} (hl : W.heap[l]? = some (.loop r)) (hr : r.state = .ready) (hs : args.size = r.params.size)
 (h : r.assign.wpIn (Fence.wide.inRound l) 0 P (Exit.then (fun a1 w1 => w1.heap[l]? = some (.loop r) ∧ r.body.wpIn (Fence.wide.inRound l) 0 P (rPost l r R) a1 (w1.putObj l (.loop { r with state := .busy }))) (fun _ _ _ => False))
   { tmps := (r.params.zip args).foldl (fun tmps (t, a) => tmps.setIfInBounds t a) r.tmps, defers := [] } W) :
 YieldAt Fence.wide 0 P l args W R := by
 refine ⟨r.fn, _, r.assign, r.body, run_yield hl hs, roundIn_of_wpIn trivial ?_⟩
 refine wpIn_mono h ?_
 intro e a1 w1 hq
 cases e with
 | normal =>
  obtain ⟨h1, h2⟩ := hq
  refine ⟨_, run_beginRound h1 hr, wpIn_mono h2 ?_⟩
  intro e2 a2 w2 hq2
  cases e2 with
  | normal => exact ⟨_, _, run_endRound none hq2.1, hq2.2⟩
  | ret => exact ⟨_, _, run_endRound (some .ret) hq2.1, hq2.2⟩
  | exit id => exact ⟨_, _, run_endRound (some (.exit id)) hq2.1, hq2.2⟩
  | goto t => exact ⟨_, _, run_endRound (some (.goto t)) hq2.1, hq2.2⟩
  | panic c => exact hq2.elim
  | outgrown => exact hq2.elim
 | ret => exact hq.elim
 | exit id => exact hq.elim
 | goto t => exact hq.elim
 | panic c => exact hq.elim
 | outgrown => exact hq.elim
theorem yield_round' {P : Program} {l : Nat} {r : Loop} {args : Array Value} {W : World} {R : Ending → World → Prop} {asg body : Code} {tm : Array Value} (bz : Loop) (hl : W.heap[l]? = some (.loop r)) (hr : r.state = .ready) (hs : args.size = r.params.size)
 (h1 : r.assign = asg) (h2 : r.body = body) (h3 : { r with state := .busy } = bz) (h4 : (r.params.zip args).foldl (fun tmps (t, a) => tmps.setIfInBounds t a) r.tmps = tm)
 (h : asg.wpIn (Fence.wide.inRound l) 0 P (Exit.then (fun a1 w1 => w1.heap[l]? = some (.loop r) ∧ body.wpIn (Fence.wide.inRound l) 0 P (rPost l r R) a1 (w1.putObj l (.loop bz))) (fun _ _ _ => False)) { tmps := tm, defers := [] } W) :
 YieldAt Fence.wide 0 P l args W R := by
 subst h1 h2 h3 h4
 exact yield_round hl hr hs h
theorem wp_range {P : Program} {g : Operand} {ps : Array Tmp} {assign body : Code} {Q : Exit → Act → World → Prop} {a : Act} {w : World} {gf : Nat} {caps : Array Value}
 (hg : a.eval g = .func (.func gf) #[] caps) (eg : ∀ args w, (callFunc gf args).run P w = .ok (.enter gf args) w)
 (h : ∀ (fn : FuncId) (W : World), Fresh w W → W.heap.size = w.heap.size + 2 → W.heap[w.heap.size]? = some (.deferred (some [])) →
   W.heap[w.heap.size + 1]? = some (.loop { state := .ready, pending := none, fn, tmps := a.tmps, params := ps, assign, body, defers := w.heap.size }) →
   Calls P gf (#[.func (.yield (w.heap.size + 1)) #[] #[]] ++ caps) W fun e w3 => (∃ v, e = .returned v) ∧ ∃ r, w3.heap[w.heap.size + 1]? = some (.loop r) ∧ r.state ≠ .busy ∧
    (match r.pending with
     | none => Q .normal { a with defers := { target := .collected w.heap.size, args := #[] } :: a.defers } (w3.putObj (w.heap.size + 1) (.loop { r with state := .exhausted }))
     | some c => c.wp P Q { a with defers := { target := .collected w.heap.size, args := #[] } :: a.defers } (w3.putObj (w.heap.size + 1) (.loop { r with state := .exhausted })))) :
 (Code.rangeFunc g ps assign body).wp P Q a w := by
 refine (wpIn_wide (n := 0)).1 ?_
 refine wpIn_rangeFunc ?_
 intro fn hfn
 rw [Fence.wide_round]
 obtain ⟨W1, hW1⟩ : ∃ W1, (w.alloc (.deferred (some []))).alloc (.loop { state := .ready, pending := none, fn, tmps := a.tmps, params := ps, assign, body, defers := w.heap.size }) = W1 := ⟨_, rfl⟩
 have hF : Fresh w W1 := by rw [← hW1]; exact ((Keeps.refl _ w).alloc _).alloc _
 have hz : W1.heap.size = w.heap.size + 2 := by rw [← hW1]; simp
 have hL1 : W1.heap[w.heap.size + 1]? = some (.loop { state := .ready, pending := none, fn, tmps := a.tmps, params := ps, assign, body, defers := w.heap.size }) := by
  rw [← hW1]; have := World.alloc_heap_new (w.alloc (.deferred (some []))) (.loop { state := .ready, pending := none, fn, tmps := a.tmps, params := ps, assign, body, defers := w.heap.size }); rwa [World.size_alloc] at this
 have hK1 : W1.heap[w.heap.size]? = some (.deferred (some [])) := by
  rw [← hW1]; exact (Below.heap_alloc _ _ _ (by simp)).trans (World.alloc_heap_new w _)
 refine ⟨w.heap.size + 1, [{ target := .collected w.heap.size, args := #[] }], W1, { target := .fn (.func gf) caps, args := #[.func (.yield (w.heap.size + 1)) #[] #[]] }, W1, gf,
   #[.func (.yield (w.heap.size + 1)) #[] #[]] ++ caps, W1, ?_, ?_, ?_, ?_, fun h => by simp [Fence.wide] at h, ?_⟩
 ·rw [← hW1]; exact run_enterLoop_outer _ _ _ _ _
 ·simp only [resolve, hg]
  simp [go_sem]
 ·intro f' hf'; trivial
 ·simp [invoke, go_sem, eg]
 ·refine (callsIn_wide.2 (h fn W1 hF hz hK1 hL1)).mono ?_
  rintro e w3 ⟨⟨v, rfl⟩, r, hr, hb, hq⟩
  refine ⟨_, _, run_endLoop hr hb, ?_⟩
  cases hp : r.pending with
  | none => rw [hp] at hq; exact hq
  | some c => rw [hp] at hq; exact (wpIn_wide (n := 0)).2 hq
theorem calls_marks {P : Program} {f : FuncId} {fn : Func} {c : Code} {args : Array Value} {w : World} {R : Ending → World → Prop} (hf : P.funcs[f]? = some fn) (hb : fn.body = some c)
 (h : c.wp P (bodyPostM Fence.wide 0 P fn R) { tmps := args ++ Array.replicate (fn.ntmps - args.size) undef, defers := [] } w) : Calls P f args w R :=
 callsIn_wide.1 (callsIn_of_wp_marks (n := 0) hf hb trivial ((wpIn_wide (n := 0)).2 h))
theorem postM_ret0 {P : Program} {fn : Func} {R : Ending → World → Prop} {tmps : Array Value} {w : World} {v : Value} (hr : (results fn tmps).run P w = .ok v w) (h : R (.returned v) w) : bodyPostM Fence.wide 0 P fn R .ret { tmps := tmps, defers := [] } w :=
 ⟨v, hr, h⟩
theorem postM_ret1 {P : Program} {fn : Func} {R : Ending → World → Prop} {tmps : Array Value} {w : World} {D : Nat} {v : Value} (hD : w.heap[D]? = some (.deferred (some []))) (hr : (results fn tmps).run P (w.putObj D (.deferred none)) = .ok v (w.putObj D (.deferred none)))
 (h : R (.returned v) (w.putObj D (.deferred none))) : bodyPostM Fence.wide 0 P fn R .ret { tmps := tmps, defers := [{ target := .collected D, args := #[] }] } w :=
 ⟨by simp, .inl ⟨D, _, rfl, run_takeDeferred hD, v, hr, h⟩⟩
end Go.Proofs.YtbioecifiogffaaGreatDoor
