/- Small laws of no program: what a step keeps, a row that the call owns with its block named, append onto it. No condition. -/
import Derived.Test.YtbioecifiogffaaDoorProg
import Derived.WalkKit
import Derived.WalkSpells
import Derived.WalkLawsBesides
import Derived.Lib.OthersKept
import Derived.Lib.FrozenHead2
import Derived.Lib.Hide
namespace Go.Proofs.YtbioecifiogffaaDoor
open Go.RowKit

/-- Every block of w that is not in D stands in w' as it stood; the streams stand. -/
structure Keeps (D : Nat → Prop) (w w' : World) : Prop where
  os : w'.os = w.os
  tape : w'.tape = w.tape
  output : w'.output = w.output
  size : w.heap.size ≤ w'.heap.size
  block : ∀ k, k < w.heap.size → ¬ D k → w'.heap[k]? = w.heap[k]?

namespace Keeps
variable {D D' : Nat → Prop} {a b c w w' : World}
theorem refl (D : Nat → Prop) (w : World) : Keeps D w w := ⟨rfl, rfl, rfl, Nat.le_refl _, fun _ _ _ => rfl⟩
theorem trans (h : Keeps D a b) (k : Keeps D' b c) (hD : ∀ j, j < a.heap.size → D' j → D j) : Keeps D a c :=
  ⟨k.os.trans h.os, k.tape.trans h.tape, k.output.trans h.output, Nat.le_trans h.size k.size, fun j hj hn =>
    (k.block j (Nat.lt_of_lt_of_le hj h.size) (fun e => hn (hD j hj e))).trans (h.block j hj hn)⟩
theorem tr (h : Keeps D a b) (k : Keeps D b c) : Keeps D a c := h.trans k (fun _ _ h => h)
theorem mono (h : Keeps D w w') (hD : ∀ j, j < w.heap.size → D j → D' j) : Keeps D' w w' :=
  ⟨h.os, h.tape, h.output, h.size, fun j hj hn => h.block j hj (fun e => hn (hD j hj e))⟩
theorem drew (h : Keeps D a w) : Keeps D a w.drew := ⟨h.os, h.tape, h.output, h.size, h.block⟩
theorem drewN (h : Keeps D a w) (n : Nat) : Keeps D a (w.drewN n) := ⟨h.os, h.tape, h.output, h.size, h.block⟩
theorem alloc (h : Keeps D a w) (o : Obj) : Keeps D a (w.alloc o) :=
  ⟨h.os, h.tape, h.output, Nat.le_trans h.size (by simp), fun k hk hn => (Below.heap_alloc w o k (Nat.lt_of_lt_of_le hk h.size)).trans (h.block k hk hn)⟩
theorem setCell (h : Keeps D a w) {p : Addr} (hp : p.block < a.heap.size → D p.block) (u : Value) : Keeps D a (w.setCell p u) :=
  ⟨h.os, h.tape, h.output, Nat.le_trans h.size (by simp [World.setCell]), fun k hk hn =>
    (Below.heap_setCell w p u k (fun e => hn (by rw [e] at hk ⊢; exact hp hk))).trans (h.block k hk hn)⟩
theorem freeze (h : Keeps D a w) {p : Addr} (hp : p.block < a.heap.size → D p.block) (n : Nat) : Keeps D a (w.freeze p n) := by
  unfold World.freeze
  split
  · exact h
  · refine ⟨h.os, h.tape, h.output, Nat.le_trans h.size (by simp), fun k hk hn => ?_⟩
    simp only [Array.getElem?_modify]
    rw [if_neg (fun e => hn (by rw [← e] at hk ⊢; exact hp hk))]
    exact h.block k hk hn
theorem cell (h : Keeps D w w') {p : Addr} (hp : p.block < w.heap.size) (hn : ¬ D p.block) : w'.cell? p = w.cell? p := World.cell?_of_block (h.block p.block hp hn)
theorem cell_some (h : Keeps D w w') {p : Addr} {v : Value} (hv : w.cell? p = some v) (hn : ¬ D p.block) : w'.cell? p = some v :=
  (h.cell (World.block_lt_of_cell? w p hv) hn).trans hv
theorem frozen (h : Keeps D w w') {p : Addr} (hp : p.block < w.heap.size) (hn : ¬ D p.block) : w'.frozen? p = w.frozen? p := World.frozen?_of_block (h.block p.block hp hn)
theorem heap_some (h : Keeps D w w') {k : Nat} {o : Obj} (hv : w.heap[k]? = some o) (hn : ¬ D k) : w'.heap[k]? = some o :=
  (h.block k (Array.getElem?_eq_some_iff.1 hv).1 hn).trans hv
theorem grown {row : Option Nat} (h : Keeps D a w) (hg : w.grownBy w' row) (hr : ∀ k, row = some k → k < a.heap.size → D k) : Keeps D a w' :=
  ⟨hg.os.trans h.os, hg.tape.trans h.tape, hg.output.trans h.output, Nat.le_trans h.size hg.size, fun k hk hn =>
    (hg.block k (Nat.lt_of_lt_of_le hk h.size) (fun e => hn (hr k e.symm hk))).trans (h.block k hk hn)⟩
theorem of_below {B : Nat} (h : Below B w w') : Keeps (fun k => B ≤ k) w w' :=
  ⟨h.os, h.tape, h.output, h.size, fun k _ hn => h.block k (by omega)⟩
theorem of_below' (h : Below w.heap.size w w') : Keeps D w w' :=
  ⟨h.os, h.tape, h.output, h.size, fun k hk _ => h.block k hk⟩
theorem below (h : Keeps D w w') {B : Nat} (hB : B ≤ w.heap.size) (hD : ∀ k, k < B → ¬ D k) : Below B w w' :=
  ⟨h.os, h.tape, h.output, h.size, fun k hk => h.block k (Nat.lt_of_lt_of_le hk hB) (hD k hk)⟩
end Keeps

/-- Nothing that was there has turned. -/
abbrev Fresh (w w' : World) : Prop := Keeps (fun _ => False) w w'
theorem Fresh.below {w w' : World} (h : Fresh w w') : Below w.heap.size w w' := Keeps.below h (Nat.le_refl _) (fun _ _ h => h)
theorem Fresh.of {w w' : World} (h : Below w.heap.size w w') : Fresh w w' := Keeps.of_below' h

/-- The slice value v owns the cells xs, n elements; its block, if it has one, is g. -/
def RowIs (w : World) (v : Value) (g : Nat) (e : TypeId) (size n : Nat) (xs : List Value) : Prop :=
  w.ownsRow 0 e size v n xs ∧ ∀ k, v.ownBlock = some k → k = g

theorem RowIs.nil (w : World) (g : Nat) (e : TypeId) (size : Nat) : RowIs w (.slice none 0 0) g e size 0 [] :=
  ⟨World.ownsRow_nil _ _ _ _, fun k h => by simp [Value.ownBlock] at h⟩

theorem RowIs.kept {D : Nat → Prop} {w w' : World} {v : Value} {g : Nat} {e : TypeId} {size n : Nat} {xs : List Value} (h : RowIs w v g e size n xs) (hk : Keeps D w w') (hn : g < w.heap.size → ¬ D g) : RowIs w' v g e size n xs := by
  refine ⟨⟨h.1.1, ?_⟩, h.2⟩
  rcases h.1.2 with hh | ⟨g', cap, cur, rfl, hb, hgg, rest⟩
  · exact .inl hh
  · have e1 : g' = g := h.2 g' rfl
    subst e1
    exact .inr ⟨g', cap, cur, rfl, hb, hk.heap_some hgg (hn (Array.getElem?_eq_some_iff.1 hgg).1), rest⟩

theorem RowIs.lt {w : World} {p : Option Addr} {c g : Nat} {e : TypeId} {size n m : Nat} {xs : List Value} (h : RowIs w (.slice p m c) g e size n xs) (hn : 0 < n) : g < w.heap.size ∧ p = some ⟨g, 0, none⟩ ∧ m = n := by
  rcases h.1.2 with ⟨_, h0⟩ | ⟨g', cap, cur, hv, hb, hgg, rest⟩
  · omega
  · have e1 : g' = g := h.2 g' (by rw [hv]; rfl)
    subst e1
    cases hv
    exact ⟨(Array.getElem?_eq_some_iff.1 hgg).1, rfl, rfl⟩

theorem RowIs.len {w : World} {p : Option Addr} {c g : Nat} {e : TypeId} {size n m : Nat} {xs : List Value} (h : RowIs w (.slice p m c) g e size n xs) : m = n := by
  rcases h.1.2 with ⟨h0, h1⟩ | ⟨g', cap, cur, hv, hb, hgg, rest⟩
  · cases h0; exact h1.symm
  · cases hv; rfl

theorem RowIs.form {w : World} {v : Value} {g : Nat} {e : TypeId} {size n : Nat} {xs : List Value} (h : RowIs w v g e size n xs) : ∃ p c, v = .slice p n c := by
  rcases h.1.2 with ⟨rfl, rfl⟩ | ⟨g', cap, cur, rfl, hb, hgg, rest⟩
  · exact ⟨_, _, rfl⟩
  · exact ⟨_, _, rfl⟩

theorem RowIs.cellAt {w : World} {p : Option Addr} {c g : Nat} {e : TypeId} {size n m : Nat} {xs : List Value} (h : RowIs w (.slice p m c) g e size n xs) (hn : 0 < n) (j : Nat) (hj : j < n * size) : w.cell? ⟨g, j, none⟩ = xs[j]? := by
  obtain ⟨_, rfl, rfl⟩ := h.lt hn
  exact h.1.cellAt j hj
theorem RowIs.frozenAt {w : World} {p : Option Addr} {c g : Nat} {e : TypeId} {size n m : Nat} {xs : List Value} (h : RowIs w (.slice p m c) g e size n xs) (hn : 0 < n) (j : Nat) : w.frozen? ⟨g, j, none⟩ = false := by
  obtain ⟨_, rfl, rfl⟩ := h.lt hn
  exact h.1.frozenAt j

/-- Append onto a row that the call owns: the same block, or the next new one. -/
theorem run_append_row {P : Program} (w : World) (t ty e : TypeId) (i : TypeInfo) (z : Value) (size bytes : Nat) (ht : P.underlying t = some (.slice e)) (hi : P.info? e = some i) (hz : i.zero = some z)
    (hsize : i.size = size) (hby : i.bytes = bytes) (hzs : z.cells.size = size) (hsz : 0 < size)
    (v : Value) (g n : Nat) (xs : List Value) (hrow : RowIs w v g e size n xs)
    (ao : Option Addr) (m c : Nat) (news : List Value) (hl : news.length = m * size) (hnone : ao = none → m = 0 ∧ c = 0) (hnews : ∀ ad, ao = some ad → ∀ j u, news[j]? = some u → w.cell? (ad.add j) = some u) (h1 : ∀ u ∈ news, u.oneCell' = true)
    (h63 : n + m ≤ maxLen) (hbytes : (n + m) * bytes ≤ 140737488355328) :
    ∃ p c' g' w', (Builtin.append_ #[t, t] ty #[v, .slice ao m c]).run P w = .ok (.slice p (n + m) c') w' ∧ RowIs w' (.slice p (n + m) c') g' e size (n + m) (xs ++ news) ∧ (g' = g ∨ g' = w.heap.size) ∧ Keeps (fun k => v.ownBlock = some k) w w' := by
  obtain ⟨hown, hblk⟩ := hrow
  cases ao with
  | none =>
    obtain ⟨rfl, rfl⟩ := hnone rfl
    have hn0 : news = [] := List.eq_nil_of_length_eq_zero (by simpa using hl)
    subst hn0
    have hrun := run_append_owned_none (P := P) w 0 t ty e i size ht hi v n xs hown
    obtain ⟨p, c', rfl⟩ := RowIs.form ⟨hown, hblk⟩
    refine ⟨p, c', g, w, hrun, ?_, .inl rfl, Keeps.refl _ _⟩
    exact ⟨by simpa using hown, hblk⟩
  | some ad =>
    have hn' := hnews ad rfl
    -- where it is nil, or has no room, the block is new; else the same
    rcases hown.2 with ⟨rfl, rfl⟩ | ⟨g', cap, cur, rfl, hbg, hg, hnc, hcm, hcs, htake⟩
    · obtain ⟨v', w', hr, ho, hgr, hnil⟩ := run_append_own (P := P) w w.heap.size t ty e i z size bytes ht hi hz hsize hby hzs hsz (.slice none 0 0) 0 xs ⟨hown.1, .inl ⟨rfl, rfl⟩⟩ ad m c news hl hn' h1 h63 hbytes (Nat.le_refl _)
      have hk : Keeps (fun k => (Value.slice none 0 0).ownBlock = some k) w w' := (Keeps.refl _ w).grown hgr (fun k e _ => by cases e)
      rcases ho.2 with ⟨rfl, h0⟩ | ⟨g2, cap2, cur2, rfl, hb2, hg2, r2⟩
      · have h00 : 0 + m = 0 := h0
        refine ⟨none, 0, g, w', by rw [h00]; exact hr, ⟨⟨ho.1, .inl ⟨by rw [h00], h0⟩⟩, fun k e => by cases e⟩, .inl rfl, hk⟩
      · have hlast : g2 = w.heap.size := by
          by_cases hm : m = 0
          · subst hm
            have hn0 : news = [] := List.eq_nil_of_length_eq_zero (by simpa using hl)
            subst hn0
            exact absurd (hnil.2 ⟨rfl, rfl⟩) (by intro e; cases e)
          · have hx : xs = [] := List.eq_nil_of_length_eq_zero (by simpa using hown.1)
            subst hx
            subst hsize
            subst hby
            have hr2 := run_append_nil (P := P) w t ty e i z ht hi hz ad m c news hl hn' (by omega) (by have := h63; simp only [maxLen] at this; omega) (by rw [Nat.zero_add] at hbytes; omega)
            rw [hr2] at hr
            injection hr with e1 e2
            injection e1 with e3
            injection e3 with e4
            injection e4 with e5
            exact e5.symm
        subst hlast
        exact ⟨some ⟨w.heap.size, 0, none⟩, cap2, w.heap.size, w', hr, ⟨⟨ho.1, .inr ⟨w.heap.size, cap2, cur2, rfl, Nat.zero_le _, hg2, r2⟩⟩, fun k e => by cases e; rfl⟩, .inr rfl, hk⟩
    · have e1 : g' = g := hblk g' rfl
      subst e1
      by_cases hroom : n + m ≤ cap
      · obtain ⟨w', hr, ho, hgr⟩ := run_append_fits (P := P) w 0 t ty e i size ht hi hsize g' n cap xs ⟨hown.1, .inr ⟨g', cap, cur, rfl, hbg, hg, hnc, hcm, hcs, htake⟩⟩ ad m c news hl hn' h1 hroom
        exact ⟨some ⟨g', 0, none⟩, cap, g', w', hr, ⟨ho, fun k e => by cases e; rfl⟩, .inl rfl, (Keeps.refl _ w).grown hgr (fun k e _ => e)⟩
      · subst hsize
        subst hby
        have holds : ∀ j u, xs[j]? = some u → w.cell? ((⟨g', 0, none⟩ : Addr).add j) = some u := World.ownsRow.cells (v := .slice (some ⟨g', 0, none⟩) n cap) hown (g := g') rfl
        have hr := run_append_grow (P := P) w t ty e i z ht hi hz ⟨g', 0, none⟩ n cap xs hown.1 holds ad m c news hl hn' (by omega) (by have := h63; simp only [maxLen] at this; omega) (growslice_fits (by omega) hbytes)
        obtain ⟨v', w', hr', ho, hgr, _⟩ := run_append_own (P := P) w 0 t ty e i z i.size i.bytes ht hi hz rfl rfl hzs hsz (.slice (some ⟨g', 0, none⟩) n cap) n xs hown ad m c news hl hn' h1 h63 hbytes (Nat.zero_le _)
        rw [hr] at hr'
        cases hr'
        exact ⟨some ⟨w.heap.size, 0, none⟩, _, w.heap.size, _, hr, ⟨ho, fun k e => by cases e; rfl⟩, .inr rfl, (Keeps.refl _ w).grown hgr (fun k e _ => e)⟩

/-- The same as a step of the walk. -/
theorem wpList_append_row {P : Program} (w : World) {ops : Array Oper} {rest : List Oper} {o : Oper} {a : Act} {Q : Exit → Act → World → Prop}
    (hg : o.guard = none) (s x : Operand) (t : TypeId) (hop : o.op = Op.call { callee := Callee.builtin Builtin.append, args := #[s, x], argTypes := #[t, t] })
    (e : TypeId) (i : TypeInfo) (z : Value) (size bytes : Nat) (ht : P.underlying t = some (.slice e)) (hi : P.info? e = some i) (hz : i.zero = some z)
    (hsize : i.size = size) (hby : i.bytes = bytes) (hzs : z.cells.size = size) (hsz : 0 < size)
    (v : Value) (gb n : Nat) (xs : List Value) (hs : a.eval s = v) (hrow : RowIs w v gb e size n xs)
    (ao : Option Addr) (m c : Nat) (news : List Value) (hx : a.eval x = .slice ao m c) (hl : news.length = m * size) (hnone : ao = none → m = 0 ∧ c = 0) (hnews : ∀ ad, ao = some ad → ∀ j u, news[j]? = some u → w.cell? (ad.add j) = some u) (h1 : ∀ u ∈ news, u.oneCell' = true)
    (h63 : n + m ≤ maxLen) (hbytes : (n + m) * bytes ≤ 140737488355328)
    (hK : ∀ p c' g' w', RowIs w' (.slice p (n + m) c') g' e size (n + m) (xs ++ news) → (g' = gb ∨ g' = w.heap.size) → Keeps (fun k => v.ownBlock = some k) w w' → wpList P ops Q rest (a.put o.dst (.slice p (n + m) c')) w') :
    wpList P ops Q (o :: rest) a w := by
  refine wpList_plain hg fun K hK' => ?_
  obtain ⟨p, c', g', w', hrun, r1, r2, r3⟩ := run_append_row (P := P) w t o.type e i z size bytes ht hi hz hsize hby hzs hsz v gb n xs hrow ao m c news hl hnone hnews h1 h63 hbytes
  unfold Oper.wp
  simp [execOp, hop, resolve, invoke, builtin, hs, hx, hrun, Result.andThen]
  exact hK' _ _ (hK p c' g' w' r1 r2 r3)

/-- Append a string onto a row of bytes that the call owns. -/
theorem run_append_row_string {P : Program} (w : World) (t u ty e : TypeId) (i : TypeInfo) (ht : P.underlying t = some (.slice e)) (hu : P.underlying u = some .string) (hi : P.info? e = some i) (hz : i.zero = some (.int .u8 0))
    (hsize : i.size = 1) (hby : i.bytes = 1) (v : Value) (g n : Nat) (xs : List Value) (hrow : RowIs w v g e 1 n xs) (s : ByteArray) (h63 : n + s.size ≤ maxLen) (hbytes : n + s.size ≤ 140737488355328) :
    ∃ p c' g' w', (Builtin.append_ #[t, u] ty #[v, .string s]).run P w = .ok (.slice p (n + s.size) c') w' ∧ RowIs w' (.slice p (n + s.size) c') g' e 1 (n + s.size) (xs ++ Lib.strCells s) ∧ (g' = g ∨ w.heap.size ≤ g') ∧ Keeps (fun k => v.ownBlock = some k) w w' := by
  obtain ⟨hown, hblk⟩ := hrow
  rcases hown.2 with ⟨rfl, rfl⟩ | ⟨g', cap, cur, rfl, hbg, hg, hnc, hcm, hcs, htake⟩
  · obtain ⟨v', w', hr, ho, hgr, hnil⟩ := Lib.run_append_own_string (P := P) w w.heap.size t u ty e i ht hu hi hz hsize hby (.slice none 0 0) 0 xs ⟨hown.1, .inl ⟨rfl, rfl⟩⟩ s h63 hbytes (Nat.le_refl _)
    have hk : Keeps (fun k => (Value.slice none 0 0).ownBlock = some k) w w' := (Keeps.refl _ w).grown hgr (fun k e _ => by cases e)
    rcases ho.2 with ⟨rfl, h0⟩ | ⟨g2, cap2, cur2, rfl, hb2, hg2, r2⟩
    · have h00 : 0 + s.size = 0 := h0
      exact ⟨none, 0, g, w', by rw [h00]; exact hr, ⟨⟨ho.1, .inl ⟨by rw [h00], h0⟩⟩, fun k e => by cases e⟩, .inl rfl, hk⟩
    · exact ⟨some ⟨g2, 0, none⟩, cap2, g2, w', hr, ⟨⟨ho.1, .inr ⟨g2, cap2, cur2, rfl, Nat.zero_le _, hg2, r2⟩⟩, fun k e => by cases e; rfl⟩, .inr hb2, hk⟩
  · have e1 : g' = g := hblk g' rfl
    subst e1
    obtain ⟨v', w', hr, ho, hgr, hnil⟩ := Lib.run_append_own_string (P := P) w 0 t u ty e i ht hu hi hz hsize hby (.slice (some ⟨g', 0, none⟩) n cap) n xs hown s h63 hbytes (Nat.zero_le _)
    have hk : Keeps (fun k => (Value.slice (some ⟨g', 0, none⟩) n cap).ownBlock = some k) w w' := (Keeps.refl _ w).grown hgr (fun k e _ => e)
    have hxl : xs.length = n := by simpa using hown.1
    by_cases hroom : n + s.size ≤ cap
    · have hcs' : cur.size = cap := by simpa using hcs
      have hr' := Lib.run_append_room_string (P := P) w t u ty e i ht hu hi hsize g' n cap cur hg s hroom (by omega)
      rw [hr'] at hr
      cases hr
      exact ⟨_, _, g', _, hr', ⟨ho, fun k e => by cases e; rfl⟩, .inl rfl, hk⟩
    · have holds : ∀ j u, xs[j]? = some u → w.cell? ((⟨g', 0, none⟩ : Addr).add j) = some u := World.ownsRow.cells (v := .slice (some ⟨g', 0, none⟩) n cap) hown (g := g') rfl
      have hr' := Lib.run_append_grow_string (P := P) w t u ty e i (.int .u8 0) ht hu hi hz ⟨g', 0, none⟩ n cap xs (by rw [hsize]; simpa using hxl) holds s (by omega) (by simp only [maxLen] at h63; omega) (by rw [hby]; exact growslice_fits (by omega) (by omega))
      rw [hr'] at hr
      cases hr
      exact ⟨_, _, w.heap.size, _, hr', ⟨ho, fun k e => by cases e; rfl⟩, .inr (Nat.le_refl _), hk⟩

theorem wpList_append_row_string {P : Program} (w : World) {ops : Array Oper} {rest : List Oper} {o : Oper} {a : Act} {Q : Exit → Act → World → Prop} (hgd : o.guard = none) (sl x : Operand) (t u : TypeId)
    (ho : o.op = .call { callee := .builtin .append, args := #[sl, x], argTypes := #[t, u] })
    (e : TypeId) (i : TypeInfo) (ht : P.underlying t = some (.slice e)) (hu : P.underlying u = some .string) (hi : P.info? e = some i) (hz : i.zero = some (.int .u8 0))
    (hsize : i.size = 1) (hby : i.bytes = 1)
    (v : Value) (g n : Nat) (xs : List Value) (hs : a.eval sl = v) (hrow : RowIs w v g e 1 n xs) (s : ByteArray) (hx : a.eval x = .string s)
    (h63 : n + s.size ≤ maxLen) (hbytes : n + s.size ≤ 140737488355328)
    (hK : ∀ p c' g' w', RowIs w' (.slice p (n + s.size) c') g' e 1 (n + s.size) (xs ++ Lib.strCells s) → (g' = g ∨ w.heap.size ≤ g') → Keeps (fun k => v.ownBlock = some k) w w' → wpList P ops Q rest (a.put o.dst (.slice p (n + s.size) c')) w') : wpList P ops Q (o :: rest) a w := by
  refine wpList_plain hgd fun K hK' => ?_
  obtain ⟨p, c', g', w', hr, h2, h3, h4⟩ := run_append_row_string (P := P) w t u o.type e i ht hu hi hz hsize hby v g n xs hrow s h63 hbytes
  unfold Oper.wp execOp
  simp only [ho, resolve, invoke, builtin, Sem.run_bind, Sem.run_pure, Result.andThen_ok, List.map_toArray, List.map_cons, List.map_nil, hs, hx, hr]
  exact hK' _ _ (hK p c' g' w' h2 h3 h4)
end Go.Proofs.YtbioecifiogffaaDoor
