/- Rows of events that a call owns: append, the last one's text, what stays. No condition. -/
import Derived.Test.YtbioecifiogffaaDoorBase2
import Derived.Test.YtbioecifiogffaaDoorInlSpec
import Derived.Laws.OwnMore
import Derived.Maps.AppendAt
namespace Go.Proofs.YtbioecifiogffaaDoor
open Go.RowKit

/-- The slice value v owns the events L. -/
def Evs (w : World) (e : TypeId) (v : Value) (L : List Ev) : Prop := w.ownsRow 0 e 4 v L.length (evCells L)

/-- v' lies where v lay, or in a block that was not there. -/
def Grow (w : World) (v v' : Value) : Prop := ∀ k, v'.ownBlock = some k → v.ownBlock = some k ∨ w.heap.size ≤ k

theorem Grow.refl (w : World) (v : Value) : Grow w v v := fun _ h => .inl h
theorem Grow.trans {w w' : World} {a b c : Value} (h : Grow w a b) (h' : Grow w' b c) (hs : w.heap.size ≤ w'.heap.size) : Grow w a c := fun k hk => by
  rcases h' k hk with h1 | h1
  · exact h k h1
  · exact .inr (Nat.le_trans hs h1)

theorem own_kept {D : Nat → Prop} {w w' : World} {v : Value} {e : TypeId} {size n : Nat} {xs : List Value} (h : w.ownsRow 0 e size v n xs) (hk : Keeps D w w') (hn : ∀ k, v.ownBlock = some k → ¬ D k) : w'.ownsRow 0 e size v n xs := by
  refine ⟨h.1, ?_⟩
  rcases h.2 with hh | ⟨g, cap, cur, rfl, hb, hg, rest⟩
  · exact .inl hh
  · exact .inr ⟨g, cap, cur, rfl, hb, hk.heap_some hg (hn g rfl), rest⟩
theorem own_lt {w : World} {v : Value} {e : TypeId} {size n : Nat} {xs : List Value} (h : w.ownsRow 0 e size v n xs) {k : Nat} (hk : v.ownBlock = some k) : k < w.heap.size := (h.lt k hk).2
/-- Two things of two types lie in two blocks. -/
theorem own_ne {w : World} {v : Value} {e t : TypeId} {size n b : Nat} {xs : List Value} {cs : Array Value} {fr : Nat × Nat} (h : w.ownsRow 0 e size v n xs) (hb : w.heap[b]? = some (.cells cs t fr)) (hne : t ≠ e) : v.ownBlock ≠ some b := by
  intro e0
  rcases h.2 with ⟨rfl, _⟩ | ⟨g, cap, cur, rfl, _, hg, _⟩
  · cases e0
  · have : g = b := by simpa [Value.ownBlock] using e0
    subst this
    rw [hb] at hg
    cases hg
    exact hne rfl
theorem own_ne2 {w : World} {v u : Value} {e t : TypeId} {size size' n n' b : Nat} {xs ys : List Value} (h : w.ownsRow 0 e size v n xs) (h' : w.ownsRow 0 t size' u n' ys) (hne : t ≠ e) (hu : u.ownBlock = some b) : v.ownBlock ≠ some b := by
  rcases h'.2 with ⟨rfl, _⟩ | ⟨g, cap, cur, rfl, _, hg, _⟩
  · cases hu
  · have : g = b := by simpa [Value.ownBlock] using hu
    subst this
    exact own_ne h hg hne
theorem own_form {w : World} {v : Value} {e : TypeId} {size n : Nat} {xs : List Value} (h : w.ownsRow 0 e size v n xs) : ∃ p c, v = .slice p n c ∧ n ≤ c ∧ (p = none → n = 0 ∧ c = 0) ∧ ∀ a, p = some a → ∃ g, a = ⟨g, 0, none⟩ ∧ g < w.heap.size := by
  rcases h.2 with ⟨rfl, rfl⟩ | ⟨g, cap, cur, rfl, hb, hg, hc, _⟩
  · exact ⟨_, _, rfl, Nat.le_refl _, fun _ => ⟨rfl, rfl⟩, fun a h => by cases h⟩
  · exact ⟨_, _, rfl, hc, (fun h => by cases h), fun a h => by cases h; exact ⟨g, rfl, (Array.getElem?_eq_some_iff.1 hg).1⟩⟩
theorem own_cells {w : World} {v : Value} {e : TypeId} {size n : Nat} {xs : List Value} (h : w.ownsRow 0 e size v n xs) {p : Option Addr} {m c : Nat} (hv : v = .slice p m c) : ∀ ad, p = some ad → ∀ j u, xs[j]? = some u → w.cell? (ad.add j) = some u := by
  intro ad had j u hu
  subst hv
  subst had
  obtain ⟨p', c', he, _, _, hg⟩ := own_form h
  cases he
  obtain ⟨g, rfl, _⟩ := hg ad rfl
  exact World.ownsRow.cells h (g := g) rfl j u hu

theorem RowIs.own {w : World} {v : Value} {e : TypeId} {size n : Nat} {xs : List Value} (h : w.ownsRow 0 e size v n xs) : RowIs w v ((v.ownBlock).getD w.heap.size) e size n xs :=
  ⟨h, fun k hk => by rw [hk]; rfl⟩
theorem Grow.ofRow {w w' : World} {v v' : Value} {g' : Nat} {e : TypeId} {size n : Nat} {xs : List Value} (h : RowIs w' v' g' e size n xs) (hg : g' = (v.ownBlock).getD w.heap.size ∨ g' = w.heap.size) : Grow w v v' := by
  intro k hk
  obtain rfl := h.2 k hk
  rcases hg with hg | hg
  · cases hv : v.ownBlock with
    | none => rw [hv] at hg; exact .inr (by rw [hg]; exact Nat.le_refl _)
    | some k => rw [hv] at hg; exact .inl (by rw [hg]; rfl)
  · exact .inr (by rw [hg]; exact Nat.le_refl _)

/-- Append onto a row that the call owns, as a step of the walk. -/
theorem wpList_append_mine {P : Program} (w : World) {ops : Array Oper} {rest : List Oper} {o : Oper} {a : Act} {Q : Exit → Act → World → Prop}
    (hg : o.guard = none) (s x : Operand) (t : TypeId) (hop : o.op = Op.call { callee := Callee.builtin Builtin.append, args := #[s, x], argTypes := #[t, t] })
    (e : TypeId) (z : Value) (size bytes : Nat) (ht : P.underlying t = some (.slice e)) (hi : (P.info? e).map (fun i => (i.zero, i.size, i.bytes)) = some (some z, size, bytes)) (hzs : z.cells.size = size) (hsz : 0 < size)
    (v : Value) (n : Nat) (xs : List Value) (hs : a.eval s = v) (hrow : w.ownsRow 0 e size v n xs)
    (ao : Option Addr) (m c : Nat) (news : List Value) (hx : a.eval x = .slice ao m c) (hl : news.length = m * size) (hnone : ao = none → m = 0 ∧ c = 0) (hnews : ∀ ad, ao = some ad → ∀ j u, news[j]? = some u → w.cell? (ad.add j) = some u) (h1 : ∀ u ∈ news, u.oneCell' = true)
    (h63 : n + m ≤ maxLen) (hbytes : (n + m) * bytes ≤ 140737488355328)
    (hK : ∀ p c' w', w'.ownsRow 0 e size (.slice p (n + m) c') (n + m) (xs ++ news) → Grow w v (.slice p (n + m) c') → Keeps (fun k => v.ownBlock = some k) w w' → wpList P ops Q rest (a.put o.dst (.slice p (n + m) c')) w') :
    wpList P ops Q (o :: rest) a w := by
  obtain ⟨i, hi', hz, h2, h3⟩ := info_parts hi
  refine wpList_append_row w hg s x t hop e i z size bytes ht hi' hz h2 h3 hzs hsz v _ n xs hs (RowIs.own hrow) ao m c news hx hl hnone hnews h1 h63 hbytes ?_
  intro p c' g' w' hr hg' hk
  exact hK p c' w' hr.1 (Grow.ofRow hr hg') hk
/-- The same as a step of a region that draws its order. -/
theorem step_append_mine {P : Program} (w : World) {ops : Array Oper} {o : Oper} {a : Act} {K : Act → World → Prop} {Q : Exit → Act → World → Prop} {E : Prop}
    (hg : o.guard = none) (s x : Operand) (t : TypeId) (hop : o.op = Op.call { callee := Callee.builtin Builtin.append, args := #[s, x], argTypes := #[t, t] })
    (e : TypeId) (z : Value) (size bytes : Nat) (ht : P.underlying t = some (.slice e)) (hi : (P.info? e).map (fun i => (i.zero, i.size, i.bytes)) = some (some z, size, bytes)) (hzs : z.cells.size = size) (hsz : 0 < size)
    (v : Value) (n : Nat) (xs : List Value) (hs : a.eval s = v) (hrow : w.ownsRow 0 e size v n xs)
    (ao : Option Addr) (m c : Nat) (news : List Value) (hx : a.eval x = .slice ao m c) (hl : news.length = m * size) (hnone : ao = none → m = 0 ∧ c = 0) (hnews : ∀ ad, ao = some ad → ∀ j u, news[j]? = some u → w.cell? (ad.add j) = some u) (h1 : ∀ u ∈ news, u.oneCell' = true)
    (h63 : n + m ≤ maxLen) (hbytes : (n + m) * bytes ≤ 140737488355328)
    (hK : ∀ p c' w', w'.ownsRow 0 e size (.slice p (n + m) c') (n + m) (xs ++ news) → Grow w v (.slice p (n + m) c') → Keeps (fun k => v.ownBlock = some k) w w' → K (a.put o.dst (.slice p (n + m) c')) w') :
    if Region.wanted o (yielded ops a.tmps) = true then Oper.wp P o a w K Q else E := by
  obtain ⟨i, hi', hz, h2, h3⟩ := info_parts hi
  refine step_append_row w hg s x t hop e i z size bytes ht hi' hz h2 h3 hzs hsz v _ n xs hs (RowIs.own hrow) ao m c news hx hl hnone hnews h1 h63 hbytes ?_
  intro p c' g' w' hr hg' hk
  exact hK p c' w' hr.1 (Grow.ofRow hr hg') hk

theorem Evs.nil (w : World) (e : TypeId) : Evs w e (.slice none 0 0) [] := World.ownsRow_nil _ _ _ _
/-- A literal of events in the next new block. -/
theorem Evs.lit (w : World) (e : TypeId) (L : List Ev) (hL : L.length ≤ maxLen) : Evs (w.alloc (.cells (evCells L).toArray e)) e (.slice (some ⟨w.heap.size, 0, none⟩) L.length L.length) L := by
  refine ⟨evCells_length L, .inr ⟨w.heap.size, L.length, (evCells L).toArray, rfl, Nat.zero_le _, heap_alloc_new w _, Nat.le_refl _, hL, by simp [evCells_length], ?_⟩⟩
  rw [← evCells_length L]
  simp
/-- The four cells of an event that lies alone in the next new block. -/
theorem ev_new (w : World) (e : Ev) (t : TypeId) : ∀ ad, some (⟨w.heap.size, 0, none⟩ : Addr) = some ad → ∀ j u, e.cells[j]? = some u → (w.alloc (.cells #[.int .i64 e.kind, .bool e.fin, .int .i64 e.level, .string ⟨e.text.toArray⟩] t)).cell? (ad.add j) = some u := by
  intro ad had j u hj
  cases had
  unfold Ev.cells at hj
  match j, hj with
  | 0, hj => simp at hj; subst hj; simp [Addr.add]
  | 1, hj => simp at hj; subst hj; simp [Addr.add]
  | 2, hj => simp at hj; subst hj; simp [Addr.add]
  | 3, hj => simp at hj; subst hj; simp [Addr.add]
theorem ev_one (e : Ev) : ∀ u ∈ e.cells, u.oneCell' = true := by
  intro u hu
  simp [Ev.cells] at hu
  rcases hu with rfl | rfl | rfl | rfl <;> rfl
theorem Evs.snoc {w : World} {t : TypeId} {p : Option Addr} {c : Nat} {L : List Ev} {e : Ev} (h : w.ownsRow 0 t 4 (.slice p (L.length + 1) c) (L.length + 1) (evCells L ++ e.cells)) : Evs w t (.slice p (L.length + 1) c) (L ++ [e]) := by
  unfold Evs
  rw [evCells_append, evCells_one, List.length_append]
  exact h
theorem Evs.app {w : World} {t : TypeId} {p : Option Addr} {c : Nat} {L M : List Ev} (h : w.ownsRow 0 t 4 (.slice p (L.length + M.length) c) (L.length + M.length) (evCells L ++ evCells M)) : Evs w t (.slice p (L.length + M.length) c) (L ++ M) := by
  unfold Evs
  rw [evCells_append, List.length_append]
  exact h
theorem Evs.kept {D : Nat → Prop} {w w' : World} {v : Value} {e : TypeId} {L : List Ev} (h : Evs w e v L) (hk : Keeps D w w') (hn : ∀ k, v.ownBlock = some k → ¬ D k) : Evs w' e v L := own_kept h hk hn
theorem Evs.fresh {w w' : World} {v : Value} {e : TypeId} {L : List Ev} (h : Evs w e v L) (hk : Fresh w w') : Evs w' e v L := own_kept h hk (fun _ _ h => h)
/-- The cells of the event at place j. -/
theorem Evs.at {w : World} {e : TypeId} {L : List Ev} {p : Option Addr} {m c : Nat} (h : Evs w e (.slice p m c) L) {j : Nat} {x : Ev} (hj : L[j]? = some x) :
    ∃ g, p = some ⟨g, 0, none⟩ ∧ m = L.length ∧ g < w.heap.size ∧ w.cell? ⟨g, j * 4, none⟩ = some (.int .i64 x.kind) ∧ w.cell? ⟨g, j * 4 + 1, none⟩ = some (.bool x.fin) ∧ w.cell? ⟨g, j * 4 + 2, none⟩ = some (.int .i64 x.level) ∧ w.cell? ⟨g, j * 4 + 3, none⟩ = some (.string ⟨x.text.toArray⟩) := by
  obtain ⟨p', c', he, hc, hn, hg⟩ := own_form h
  cases he
  have hlt : j < L.length := (List.getElem?_eq_some_iff.1 hj).1
  cases p with
  | none => have := (hn rfl).1; omega
  | some ad =>
    obtain ⟨g, rfl, hgl⟩ := hg ad rfl
    obtain ⟨h0, h1, h2, h3⟩ := evCells_get L j x hj
    have hh := fun k u hu => World.ownsRow.cells (v := .slice (some ⟨g, 0, none⟩) L.length c) h (g := g) rfl k u hu
    have ad0 : ∀ k, (⟨g, 0, none⟩ : Addr).add k = ⟨g, k, none⟩ := fun k => by rw [Addr.add_lit, Nat.zero_add]
    simp only [ad0] at hh
    exact ⟨g, rfl, rfl, hgl, hh _ _ h0, hh _ _ h1, hh _ _ h2, hh _ _ h3⟩
/-- A store of the last event's text. -/
theorem Evs.lastText {w : World} {t : TypeId} {L : List Ev} {e : Ev} {g c : Nat} (h : Evs w t (.slice (some ⟨g, 0, none⟩) (L ++ [e]).length c) (L ++ [e])) (s : List UInt8) :
    Evs (w.setCell ⟨g, L.length * 4 + 3, none⟩ (.string ⟨s.toArray⟩)) t (.slice (some ⟨g, 0, none⟩) (L ++ [e]).length c) (L ++ [{ e with text := s }]) := by
  have h1 := (World.ownsRow.stored h (L.length * 4 + 3) (.string ⟨s.toArray⟩)).1
  unfold Evs
  have e1 : (evCells (L ++ [e])).set (L.length * 4 + 3) (.string ⟨s.toArray⟩) = evCells (L ++ [{ e with text := s }]) := by
    rw [evCells_append, evCells_append, evCells_one, evCells_one, List.set_append, evCells_length]
    rw [if_neg (by omega)]
    congr 1
    rw [show L.length * 4 + 3 - L.length * 4 = 3 by omega]
    rfl
  rw [← e1]
  simpa using h1
end Go.Proofs.YtbioecifiogffaaDoor
