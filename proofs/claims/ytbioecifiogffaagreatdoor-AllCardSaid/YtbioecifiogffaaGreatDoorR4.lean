/- Texts of this proof, joined: EvRow, InlRef1, Scan, InlLib, BlkLib, InlRef2, InlRef3, InlProg1, InlProg2, LnRow, InlRef4, InlRef5, AppZ, Idx, Idx2, Events, SameEv, InlRef6, Wait. Conditions: as each theorem names them. -/
import Derived.Test.YtbioecifiogffaaGreatDoorR1
import Derived.Test.YtbioecifiogffaaGreatDoorR2
import Derived.Laws.OwnMore
import Derived.Maps.AppendAt
import Derived.Lib.SmallJoins
import Derived.Deep.DeepCutAuto
import Derived.Deep.RegionLaw
import Derived.Lib.ReplaceLaws
import Derived.Lib.IndexBytes
import Derived.Lib.IndexAny
import Derived.Lib.Split
import Derived.IntWalk
import Derived.LoopN
import Derived.WalkMore
import Derived.Outline
import Derived.BigQuiet
import Derived.Deep.QuietTactic
import Derived.Deep.Draws
import Derived.Deep.LoopGhost
import Derived.Laws.RangeString
import Derived.Laws.Strings3
import Derived.Lib.DecodeN
import Derived.Laws.RangeAny
import Derived.Lib.AppendStr
set_option linter.unusedVariables false
set_option linter.unusedSimpArgs false
set_option maxHeartbeats 8000000
set_option maxRecDepth 1000000
namespace Go.Proofs.YtbioecifiogffaaGreatDoor
open Go.RowKit
def Evs (w : World) (e : TypeId) (v : Value) (L : List Ev) : Prop := w.ownsRow 0 e 4 v L.length (evCells L)
def Grow (w : World) (v v' : Value) : Prop := ∀ k, v'.ownBlock = some k → v.ownBlock = some k ∨ w.heap.size ≤ k
theorem Grow.refl (w : World) (v : Value) : Grow w v v := fun _ h => .inl h
theorem own_kept {D : Nat → Prop} {w w' : World} {v : Value} {e : TypeId} {size n : Nat} {xs : List Value} (h : w.ownsRow 0 e size v n xs) (hk : Keeps D w w') (hn : ∀ k, v.ownBlock = some k → ¬ D k) : w'.ownsRow 0 e size v n xs := by
 refine ⟨h.1, ?_⟩
 rcases h.2 with hh | ⟨g, cap, cur, rfl, hb, hg, rest⟩
 ·exact .inl hh
 ·exact .inr ⟨g, cap, cur, rfl, hb, hk.heap_some hg (hn g rfl), rest⟩
theorem own_lt {w : World} {v : Value} {e : TypeId} {size n : Nat} {xs : List Value} (h : w.ownsRow 0 e size v n xs) {k : Nat} (hk : v.ownBlock = some k) : k < w.heap.size := (h.lt k hk).2
theorem own_ne {w : World} {v : Value} {e t : TypeId} {size n b : Nat} {xs : List Value} {cs : Array Value} {fr : Nat × Nat} (h : w.ownsRow 0 e size v n xs) (hb : w.heap[b]? = some (.cells cs t fr)) (hne : t ≠ e) : v.ownBlock ≠ some b := by
 intro e0
 rcases h.2 with ⟨rfl, _⟩ | ⟨g, cap, cur, rfl, _, hg, _⟩
 ·cases e0
 ·have : g = b := by simpa [Value.ownBlock] using e0
  subst this
  rw [hb] at hg
  cases hg
  exact hne rfl
theorem own_ne2 {w : World} {v u : Value} {e t : TypeId} {size size' n n' b : Nat} {xs ys : List Value} (h : w.ownsRow 0 e size v n xs) (h' : w.ownsRow 0 t size' u n' ys) (hne : t ≠ e) (hu : u.ownBlock = some b) : v.ownBlock ≠ some b := by
 rcases h'.2 with ⟨rfl, _⟩ | ⟨g, cap, cur, rfl, _, hg, _⟩
 ·cases hu
 ·have : g = b := by simpa [Value.ownBlock] using hu
  subst this
  exact own_ne h hg hne
theorem own_form {w : World} {v : Value} {e : TypeId} {size n : Nat} {xs : List Value} (h : w.ownsRow 0 e size v n xs) : ∃ p c, v = .slice p n c ∧ n ≤ c ∧ (p = none → n = 0 ∧ c = 0) ∧ ∀ a, p = some a → ∃ g, a = ⟨g, 0, none⟩ ∧ g < w.heap.size := by
 rcases h.2 with ⟨rfl, rfl⟩ | ⟨g, cap, cur, rfl, hb, hg, hc, _⟩
 ·exact ⟨_, _, rfl, Nat.le_refl _, fun _ => ⟨rfl, rfl⟩, fun a h => by cases h⟩
 ·exact ⟨_, _, rfl, hc, (fun h => by cases h), fun a h => by cases h; exact ⟨g, rfl, (Array.getElem?_eq_some_iff.1 hg).1⟩⟩
theorem own_cells {w : World} {v : Value} {e : TypeId} {size n : Nat} {xs : List Value} (h : w.ownsRow 0 e size v n xs) {p : Option Addr} {m c : Nat} (hv : v = .slice p m c) : ∀ ad, p = some ad → ∀ j u, xs[j]? = some u → w.cell? (ad.add j) = some u := by
 intro ad had j u hu
 subst hv
 subst had
 obtain ⟨p', c', he, _, _, hg⟩ := own_form h
 cases he
 obtain ⟨g, rfl, _⟩ := hg ad rfl
 exact World.ownsRow.cells h (g := g) rfl j u hu
theorem RowIs.own {w : World} {v : Value} {e : TypeId} {size n : Nat} {xs : List Value} (h : w.ownsRow 0 e size v n xs) : RowIs w v ((v.ownBlock).getD w.heap.size) e size n xs :=
 ⟨h, fun k hk => by rw [hk]; rfl⟩
theorem Grow.ofRow {w w' : World} {v v' : Value} {g' : Nat} {e : TypeId} {size n : Nat} {xs : List Value} (h : RowIs w' v' g' e size n xs) (hg : g' = (v.ownBlock).getD w.heap.size ∨ g' = w.heap.size) : Grow w v v' := by
 intro k hk
 obtain rfl := h.2 k hk
 rcases hg with hg | hg
 ·cases hv : v.ownBlock with
  | none => rw [hv] at hg; exact .inr (by rw [hg]; exact Nat.le_refl _)
  | some k => rw [hv] at hg; exact .inl (by rw [hg]; rfl)
 ·exact .inr (by rw [hg]; exact Nat.le_refl _)
theorem wpList_append_mine {P : Program} (w : World) {ops : Array Oper} {rest : List Oper} {o : Oper} {a : Act} {Q : Exit → Act → World → Prop}
 (hg : o.guard = none) (s x : Operand) (t : TypeId) (hop : o.op = Op.call { callee := Callee.builtin Builtin.append, args := #[s, x], argTypes := #[t, t] })
 (e : TypeId) (z : Value) (size bytes : Nat) (ht : P.underlying t = some (.slice e)) (hi : (P.info? e).map (fun i => (i.zero, i.size, i.bytes)) = some (some z, size, bytes)) (hzs : z.cells.size = size) (hsz : 0 < size)
 (v : Value) (n : Nat) (xs : List Value) (hs : a.eval s = v) (hrow : w.ownsRow 0 e size v n xs)
 (ao : Option Addr) (m c : Nat) (news : List Value) (hx : a.eval x = .slice ao m c) (hl : news.length = m * size) (hnone : ao = none → m = 0 ∧ c = 0) (hnews : ∀ ad, ao = some ad → ∀ j u, news[j]? = some u → w.cell? (ad.add j) = some u) (h1 : ∀ u ∈ news, u.oneCell' = true)
 (h63 : n + m ≤ maxLen) (hbytes : (n + m) * bytes ≤ 140737488355328)
 (hK : ∀ p c' w', w'.ownsRow 0 e size (.slice p (n + m) c') (n + m) (xs ++ news) → Grow w v (.slice p (n + m) c') → Keeps (fun k => v.ownBlock = some k) w w' → wpList P ops Q rest (a.put o.dst (.slice p (n + m) c')) w') :
 wpList P ops Q (o :: rest) a w := by
 obtain ⟨i, hi', hz, h2, h3⟩ := info_parts hi
 refine wpList_append_row w hg s x t hop e i z size bytes ht hi' hz h2 h3 hzs hsz v _ n xs hs (RowIs.own hrow) ao m c news hx hl hnone hnews h1 h63 hbytes ?_
 intro p c' g' w' hr hg' hk
 exact hK p c' w' hr.1 (Grow.ofRow hr hg') hk
theorem step_append_mine {P : Program} (w : World) {ops : Array Oper} {o : Oper} {a : Act} {K : Act → World → Prop} {Q : Exit → Act → World → Prop} {E : Prop}
 (hg : o.guard = none) (s x : Operand) (t : TypeId) (hop : o.op = Op.call { callee := Callee.builtin Builtin.append, args := #[s, x], argTypes := #[t, t] })
 (e : TypeId) (z : Value) (size bytes : Nat) (ht : P.underlying t = some (.slice e)) (hi : (P.info? e).map (fun i => (i.zero, i.size, i.bytes)) = some (some z, size, bytes)) (hzs : z.cells.size = size) (hsz : 0 < size)
 (v : Value) (n : Nat) (xs : List Value) (hs : a.eval s = v) (hrow : w.ownsRow 0 e size v n xs)
 (ao : Option Addr) (m c : Nat) (news : List Value) (hx : a.eval x = .slice ao m c) (hl : news.length = m * size) (hnone : ao = none → m = 0 ∧ c = 0) (hnews : ∀ ad, ao = some ad → ∀ j u, news[j]? = some u → w.cell? (ad.add j) = some u) (h1 : ∀ u ∈ news, u.oneCell' = true)
 (h63 : n + m ≤ maxLen) (hbytes : (n + m) * bytes ≤ 140737488355328)
 (hK : ∀ p c' w', w'.ownsRow 0 e size (.slice p (n + m) c') (n + m) (xs ++ news) → Grow w v (.slice p (n + m) c') → Keeps (fun k => v.ownBlock = some k) w w' → K (a.put o.dst (.slice p (n + m) c')) w') :
 if Region.wanted o (yielded ops a.tmps) = true then Oper.wp P o a w K Q else E := by
 obtain ⟨i, hi', hz, h2, h3⟩ := info_parts hi
 refine step_append_row w hg s x t hop e i z size bytes ht hi' hz h2 h3 hzs hsz v _ n xs hs (RowIs.own hrow) ao m c news hx hl hnone hnews h1 h63 hbytes ?_
 intro p c' g' w' hr hg' hk
 exact hK p c' w' hr.1 (Grow.ofRow hr hg') hk
theorem Evs.nil (w : World) (e : TypeId) : Evs w e (.slice none 0 0) [] := World.ownsRow_nil _ _ _ _
theorem Evs.lit (w : World) (e : TypeId) (L : List Ev) (hL : L.length ≤ maxLen) : Evs (w.alloc (.cells (evCells L).toArray e)) e (.slice (some ⟨w.heap.size, 0, none⟩) L.length L.length) L := by
 refine ⟨evCells_length L, .inr ⟨w.heap.size, L.length, (evCells L).toArray, rfl, Nat.zero_le _, heap_alloc_new w _, Nat.le_refl _, hL, by simp [evCells_length], ?_⟩⟩
 rw [← evCells_length L]
 simp
theorem ev_new (w : World) (e : Ev) (t : TypeId) : ∀ ad, some (⟨w.heap.size, 0, none⟩ : Addr) = some ad → ∀ j u, e.cells[j]? = some u → (w.alloc (.cells #[.int .i64 e.kind, .bool e.fin, .int .i64 e.level, .string ⟨e.text.toArray⟩] t)).cell? (ad.add j) = some u := by
 intro ad had j u hj
 cases had
 unfold Ev.cells at hj
 match j, hj with
 | 0, hj => simp at hj; subst hj; simp [Addr.add]
 | 1, hj => simp at hj; subst hj; simp [Addr.add]
 | 2, hj => simp at hj; subst hj; simp [Addr.add]
 | 3, hj => simp at hj; subst hj; simp [Addr.add]
theorem ev_one (e : Ev) : ∀ u ∈ e.cells, u.oneCell' = true := by
 intro u hu
 simp [Ev.cells] at hu
 rcases hu with rfl | rfl | rfl | rfl <;> rfl
theorem Evs.snoc {w : World} {t : TypeId} {p : Option Addr} {c : Nat} {L : List Ev} {e : Ev} (h : w.ownsRow 0 t 4 (.slice p (L.length + 1) c) (L.length + 1) (evCells L ++ e.cells)) : Evs w t (.slice p (L.length + 1) c) (L ++ [e]) := by
 unfold Evs
 rw [evCells_append, evCells_one, List.length_append]
 exact h
theorem Evs.app {w : World} {t : TypeId} {p : Option Addr} {c : Nat} {L M : List Ev} (h : w.ownsRow 0 t 4 (.slice p (L.length + M.length) c) (L.length + M.length) (evCells L ++ evCells M)) : Evs w t (.slice p (L.length + M.length) c) (L ++ M) := by
 unfold Evs
 rw [evCells_append, List.length_append]
 exact h
theorem Evs.kept {D : Nat → Prop} {w w' : World} {v : Value} {e : TypeId} {L : List Ev} (h : Evs w e v L) (hk : Keeps D w w') (hn : ∀ k, v.ownBlock = some k → ¬ D k) : Evs w' e v L := own_kept h hk hn
theorem Evs.fresh {w w' : World} {v : Value} {e : TypeId} {L : List Ev} (h : Evs w e v L) (hk : Fresh w w') : Evs w' e v L := own_kept h hk (fun _ _ h => h)
theorem Evs.at {w : World} {e : TypeId} {L : List Ev} {p : Option Addr} {m c : Nat} (h : Evs w e (.slice p m c) L) {j : Nat} {x : Ev} (hj : L[j]? = some x) :
 ∃ g, p = some ⟨g, 0, none⟩ ∧ m = L.length ∧ g < w.heap.size ∧ w.cell? ⟨g, j * 4, none⟩ = some (.int .i64 x.kind) ∧ w.cell? ⟨g, j * 4 + 1, none⟩ = some (.bool x.fin) ∧ w.cell? ⟨g, j * 4 + 2, none⟩ = some (.int .i64 x.level) ∧ w.cell? ⟨g, j * 4 + 3, none⟩ = some (.string ⟨x.text.toArray⟩) := by
 obtain ⟨p', c', he, hc, hn, hg⟩ := own_form h
 cases he
 have hlt : j < L.length := (List.getElem?_eq_some_iff.1 hj).1
 cases p with
 | none => have := (hn rfl).1; omega
 | some ad =>
  obtain ⟨g, rfl, hgl⟩ := hg ad rfl
  obtain ⟨h0, h1, h2, h3⟩ := evCells_get L j x hj
  have hh := fun k u hu => World.ownsRow.cells (v := .slice (some ⟨g, 0, none⟩) L.length c) h (g := g) rfl k u hu
  have ad0 : ∀ k, (⟨g, 0, none⟩ : Addr).add k = ⟨g, k, none⟩ := fun k => by rw [Addr.add_lit, Nat.zero_add]
  simp only [ad0] at hh
  exact ⟨g, rfl, rfl, hgl, hh _ _ h0, hh _ _ h1, hh _ _ h2, hh _ _ h3⟩
theorem Evs.lastText {w : World} {t : TypeId} {L : List Ev} {e : Ev} {g c : Nat} (h : Evs w t (.slice (some ⟨g, 0, none⟩) (L ++ [e]).length c) (L ++ [e])) (s : List UInt8) :
 Evs (w.setCell ⟨g, L.length * 4 + 3, none⟩ (.string ⟨s.toArray⟩)) t (.slice (some ⟨g, 0, none⟩) (L ++ [e]).length c) (L ++ [{ e with text := s }]) := by
 have h1 := (World.ownsRow.stored h (L.length * 4 + 3) (.string ⟨s.toArray⟩)).1
 unfold Evs
 have e1 : (evCells (L ++ [e])).set (L.length * 4 + 3) (.string ⟨s.toArray⟩) = evCells (L ++ [{ e with text := s }]) := by
  rw [evCells_append, evCells_append, evCells_one, evCells_one, List.set_append, evCells_length]
  rw [if_neg (by omega)]
  congr 1
  rw [show L.length * 4 + 3 - L.length * 4 = 3 by omega]
  rfl
 rw [← e1]
 simpa using h1
end Go.Proofs.YtbioecifiogffaaGreatDoor
namespace Go.Proofs.YtbioecifiogffaaGreatDoor
open Go.RowKit
theorem drop_cons {s : ByteArray} {i : Nat} {b : UInt8} {t : List UInt8} (h : s.data.toList.drop i = b :: t) : ∃ hi : i < s.size, s[i]'hi = b ∧ s.data.toList.drop (i + 1) = t := by
 have hl : i < s.data.toList.length := by
  rcases Nat.lt_or_ge i s.data.toList.length with h' | h'
  ·exact h'
  ·rw [List.drop_eq_nil_of_le h'] at h; cases h
 have hi : i < s.size := by simpa using hl
 rw [List.drop_eq_getElem_cons hl] at h
 injection h with h1 h2
 exact ⟨hi, by rw [← h1]; simp [ByteArray.getElem_eq_getElem_data], h2⟩
theorem drop_lt {s : ByteArray} {i : Nat} (hi : i < s.size) : s.data.toList.drop i = s[i]'hi :: s.data.toList.drop (i + 1) := by
 have hl : i < s.data.toList.length := by simpa using hi
 rw [List.drop_eq_getElem_cons hl]
 simp [ByteArray.getElem_eq_getElem_data]
theorem drop_ge {s : ByteArray} {i : Nat} (hi : s.size ≤ i) : s.data.toList.drop i = [] := List.drop_eq_nil_of_le (by simpa using hi)
theorem u8_beq (a b : UInt8) : (((a.toNat : Int)) == (b.toNat : Int)) = decide (a = b) := by
 rw [Bool.eq_iff_iff, beq_iff_eq, decide_eq_true_iff]
 constructor
 ·intro h; exact UInt8.toNat_inj.1 (by omega)
 ·rintro rfl; rfl
theorem sign_any (c : UInt8) (w : World) : Calls Tryz.prog 94 #[.int .u8 c.toNat] w fun e w' => e = .returned (.bool (sgn c)) ∧ Fresh w w' := by
 have hc : c.toNat < 256 := c.toNat_lt
 obtain ⟨b, hb⟩ : ∃ b, b = sgn c := ⟨_, rfl⟩
 rw [← hb]
 unfold sgn at hb
 generalize c.toNat = n at *
 have hr : (b = false ∧ n < 33) ∨ (b = true ∧ 33 ≤ n ∧ n ≤ 47) ∨ (b = false ∧ 47 < n ∧ n < 58) ∨ (b = true ∧ 58 ≤ n ∧ n ≤ 64) ∨ (b = false ∧ 64 < n ∧ n < 91) ∨ (b = true ∧ 91 ≤ n ∧ n ≤ 96) ∨ (b = false ∧ 96 < n ∧ n < 123) ∨ (b = true ∧ 123 ≤ n ∧ n ≤ 126) ∨ (b = false ∧ 126 < n) := by
  cases b with
  | true => have := of_decide_eq_true hb.symm; simp; omega
  | false => have := of_decide_eq_false hb.symm; simp; omega
 clear hb
 rcases hr with ⟨rfl, h1⟩ | ⟨rfl, h1, h2⟩ | ⟨rfl, h1, h2⟩ | ⟨rfl, h1, h2⟩ | ⟨rfl, h1, h2⟩ | ⟨rfl, h1, h2⟩ | ⟨rfl, h1, h2⟩ | ⟨rfl, h1, h2⟩ | ⟨rfl, h1⟩
 all_goals
  go_enter Tryz.func94, Tryz.ntmps94
  go_wp2
  go_ret
  exact ⟨by first | rfl | (simp; omega), Keeps.refl _ _⟩
def plc (i : Nat) : Option Nat → Int
 | some k => (i + k : Nat)
 | none => -1
theorem find_any (s : ByteArray) (c : UInt8) (i : Nat) (w : World) (hi : i ≤ s.size) (hs : s.size ≤ 1099511627776) :
 Calls Tryz.prog 95 #[.string s, .int .u8 c.toNat, .int .i64 i] w fun e w' => e = .returned (.int .i64 (plc i (fnd c (s.data.toList.drop i)))) ∧ Fresh w w' := by
 obtain ⟨R, hR⟩ : ∃ R, R = plc i (fnd c (s.data.toList.drop i)) := ⟨_, rfl⟩
 rw [← hR]
 have HR := Lib.hid hR
 clear hR
 go_enter Tryz.func95, Tryz.ntmps95
 go_wp2
 go_loop [7] (fun p => ∃ j : Nat, p = .int .i64 j ∧ j ≤ s.size ∧ plc j (fnd c (s.data.toList.drop j)) = R) (fun p => s.size - (intOf p).toNat)
 case atStart => exact ⟨i, rfl, hi, HR.out.symm⟩
 case round =>
  obtain ⟨j, rfl, hj, hp⟩ := hrel
  have HP := Lib.hid hp
  clear hp
  by_cases hlt : j < s.size
  ·have hd := drop_lt hlt
   have he := u8_beq (s[j]'hlt) c
   by_cases hc : s[j]'hlt = c
   ·rw [decide_eq_true hc] at he
    have hr : R = j := by rw [← HP.out, hd]; simp [fnd, hc, plc]
    have HR2 := Lib.hid hr
    clear hd hc hr
    go_wp2
    go_ret
    exact ⟨by rw [show R = _ from HR2.out]; rfl, Keeps.refl _ _⟩
   ·rw [decide_eq_false hc] at he
    have hr : plc (j + 1) (fnd c (s.data.toList.drop (j + 1))) = R := by
     rw [← HP.out, hd]
     simp only [fnd, if_neg hc]
     cases fnd c (s.data.toList.drop (j + 1)) <;> simp [plc]
     omega
    have HR2 := Lib.hid hr
    clear hd hc hr
    go_wp2
    go_roundw
    case rel => exact ⟨j + 1, rfl, by omega, HR2.out⟩
    case measure => simp [intOf]; omega
  ·have hd := drop_ge (s := s) (i := j) (by omega)
   have hr : R = -1 := by rw [← HP.out, hd]; simp [fnd, plc]
   have HR2 := Lib.hid hr
   clear hd hr
   go_wp2
   go_ret
   exact ⟨by rw [show R = _ from HR2.out]; rfl, Keeps.refl _ _⟩
theorem spaced_any (s : ByteArray) (w : World) (hs : s.size ≤ 1099511627776) :
 Calls Tryz.prog 96 #[.string s] w fun e w' => e = .returned (.string ⟨(spc s.data.toList).toArray⟩) ∧ Fresh w w' := by
 go_enter Tryz.func96, Tryz.ntmps96
 go_wp2
 go_loop [3, 4] (fun o p => ∃ (j : Nat) (acc : List UInt8), o = .string ⟨acc.toArray⟩ ∧ p = .int .i64 j ∧ j ≤ s.size ∧ acc.length = j ∧ acc ++ spc (s.data.toList.drop j) = spc s.data.toList) (fun _ p => s.size - (intOf p).toNat)
 case atStart => exact ⟨0, [], rfl, rfl, by omega, rfl, by simp⟩
 case round =>
  obtain ⟨j, acc, rfl, rfl, hj, hal, hp⟩ := hrel
  have HP := Lib.hid hp
  clear hp
  by_cases hlt : j < s.size
  ·have hd := drop_lt hlt
   have he : (((s[j]'hlt).toNat : Int) == 10) = decide (s[j]'hlt = 10) := u8_beq (s[j]'hlt) 10
   have hsub : s.extract j (j + 1) = ⟨#[s[j]'hlt]⟩ := by
    apply ByteArray.ext
    apply Array.ext'
    rw [ByteArray.data_extract, Array.toList_extract, List.extract_eq_take_drop, drop_lt hlt]
    simp
   by_cases hc : s[j]'hlt = 10
   ·rw [decide_eq_true hc] at he
    have hr : acc ++ [32] ++ spc (s.data.toList.drop (j + 1)) = spc s.data.toList := by rw [← HP.out, hd]; simp [spc, hc]
    have HR2 := Lib.hid hr
    clear hd hc hr
    go_wp2
    go_roundw
    case rel => exact ⟨j + 1, acc ++ [32], by rw [← ba_append], rfl, by omega, by simp [hal], HR2.out⟩
    case measure => simp [intOf]; omega
   ·rw [decide_eq_false hc] at he
    have hr : acc ++ [s[j]'hlt] ++ spc (s.data.toList.drop (j + 1)) = spc s.data.toList := by rw [← HP.out, hd]; simp [spc, hc]
    have HR2 := Lib.hid hr
    clear hd hc hr
    go_wp2
    go_roundw
    case rel => exact ⟨j + 1, acc ++ [s[j]'hlt], by rw [← ba_append], rfl, by omega, by simp [hal], HR2.out⟩
    case measure => simp [intOf]; omega
  ·have hd := drop_ge (s := s) (i := j) (by omega)
   have hr : acc = spc s.data.toList := by rw [← HP.out, hd]; simp [spc]
   have HR2 := Lib.hid hr
   clear hd hr
   go_wp2
   go_ret
   exact ⟨by rw [← show acc = _ from HR2.out]; rfl, Keeps.refl _ _⟩
end Go.Proofs.YtbioecifiogffaaGreatDoor
namespace Go.Proofs.YtbioecifiogffaaGreatDoor
open Go.RowKit
theorem Tryz.infoAE : (Tryz.prog.info? 97).map (fun i => (i.zero, i.size, i.bytes)) = some (some (.agg #[.int .i64 0, .bool false, .int .i64 0, .string ⟨#[]⟩]), 4, 40) := by kernel_rfl
structure Scan (w : World) (C Bo : Nat) (v vo : Value) (s : ByteArray) (i : Nat) (ins : Bool) (p : List UInt8) (L : List Ev) : Prop where
 blk : w.heap[C]? = some (.cells #[.string s, .int .i64 i, .bool ins, v, .pointer (some ⟨Bo, 0, none⟩)] 227 (0, 0))
 out : w.heap[Bo]? = some (.cells #[vo] 131 (0, 0))
 txt : w.ownsRow 0 5 1 v p.length (Lib.byteCells p)
 evs : Evs w 97 vo L
def ScanD (C Bo : Nat) (v vo : Value) (k : Nat) : Prop := k = C ∨ k = Bo ∨ v.ownBlock = some k ∨ vo.ownBlock = some k
def Mv (o o' : Nat → Prop) (w w' : World) : Prop := Keeps o w w' ∧ ∀ k, o' k → o k ∨ w.heap.size ≤ k
theorem Mv.refl (o : Nat → Prop) (w : World) : Mv o o w w := ⟨Keeps.refl _ _, fun _ h => .inl h⟩
theorem Mv.trans {o o' o'' : Nat → Prop} {a b c : World} (h : Mv o o' a b) (h' : Mv o' o'' b c) : Mv o o'' a c :=
 ⟨h.1.trans h'.1 (fun j hj ho => (h.2 j ho).resolve_right (by omega)), fun k hk => by
   rcases h'.2 k hk with h1 | h1
   ·exact h.2 k h1
   ·exact .inr (Nat.le_trans h.1.size h1)⟩
theorem Mv.fresh {o : Nat → Prop} {a b : World} (h : Fresh a b) : Mv o o a b := ⟨h.mono (fun _ _ h => h.elim), fun _ h => .inl h⟩
theorem Mv.of {o o' D : Nat → Prop} {a b : World} (h : Keeps D a b) (hD : ∀ k, D k → o k) (ho : ∀ k, o' k → o k ∨ a.heap.size ≤ k) : Mv o o' a b := ⟨h.mono (fun k _ hk => hD k hk), ho⟩
def Gl (w : World) : Prop := (∃ m, w.cell? ⟨4, 0, none⟩ = some (.int .i64 m)) ∧ 10 ≤ w.heap.size
def Hi (o : Nat → Prop) : Prop := ∀ k, o k → 10 ≤ k
theorem Gl.fresh {w w' : World} (h : Gl w) (hk : Fresh w w') : Gl w' := by
 obtain ⟨⟨m, hm⟩, hs⟩ := h
 exact ⟨⟨m, hk.cell_some hm (fun h => h)⟩, Nat.le_trans hs hk.size⟩
theorem Gl.mv {o o' : Nat → Prop} {w w' : World} (h : Gl w) (hm : Mv o o' w w') (ho : Hi o) : Gl w' ∧ Hi o' := by
 obtain ⟨⟨m, hc⟩, hs⟩ := h
 refine ⟨⟨⟨m, hm.1.cell_some hc (fun h => ?_)⟩, Nat.le_trans hs hm.1.size⟩, fun k hk => ?_⟩
 ·have h1 := ho _ h
  have h2 : 4 < 10 := by decide
  simp only at h1
  omega
 ·rcases hm.2 k hk with h1 | h1
  ·exact ho k h1
  ·omega
theorem Scan.neCB {w : World} {C Bo : Nat} {v vo : Value} {s : ByteArray} {i : Nat} {ins : Bool} {p : List UInt8} {L : List Ev} (h : Scan w C Bo v vo s i ins p L) : C ≠ Bo := by
 rintro rfl
 have := h.blk.symm.trans h.out
 cases this
theorem Scan.cells {w : World} {C Bo : Nat} {v vo : Value} {s : ByteArray} {i : Nat} {ins : Bool} {p : List UInt8} {L : List Ev} (h : Scan w C Bo v vo s i ins p L) :
 w.cell? ⟨C, 0, none⟩ = some (.string s) ∧ w.cell? ⟨C, 1, none⟩ = some (.int .i64 i) ∧ w.cell? ⟨C, 2, none⟩ = some (.bool ins) ∧ w.cell? ⟨C, 3, none⟩ = some v ∧ w.cell? ⟨C, 4, none⟩ = some (.pointer (some ⟨Bo, 0, none⟩)) ∧ w.cell? ⟨Bo, 0, none⟩ = some vo ∧
 (∀ j, w.frozen? ⟨C, j, none⟩ = false) ∧ (∀ j, w.frozen? ⟨Bo, j, none⟩ = false) :=
 ⟨by rw [Lib.cell_of_heap h.blk]; rfl, by rw [Lib.cell_of_heap h.blk]; rfl, by rw [Lib.cell_of_heap h.blk]; rfl, by rw [Lib.cell_of_heap h.blk]; rfl, by rw [Lib.cell_of_heap h.blk]; rfl, by rw [Lib.cell_of_heap h.out]; rfl,
   fun j => Lib.frozen_of_heap h.blk j, fun j => Lib.frozen_of_heap h.out j⟩
theorem Scan.fresh {w w' : World} {C Bo : Nat} {v vo : Value} {s : ByteArray} {i : Nat} {ins : Bool} {p : List UInt8} {L : List Ev} (h : Scan w C Bo v vo s i ins p L) (hk : Fresh w w') : Scan w' C Bo v vo s i ins p L :=
 ⟨hk.heap_some h.blk (fun h => h), hk.heap_some h.out (fun h => h), own_kept h.txt hk (fun _ _ h => h), h.evs.fresh hk⟩
theorem Scan.drew {w : World} {C Bo : Nat} {v vo : Value} {s : ByteArray} {i : Nat} {ins : Bool} {p : List UInt8} {L : List Ev} (h : Scan w C Bo v vo s i ins p L) : Scan w.drew C Bo v vo s i ins p L :=
 ⟨h.blk, h.out, h.txt, h.evs⟩
theorem Scan.at {w : World} {C Bo : Nat} {v vo : Value} {s : ByteArray} {i : Nat} {ins : Bool} {p : List UInt8} {L : List Ev} (h : Scan w C Bo v vo s i ins p L) (j : Nat) : Scan (w.setCell ⟨C, 1, none⟩ (.int .i64 j)) C Bo v vo s j ins p L := by
 have hk : Keeps (fun k => k = C) w (w.setCell ⟨C, 1, none⟩ (.int .i64 j)) := Keeps.setCell (D := fun k => k = C) (Keeps.refl _ w) (p := ⟨C, 1, none⟩) (fun _ => rfl) _
 refine ⟨?_, hk.heap_some h.out (fun e => h.neCB e.symm), own_kept h.txt hk ?_, h.evs.kept hk ?_⟩
 ·simp [World.setCell, Array.getElem?_modify, h.blk]
 ·rintro k hk1 rfl; exact own_ne h.txt h.blk (by decide) hk1
 ·rintro k hk1 rfl; exact own_ne h.evs h.blk (by decide) hk1
theorem Scan.text {w : World} {C Bo : Nat} {v v' vo : Value} {s : ByteArray} {i : Nat} {ins : Bool} {p' : List UInt8} {L : List Ev}
 (hb : w.heap[C]? = some (.cells #[.string s, .int .i64 i, .bool ins, v, .pointer (some ⟨Bo, 0, none⟩)] 227 (0, 0))) (ho : w.heap[Bo]? = some (.cells #[vo] 131 (0, 0)))
 (ht : w.ownsRow 0 5 1 v' p'.length (Lib.byteCells p')) (he : Evs w 97 vo L) : Scan (w.setCell ⟨C, 3, none⟩ v') C Bo v' vo s i ins p' L := by
 have hne : Bo ≠ C := by
  rintro rfl
  have := hb.symm.trans ho
  cases this
 have hk : Keeps (fun k => k = C) w (w.setCell ⟨C, 3, none⟩ v') := Keeps.setCell (D := fun k => k = C) (Keeps.refl _ w) (p := ⟨C, 3, none⟩) (fun _ => rfl) _
 refine ⟨?_, hk.heap_some ho hne, own_kept ht hk ?_, he.kept hk ?_⟩
 ·simp [World.setCell, Array.getElem?_modify, hb]
 ·rintro k hk1 rfl; exact own_ne ht hb (by decide) hk1
 ·rintro k hk1 rfl; exact own_ne he hb (by decide) hk1
theorem Scan.more {w : World} {C Bo : Nat} {v vo vo' : Value} {s : ByteArray} {i : Nat} {ins : Bool} {p : List UInt8} {L' : List Ev}
 (hb : w.heap[C]? = some (.cells #[.string s, .int .i64 i, .bool ins, v, .pointer (some ⟨Bo, 0, none⟩)] 227 (0, 0))) (ho : w.heap[Bo]? = some (.cells #[vo] 131 (0, 0)))
 (ht : w.ownsRow 0 5 1 v p.length (Lib.byteCells p)) (he : Evs w 97 vo' L') : Scan (w.setCell ⟨Bo, 0, none⟩ vo') C Bo v vo' s i ins p L' := by
 have hne : C ≠ Bo := by
  rintro rfl
  have := hb.symm.trans ho
  cases this
 have hk : Keeps (fun k => k = Bo) w (w.setCell ⟨Bo, 0, none⟩ vo') := Keeps.setCell (D := fun k => k = Bo) (Keeps.refl _ w) (p := ⟨Bo, 0, none⟩) (fun _ => rfl) _
 refine ⟨hk.heap_some hb hne, ?_, own_kept ht hk ?_, he.kept hk ?_⟩
 ·simp [World.setCell, Array.getElem?_modify, ho]
 ·rintro k hk1 rfl; exact own_ne ht ho (by decide) hk1
 ·rintro k hk1 rfl; exact own_ne he ho (by decide) hk1
end Go.Proofs.YtbioecifiogffaaGreatDoor
namespace Go.Proofs.YtbioecifiogffaaGreatDoor
theorem indexByte_fnd (l : List UInt8) (c : UInt8) : Lib.indexByte l c = plc 0 (fnd c l) := by
 induction l with
 | nil => rfl
 | cons b t ih =>
  unfold Lib.indexByte fnd
  by_cases h : b = c
  ·simp [h, plc]
  ·rw [if_neg (by simpa using h), if_neg h, ih]
   cases fnd c t with
   | none => rfl
   | some k => simp [plc]
theorem index_fnd (l : List UInt8) (c : UInt8) : Lib.index l [c] = plc 0 (fnd c l) := by rw [Lib.index_one, indexByte_fnd]
theorem cut_some {l : List UInt8} {c : UInt8} {k : Nat} (h : fnd c l = some k) : Lib.cut l [c] = (l.take k, l.drop (k + 1), true) := by
 unfold Lib.cut
 rw [index_fnd, h]
 simp [plc]
theorem cut_none {l : List UInt8} {c : UInt8} (h : fnd c l = none) : Lib.cut l [c] = (l, [], false) := by
 unfold Lib.cut
 rw [index_fnd, h]
 simp [plc]
theorem contains_fnd (l : List UInt8) (c : UInt8) : decide (0 ≤ Lib.indexByte l c) = (fnd c l).isSome := by
 rw [indexByte_fnd]
 cases fnd c l <;> simp [plc]
theorem hasPrefix_cons (b c : UInt8) (t : List UInt8) : Lib.hasPrefix (b :: t) [c] = decide (b = c) := by
 unfold Lib.hasPrefix
 by_cases h : b = c
 ·simp [h]
 ·have : ¬ c = b := fun e => h e.symm
  simp [List.isPrefixOf, h, this]
theorem spc_none {l : List UInt8} (h : fnd 10 l = none) : spc l = l := by
 induction l with
 | nil => rfl
 | cons b t ih =>
  simp only [fnd] at h
  split at h
  ·cases h
  ·rename_i hb
   have := ih (by simpa using h)
   unfold spc at this ⊢
   rw [List.map_cons, if_neg hb, this]
theorem spc_some {l : List UInt8} {k : Nat} (h : fnd 10 l = some k) : spc l = l.take k ++ [32] ++ spc (l.drop (k + 1)) := by
 induction l generalizing k with
 | nil => simp [fnd] at h
 | cons b t ih =>
  simp only [fnd] at h
  split at h
  ·rename_i hb
   obtain rfl : 0 = k := by simpa using h
   simp [spc, hb]
  ·rename_i hb
   simp only [Option.map_eq_some_iff] at h
   obtain ⟨m, hm, rfl⟩ := h
   have := ih hm
   have e : spc (b :: t) = b :: spc t := by simp [spc, hb]
   rw [e, this]
   simp
theorem replaceK_spc (n : Nat) : ∀ l : List UInt8, Lib.count l [10] = n → Lib.replaceK [10] [32] n l = spc l := by
 induction n with
 | zero =>
  intro l h
  cases hf : fnd 10 l with
  | none => rw [spc_none hf]; rfl
  | some k =>
   have := Lib.count_hit (s := l) (sub := [10]) (i := k) (by simp) (by rw [index_fnd, hf]; simp [plc])
   omega
 | succ n ih =>
  intro l h
  cases hf : fnd 10 l with
  | none =>
   have hi : Lib.index l [10] = -1 := by rw [index_fnd, hf]; rfl
   have : Lib.count l [10] = 0 := Lib.count_miss hi
   omega
  | some k =>
   have hi : Lib.index l [10] = (k : Nat) := by rw [index_fnd, hf]; simp [plc]
   have := Lib.count_hit (s := l) (sub := [10]) (i := k) (by simp) hi
   rw [Lib.replaceK_hit _ _ _ _ _ hi, ih _ (by simp at this ⊢; omega), spc_some hf]
   rfl
theorem replaceAll_spc (l : List UInt8) : Lib.replaceAll l [10] [32] = spc l := by
 unfold Lib.replaceAll Lib.replace
 rw [if_neg (by decide)]
 have e : Lib.replaceNum l [10] (-1) = Lib.count l [10] := by unfold Lib.replaceNum; rw [if_pos (.inl (by decide))]
 rw [e]
 exact replaceK_spc _ l rfl
def ends (c : UInt8) : Bool := decide (c = 41 ∨ c = 32 ∨ c = 9 ∨ c = 10 ∨ c = 40)
theorem indexAny_dst (l : List UInt8) : (dst l = none ∧ (Lib.indexAny l [41, 32, 9, 10, 40] = -1 ∨ ∃ k : Nat, Lib.indexAny l [41, 32, 9, 10, 40] = k ∧ k < l.length ∧ l[k]? ≠ some 41)) ∨ (∃ k : Nat, dst l = some k ∧ Lib.indexAny l [41, 32, 9, 10, 40] = k ∧ l[k]? = some 41) := by
 induction l with
 | nil => exact .inl ⟨rfl, .inl rfl⟩
 | cons b t ih =>
  unfold Lib.indexAny dst
  by_cases h1 : b = 41
  ·subst h1
   exact .inr ⟨0, by simp, by simp, by simp⟩
  ·rw [if_neg h1]
   by_cases h2 : b = 32 ∨ b = 9 ∨ b = 10 ∨ b = 40
   ·rw [if_pos h2]
    refine .inl ⟨rfl, .inr ⟨0, ?_, by simp, by simpa using h1⟩⟩
    rw [if_pos (by rcases h2 with h | h | h | h <;> simp [h])]
    rfl
   ·rw [if_neg h2, if_neg (by simp; exact ⟨h1, fun h => h2 (.inl h), fun h => h2 (.inr (.inl h)), fun h => h2 (.inr (.inr (.inl h))), fun h => h2 (.inr (.inr (.inr h)))⟩)]
    rcases ih with ⟨hd, hi | ⟨k, hi, hk, hn⟩⟩ | ⟨k, hd, hi, hk⟩
    ·exact .inl ⟨by rw [hd]; rfl, .inl (by rw [hi]; rfl)⟩
    ·refine .inl ⟨by rw [hd]; rfl, .inr ⟨k + 1, ?_, by simp; omega, by simpa using hn⟩⟩
     rw [hi, if_neg (by simp)]
     simp
    ·refine .inr ⟨k + 1, by rw [hd]; rfl, ?_, by simpa using hk⟩
     rw [hi, if_neg (by simp)]
     simp
end Go.Proofs.YtbioecifiogffaaGreatDoor
namespace Go.Proofs.YtbioecifiogffaaGreatDoor
def splA : Ln → List UInt8 → List Ln
 | a, [] => [a]
 | a, c :: t => if c = 10 then a :: splA [] t else splA (a ++ [c]) t
theorem splA_ne (a : Ln) (s : List UInt8) : splA a s ≠ [] := by
 induction s generalizing a with
 | nil => simp [splA]
 | cons c t ih => unfold splA; split <;> simp [ih]
def offE (l : List Ln) : List Ln := if l.getLast? = some [] then l.dropLast else l
theorem lns_spl (a : Ln) (s : List UInt8) : offE (splA a s) = lnsA a s := by
 induction s generalizing a with
 | nil => unfold offE splA lnsA; by_cases h : a = [] <;> simp [h]
 | cons c t ih =>
  unfold splA lnsA
  split
  ·have h := ih []
   have hne := splA_ne [] t
   unfold offE at h ⊢
   rw [List.getLast?_cons_of_ne_nil hne, List.dropLast_cons_of_ne_nil hne]
   rw [← h]
   split <;> rfl
  ·exact ih _
theorem splA_some {k : Nat} {s : List UInt8} (a : Ln) (h : fnd 10 s = some k) : splA a s = (a ++ s.take k) :: splA [] (s.drop (k + 1)) := by
 induction s generalizing a k with
 | nil => simp [fnd] at h
 | cons b t ih =>
  simp only [fnd] at h
  conv => lhs; unfold splA
  split at h
  ·rename_i hb
   obtain rfl : 0 = k := by simpa using h
   rw [if_pos hb]
   simp
  ·rename_i hb
   simp only [Option.map_eq_some_iff] at h
   obtain ⟨m, hm, rfl⟩ := h
   rw [if_neg hb, ih _ hm]
   simp
theorem splA_none {s : List UInt8} (a : Ln) (h : fnd 10 s = none) : splA a s = [a ++ s] := by
 induction s generalizing a with
 | nil => simp [splA]
 | cons b t ih =>
  simp only [fnd] at h
  unfold splA
  split at h
  ·cases h
  ·rename_i hb
   rw [if_neg hb, ih _ (by simpa using h)]
   simp
theorem splitK_spl (n : Nat) : ∀ s : List UInt8, Lib.count s [10] = n → Lib.splitK [10] 0 n s = splA [] s := by
 induction n with
 | zero =>
  intro s h
  cases hf : fnd 10 s with
  | none => rw [splA_none _ hf]; rfl
  | some k =>
   have := Lib.count_hit (s := s) (sub := [10]) (i := k) (by simp) (by rw [index_fnd, hf]; simp [plc])
   omega
 | succ n ih =>
  intro s h
  cases hf : fnd 10 s with
  | none =>
   have hi : Lib.index s [10] = -1 := by rw [index_fnd, hf]; rfl
   have : Lib.count s [10] = 0 := Lib.count_miss hi
   omega
  | some k =>
   have hi : Lib.index s [10] = (k : Nat) := by rw [index_fnd, hf]; simp [plc]
   have hc := Lib.count_hit (s := s) (sub := [10]) (i := k) (by simp) hi
   unfold Lib.splitK
   rw [hi, if_neg (by simp), splA_some _ hf, ih _ (by simp at hc ⊢; omega)]
   simp
end Go.Proofs.YtbioecifiogffaaGreatDoor
namespace Go.Proofs.YtbioecifiogffaaGreatDoor
open Go.RowKit
theorem u8_ne (a b : UInt8) : (((a.toNat : Int)) != (b.toNat : Int)) = decide (a ≠ b) := by
 unfold bne
 rw [u8_beq]
 by_cases h : a = b <;> simp [h]
theorem fnd_take {c : UInt8} {t : List UInt8} (a : Nat) : (fnd c (t.take a)).isSome = true ↔ ∃ b, fnd c t = some b ∧ b < a := by
 induction t generalizing a with
 | nil => simp [fnd]
 | cons x r ih =>
  cases a with
  | zero => simp [fnd]
  | succ a =>
   rw [List.take_succ_cons]
   simp only [fnd]
   by_cases h : x = c
   ·simp [h]
   ·rw [if_neg h, if_neg h]
    have := ih a
    cases h1 : fnd c (r.take a) <;> cases h2 : fnd c r <;> simp [h1, h2] at this ⊢ <;> omega
def lres (i : Nat) : Option (Nat × Nat) → Value
 | some (k, m) => .tuple #[.int .i64 (i + 1 + k : Nat), .int .i64 (i + 1 + k + 2 : Nat), .int .i64 (i + 1 + k + 2 + m : Nat), .bool true]
 | none => .tuple #[.int .i64 0, .int .i64 0, .int .i64 0, .bool false]
theorem link_any (s : ByteArray) (i : Nat) (t : List UInt8) (w : World) (hd : s.data.toList.drop i = 91 :: t) (hs : s.size ≤ 1099511627776) :
 Calls Tryz.prog 97 #[.string s, .int .i64 i] w fun e w' => e = .returned (lres i (lnk t)) ∧ Fresh w w' := by
 obtain ⟨hi, _, ht⟩ := drop_cons hd
 obtain ⟨R, hR⟩ : ∃ R, R = lres i (lnk t) := ⟨_, rfl⟩
 rw [← hR]
 have HF1 := Lib.hid (fun W : World => find_any s 93 i W (by omega) hs)
 have HF2 := Lib.hid (fun W : World => find_any s 91 (i + 1) W (by omega) hs)
 have e1 : fnd 93 (91 :: t) = (fnd 93 t).map (· + 1) := rfl
 have key : ∀ (J K : Int), J = plc i (fnd 93 (s.data.toList.drop i)) → K = plc (i + 1) (fnd 91 (s.data.toList.drop (i + 1))) →
  (R = lres i none ∧ (J < 0 ∨ (0 ≤ K ∧ K < J ∧ 0 ≤ J))) ∨ (∃ a : Nat, i + 1 + a < s.size ∧ J = (i + 1 + a : Nat) ∧ (K < 0 ∨ J ≤ K) ∧
    ((R = lres i none ∧ s.size ≤ i + 1 + a + 1) ∨ ∃ h : i + 1 + a + 1 < s.size, (R = lres i none ∧ s[i + 1 + a + 1]'h ≠ 40) ∨
      (s[i + 1 + a + 1]'h = 40 ∧ R = lres i ((dst (s.data.toList.drop (i + 1 + a + 2))).map fun m => (a, m))))) := by
  intro J K hJ hK
  rw [hd, e1] at hJ
  rw [ht] at hK
  unfold lnk at hR
  cases h1 : fnd 93 t with
  | none =>
   rw [h1] at hJ hR
   exact .inl ⟨hR, .inl (by rw [hJ]; simp [plc])⟩
  | some a =>
   rw [h1] at hJ hR
   have hJ' : J = (i + 1 + a : Nat) := by rw [hJ]; simp only [plc, Option.map_some]; omega
   have hal : i + 1 + a < s.size := by
    have h3 := fnd_lt h1
    have h4 : t.length = s.size - (i + 1) := by rw [← ht]; simp
    omega
   by_cases h2 : (fnd 91 (t.take a)).isSome = true
   ·simp only [h2, if_true] at hR
    obtain ⟨b, hb, hba⟩ := (fnd_take a).1 h2
    rw [hb] at hK
    simp only [plc] at hK
    exact .inl ⟨hR, .inr ⟨by omega, by omega, by omega⟩⟩
   ·simp only [h2] at hR
    refine .inr ⟨a, hal, hJ', ?_, ?_⟩
    ·cases h3 : fnd 91 t with
     | none => rw [h3] at hK; left; rw [hK]; simp [plc]
     | some b =>
      rw [h3] at hK
      simp only [plc] at hK
      have : ¬ b < a := fun hlt => h2 ((fnd_take a).2 ⟨b, h3, hlt⟩)
      right; omega
    ·have hdd : t.drop (a + 1) = s.data.toList.drop (i + 1 + a + 1) := by rw [← ht, List.drop_drop]; rfl
     rw [hdd] at hR
     by_cases h4 : i + 1 + a + 1 < s.size
     ·refine .inr ⟨h4, ?_⟩
      rw [drop_lt h4] at hR
      simp only [Bool.false_eq_true, if_false] at hR
      by_cases h5 : s[i + 1 + a + 1]'h4 = 40
      ·rw [if_pos h5] at hR
       exact .inr ⟨h5, hR⟩
      ·rw [if_neg h5] at hR
       exact .inl ⟨hR, h5⟩
     ·rw [drop_ge (by omega)] at hR
      simp only [Bool.false_eq_true, if_false] at hR
      exact .inl ⟨hR, by omega⟩
 clear hR hd ht e1
 have HK := Lib.hid key
 clear key
 go_enter Tryz.func97, Tryz.ntmps97
 go_wp2_with (go_at_call 95; refine (HF1.out _).mono ?_)
 rintro e w1 ⟨rfl, hk1⟩
 go_wp2_with (go_at_call 95; refine (HF2.out _).mono ?_)
 rintro e w2 ⟨rfl, hk2⟩
 have HKK := Lib.hid (hk1.tr hk2)
 have hkey := HK.out _ _ rfl rfl
 clear HF1 HF2 HK hk1 hk2
 generalize plc i (fnd 93 (s.data.toList.drop i)) = J at *
 generalize plc (i + 1) (fnd 91 (s.data.toList.drop (i + 1))) = K at *
 rcases hkey with ⟨hR, hJ | ⟨hK0, hKJ, hJ0⟩⟩ | ⟨a, hal, rfl, hK, ⟨hR, hlen⟩ | ⟨h4, ⟨hR, h5⟩ | ⟨h5, hR⟩⟩⟩
 ·have H := Lib.hid hR
  clear hR
  go_wp2
  refine bodyPost_ret (v := .tuple #[.int .i64 0, .int .i64 0, .int .i64 0, .bool false]) (by simp [results, Tryz.results97, go_sem]) rfl ⟨by rw [show R = _ from H.out]; rfl, HKK.out⟩
 ·have H := Lib.hid hR
  clear hR
  go_wp2
  refine bodyPost_ret (v := .tuple #[.int .i64 0, .int .i64 0, .int .i64 0, .bool false]) (by simp [results, Tryz.results97, go_sem]) rfl ⟨by rw [show R = _ from H.out]; rfl, HKK.out⟩
 ·have H := Lib.hid hR
  clear hR
  rcases hK with hK | hK
  all_goals
   go_wp2
   refine bodyPost_ret (v := .tuple #[.int .i64 0, .int .i64 0, .int .i64 0, .bool false]) (by simp [results, Tryz.results97, go_sem]) rfl ⟨by rw [show R = _ from H.out]; rfl, HKK.out⟩
 ·have H := Lib.hid hR
  have e5 : (((s[i + 1 + a + 1]'h4).toNat : Int) != 40) = true := by rw [show ((40 : Int)) = ((40 : UInt8).toNat : Int) from rfl, u8_ne]; exact decide_eq_true h5
  clear hR h5
  rcases hK with hK | hK
  all_goals
   go_wp2
   refine bodyPost_ret (v := .tuple #[.int .i64 0, .int .i64 0, .int .i64 0, .bool false]) (by simp [results, Tryz.results97, go_sem]) rfl ⟨by rw [show R = _ from H.out]; rfl, HKK.out⟩
 ·have e5 : (((s[i + 1 + a + 1]'h4).toNat : Int) != 40) = false := by rw [show ((40 : Int)) = ((40 : UInt8).toNat : Int) from rfl, u8_ne]; exact decide_eq_false (fun h => h h5)
  have hloop : ∀ D : Option Nat, D = (dst (s.data.toList.drop (i + 1 + a + 2))).map (i + 1 + a + 2 + ·) → R = match D with | some e => .tuple #[.int .i64 (i + 1 + a : Nat), .int .i64 (i + 1 + a + 2 : Nat), .int .i64 (e : Nat), .bool true] | none => .tuple #[.int .i64 0, .int .i64 0, .int .i64 0, .bool false] := by
   rintro D rfl
   rw [hR]
   cases dst (s.data.toList.drop (i + 1 + a + 2)) <;> rfl
  obtain ⟨D, hD⟩ : ∃ D, D = (dst (s.data.toList.drop (i + 1 + a + 2))).map (i + 1 + a + 2 + ·) := ⟨_, rfl⟩
  have H := Lib.hid (hloop D hD)
  have HD := Lib.hid hD
  clear hR h5 hloop hD
  rcases hK with hK | hK
  all_goals
   go_wp2
   go_loop [10] (fun p => ∃ e : Nat, p = .int .i64 e ∧ i + 1 + a + 2 ≤ e ∧ e ≤ s.size ∧ (dst (s.data.toList.drop e)).map (e + ·) = D) (fun p => s.size - (intOf p).toNat)
   case atStart => exact ⟨i + 1 + a + 2, by simp, Nat.le_refl _, by omega, HD.out.symm⟩
   case round =>
    obtain ⟨e, rfl, he1, he2, hp⟩ := hrel
    have HP := Lib.hid hp
    clear hp
    by_cases hlt : e < s.size
    ·have hd := drop_lt hlt
     by_cases c41 : s[e]'hlt = 41
     ·have q : (((s[e]'hlt).toNat : Int) == 41) = true := (u8_beq (s[e]'hlt) 41).trans (decide_eq_true c41)
      have hr : D = some e := by rw [← HP.out, hd]; simp [dst, c41]
      have HR2 := Lib.hid hr
      clear hd c41 hr
      go_wp2
      refine bodyPost_ret (v := .tuple #[.int .i64 (i + 1 + a : Nat), .int .i64 (i + 1 + a + 2 : Nat), .int .i64 e, .bool true]) (by simp [results, Tryz.results97, go_sem]) rfl ⟨by rw [show R = _ from H.out, show D = _ from HR2.out], HKK.out⟩
     ·have q : (((s[e]'hlt).toNat : Int) == 41) = false := (u8_beq (s[e]'hlt) 41).trans (decide_eq_false c41)
      by_cases cw : s[e]'hlt = 32 ∨ s[e]'hlt = 9 ∨ s[e]'hlt = 10 ∨ s[e]'hlt = 40
      ·have hr : D = none := by rw [← HP.out, hd]; simp only [dst, if_neg c41, if_pos cw]; rfl
       have HR2 := Lib.hid hr
       have q32 := u8_beq (s[e]'hlt) 32
       have q9 := u8_beq (s[e]'hlt) 9
       have q10 := u8_beq (s[e]'hlt) 10
       have q40 := u8_beq (s[e]'hlt) 40
       clear hd c41 hr
       rcases cw with cw | cw | cw | cw
       all_goals
        rw [cw] at q q32 q9 q10 q40
        have q' : (((s[e]'hlt).toNat : Int) == 41) = false := by rw [cw]; rfl
        have q32' : (((s[e]'hlt).toNat : Int) == 32) = decide (s[e]'hlt = 32) := u8_beq (s[e]'hlt) 32
        have q9' : (((s[e]'hlt).toNat : Int) == 9) = decide (s[e]'hlt = 9) := u8_beq (s[e]'hlt) 9
        have q10' : (((s[e]'hlt).toNat : Int) == 10) = decide (s[e]'hlt = 10) := u8_beq (s[e]'hlt) 10
        have q40' : (((s[e]'hlt).toNat : Int) == 40) = decide (s[e]'hlt = 40) := u8_beq (s[e]'hlt) 40
        have z32 : decide (s[e]'hlt = 32) = _ := congrArg (fun x : UInt8 => decide (x = 32)) cw
        have z9 : decide (s[e]'hlt = 9) = _ := congrArg (fun x : UInt8 => decide (x = 9)) cw
        have z10 : decide (s[e]'hlt = 10) = _ := congrArg (fun x : UInt8 => decide (x = 10)) cw
        have z40 : decide (s[e]'hlt = 40) = _ := congrArg (fun x : UInt8 => decide (x = 40)) cw
        rw [z32] at q32'
        rw [z9] at q9'
        rw [z10] at q10'
        rw [z40] at q40'
        clear cw q q32 q9 q10 q40 z32 z9 z10 z40
        go_wp2
        refine bodyPost_ret (v := .tuple #[.int .i64 0, .int .i64 0, .int .i64 0, .bool false]) (by simp [results, Tryz.results97, go_sem]) rfl ⟨by rw [show R = _ from H.out, show D = _ from HR2.out], HKK.out⟩
      ·have hr : (dst (s.data.toList.drop (e + 1))).map (e + 1 + ·) = D := by
        rw [← HP.out, hd]
        simp only [dst, if_neg c41, if_neg cw, Option.map_map]
        congr 1
        funext x
        simp
        omega
       have HR2 := Lib.hid hr
       have q32 : (((s[e]'hlt).toNat : Int) == 32) = false := (u8_beq (s[e]'hlt) 32).trans (decide_eq_false (fun h => cw (.inl h)))
       have q9 : (((s[e]'hlt).toNat : Int) == 9) = false := (u8_beq (s[e]'hlt) 9).trans (decide_eq_false (fun h => cw (.inr (.inl h))))
       have q10 : (((s[e]'hlt).toNat : Int) == 10) = false := (u8_beq (s[e]'hlt) 10).trans (decide_eq_false (fun h => cw (.inr (.inr (.inl h)))))
       have q40 : (((s[e]'hlt).toNat : Int) == 40) = false := (u8_beq (s[e]'hlt) 40).trans (decide_eq_false (fun h => cw (.inr (.inr (.inr h)))))
       clear hd c41 hr cw
       go_wp2
       go_roundw
       case rel => exact ⟨e + 1, rfl, by omega, by omega, HR2.out⟩
       case measure => simp [intOf]; omega
    ·have hd := drop_ge (s := s) (i := e) (by omega)
     have hr : D = none := by rw [← HP.out, hd]; rfl
     have HR2 := Lib.hid hr
     clear hd hr
     go_wp2
     refine bodyPost_ret (v := .tuple #[.int .i64 0, .int .i64 0, .int .i64 0, .bool false]) (by simp [results, Tryz.results97, go_sem]) rfl ⟨by rw [show R = _ from H.out, show D = _ from HR2.out], HKK.out⟩
end Go.Proofs.YtbioecifiogffaaGreatDoor
namespace Go.Proofs.YtbioecifiogffaaGreatDoor
open Go.RowKit
theorem scn_go {s : ByteArray} {j n q : Nat} (hj : j < s.size) (hn : (s.data.toList.drop j).length ≤ n) (h42 : ¬ s[j]'hj = 42) (hq : skp (s[j]'hj) (s.data.toList.drop (j + 1)) = q) :
 ∃ m, (s.data.toList.drop (j + 1 + q)).length ≤ m ∧ (scn (n + 1) (s.data.toList.drop j)).map (j + ·) = (scn (m + 1) (s.data.toList.drop (j + 1 + q))).map (j + 1 + q + ·) := by
 rw [drop_lt hj] at hn ⊢
 obtain ⟨n, rfl⟩ : ∃ k, n = k + 1 := ⟨n - 1, by simp only [List.length_cons] at hn; omega⟩
 refine ⟨n, ?_, ?_⟩
 ·simp only [List.length_cons, List.length_drop] at hn ⊢
  omega
 ·simp only [scn, if_neg h42, hq, List.drop_drop, Option.map_map]
  congr 1
  funext x
  simp
  omega
theorem wht_eqs (x : UInt8) : ∃ p q r : Bool, (((x.toNat : Int)) == 32) = p ∧ (((x.toNat : Int)) == 9) = q ∧ (((x.toNat : Int)) == 10) = r ∧ wht x = (p || q || r) :=
 ⟨_, _, _, u8_beq x 32, u8_beq x 9, u8_beq x 10, rfl⟩
theorem skp_le (b : UInt8) (t : List UInt8) : skp b t ≤ t.length := by
 unfold skp
 split
 ·split
  ·simp
  ·split <;> simp
 ·split
  ·split
   ·rename_i k hk
    exact fnd_lt hk
   ·simp
  ·simp
theorem partner_any (s : ByteArray) (i : Nat) (t : List UInt8) (w : World) (hd : s.data.toList.drop i = 42 :: t) (hs : s.size ≤ 1099511627776) :
 Calls Tryz.prog 98 #[.string s, .int .i64 i] w fun e w' => e = .returned (.int .i64 (plc (i + 1) (str t))) ∧ Fresh w w' := by
 obtain ⟨hi, _, ht⟩ := drop_cons hd
 obtain ⟨R, hR⟩ : ∃ R, R = plc (i + 1) (str t) := ⟨_, rfl⟩
 rw [← hR]
 have hfind : ∀ (j : Nat) (W : World), j + 1 ≤ s.size → _ := fun j W h => find_any s 96 (j + 1) W h hs
 obtain ⟨D, hD⟩ : ∃ D, D = (scn (t.length + 1) t).map (i + 1 + ·) := ⟨_, rfl⟩
 have hend : (D = none → R = -1) ∧ (∀ j (hj : j < s.size), D = some j → i + 1 ≤ j ∧ (j = i + 1 → R = -1) ∧ (i + 1 < j → ∀ (a b : UInt8) (h1 : i + 1 < s.size) (h2 : j - 1 < s.size), s[i + 1]'h1 = a → s[j - 1]'h2 = b → R = if wht a || wht b then (-1 : Int) else (j : Int))) := by
  unfold str at hR
  cases hsc : scn (t.length + 1) t with
  | none =>
   rw [hsc] at hR hD
   exact ⟨fun _ => hR, fun j _ h => by rw [hD] at h; cases h⟩
  | some n =>
   rw [hsc] at hR hD
   refine ⟨fun h => (by rw [hD] at h; cases h), fun j hj h => ?_⟩
   obtain rfl : i + 1 + n = j := by rw [hD] at h; simpa using h
   refine ⟨by omega, fun h => ?_, fun h a b h1 h2 ha hb => ?_⟩
   ·obtain rfl : n = 0 := by omega
    simpa [plc] using hR
   ·have hn : ¬ n = 0 := by omega
    have e1 : t.headD 0 = a := by rw [← ht, drop_lt h1, ha]; rfl
    have e2 : t.getD (n - 1) 0 = b := by
     have h3 : i + 1 + n - 1 = i + 1 + (n - 1) := by omega
     rw [← ht, List.getD_eq_getElem?_getD, List.getElem?_drop]
     have h4 : i + 1 + (n - 1) < s.data.toList.length := by simp; omega
     rw [List.getElem?_eq_getElem h4]
     rw [← hb]
     simp [h3, ByteArray.getElem_eq_getElem_data]
    simp only [e1, e2, hn, false_or] at hR
    rw [hR]
    cases wht a <;> cases wht b <;> simp [plc]
 have hlen : t.length = s.size - (i + 1) := by rw [← ht]; simp
 have hst : (s.data.toList.drop (i + 1)).length ≤ t.length ∧ (scn (t.length + 1) (s.data.toList.drop (i + 1))).map (i + 1 + ·) = D := by rw [ht, hD]; exact ⟨Nat.le_refl _, rfl⟩
 have HF := Lib.hid hfind
 have HE := Lib.hid hend
 have HST := Lib.hid hst
 clear hfind hend hst
 clear hR hD hd ht
 go_enter Tryz.func98, Tryz.ntmps98
 go_wp2
 go_loopw [5] (fun p wr => Fresh w wr ∧ ∃ j n : Nat, p = .int .i64 j ∧ i + 1 ≤ j ∧ j ≤ s.size ∧ (s.data.toList.drop j).length ≤ n ∧ (scn (n + 1) (s.data.toList.drop j)).map (j + ·) = D) (fun p _ => s.size - (intOf p).toNat)
 case atStart => exact ⟨Keeps.refl _ _, i + 1, t.length, by simp, Nat.le_refl _, by omega, HST.out.1, HST.out.2⟩
 case round =>
  obtain ⟨hFr, j, n, rfl, hj1, hj2, hn, hp⟩ := hrel
  by_cases hlt : j < s.size
  ·by_cases h42 : s[j]'hlt = 42
   ·have q : (((s[j]'hlt).toNat : Int) != 42) = false := (u8_ne (s[j]'hlt) 42).trans (decide_eq_false (fun h => h h42))
    have hr : D = some j := by rw [← hp, drop_lt hlt]; simp [scn, h42]
    obtain ⟨_, x1, x2⟩ := HE.out.2 j hlt hr
    clear hp hr hn h42 HST
    by_cases hji : j = i + 1
    ·have hr2 := Lib.hid (x1 hji)
     clear x1 x2
     subst hji
     go_wp2
     go_ret
     exact ⟨by rw [show R = _ from hr2.out]; rfl, hFr⟩
    ·have h1 : i + 1 < s.size := by omega
     have h2 : j - 1 < s.size := by omega
     obtain ⟨a, ha⟩ : ∃ a, s[i + 1]'h1 = a := ⟨_, rfl⟩
     obtain ⟨b, hb⟩ : ∃ b, s[j - 1]'h2 = b := ⟨_, rfl⟩
     have hr2 := x2 (by omega) a b h1 h2 ha hb
     have HR2 := Lib.hid hr2
     clear x1 x2 hr2
     obtain ⟨p1, p2, p3, y1, y2, y3, hwa⟩ := wht_eqs a
     obtain ⟨r1, r2, r3, z1, z2, z3, hwb⟩ := wht_eqs b
     rw [← ha] at y1 y2 y3
     rw [← hb] at z1 z2 z3
     have HWA := Lib.hid hwa
     have HWB := Lib.hid hwb
     clear ha hb hwa hwb
     have hjj : ((j : Int) == (i : Int) + 1) = false := by rw [beq_eq_false_iff_ne]; omega
     have hj0 : 0 ≤ (j : Int) - 1 := by omega
     have hj3 : ((j : Int) - 1).toNat = j - 1 := by omega
     cases p1
     ·cases p2
      ·cases p3
       ·cases r1
        ·cases r2
         ·cases r3
          ·go_wp2
           go_ret
           exact ⟨by rw [show R = _ from HR2.out, HWA.out, HWB.out]; rfl, hFr⟩
          ·go_wp2
           go_ret
           exact ⟨by rw [show R = _ from HR2.out, HWA.out, HWB.out]; rfl, hFr⟩
         ·go_wp2
          go_ret
          exact ⟨by rw [show R = _ from HR2.out, HWA.out, HWB.out]; rfl, hFr⟩
        ·go_wp2
         go_ret
         exact ⟨by rw [show R = _ from HR2.out, HWA.out, HWB.out]; rfl, hFr⟩
       ·go_wp2
        go_ret
        exact ⟨by rw [show R = _ from HR2.out, HWA.out, HWB.out]; rfl, hFr⟩
      ·go_wp2
       go_ret
       exact ⟨by rw [show R = _ from HR2.out, HWA.out, HWB.out]; rfl, hFr⟩
     ·go_wp2
      go_ret
      exact ⟨by rw [show R = _ from HR2.out, HWA.out, HWB.out]; rfl, hFr⟩
   ·have q : (((s[j]'hlt).toNat : Int) != 42) = true := (u8_ne (s[j]'hlt) 42).trans (decide_eq_true h42)
    have hstep := fun q hq => scn_go (q := q) hlt hn h42 hq
    rw [hp] at hstep
    have hkl := skp_le (s[j]'hlt) (s.data.toList.drop (j + 1))
    rw [List.length_drop] at hkl
    have hle : s.data.toList.length = s.size := by simp
    rw [hle] at hkl
    have HSTEP := Lib.hid hstep
    have HN := Lib.hid hn
    have H42 := Lib.hid h42
    clear hstep hn h42 hp hle HE HST
    go_wp2_with (go_at_call 95; refine (HF.out j _ (by omega)).mono ?_)
    rintro e w1 ⟨rfl, hk1⟩
    have hF1 := hFr.tr hk1
    clear hFr hk1
    have HF1 := Lib.hid hF1
    clear hF1
    by_cases c92 : s[j]'hlt = 92
    ·have q1 : (((s[j]'hlt).toNat : Int) == 92) = true := (u8_beq (s[j]'hlt) 92).trans (decide_eq_true c92)
     have q2 : (((s[j]'hlt).toNat : Int) == 96) = false := (u8_beq (s[j]'hlt) 96).trans (decide_eq_false (by rw [c92]; decide))
     by_cases h1 : j + 1 < s.size
     ·have hskp : skp (s[j]'hlt) (s.data.toList.drop (j + 1)) = if sgn (s[j + 1]'h1) || s[j + 1]'h1 = 10 then 1 else 0 := by
       rw [drop_lt h1, c92]
       simp [skp]
      have HSK := Lib.hid hskp
      have hsg := fun W : World => sign_any (s[j + 1]'h1) W
      have e10 : (((s[j + 1]'h1).toNat : Int) == 10) = decide (s[j + 1]'h1 = 10) := u8_beq _ 10
      clear hskp c92 hkl
      generalize sgn (s[j + 1]'h1) = sg at *
      generalize decide (s[j + 1]'h1 = 10) = b10 at *
      have HSG := Lib.hid hsg
      clear hsg
      go_wp2_with (go_at_call 94; refine (HSG.out _).mono ?_)
      rintro e w2 ⟨rfl, hk2⟩
      have HF2 := Lib.hid (HF1.out.tr hk2)
      clear hk2
      cases sg
      ·cases b10
       ·obtain ⟨m, hm1, hm2⟩ := HSTEP.out 0 (by rw [HSK.out]; rfl)
        have HM1 := Lib.hid hm1
        have HM2 := Lib.hid hm2
        clear hm1 hm2
        go_wp2
        go_roundw
        case rel => exact ⟨HF2.out, j + 1, m, rfl, by omega, by omega, HM1.out, HM2.out.symm⟩
        case measure => simp [intOf]; omega
       ·obtain ⟨m, hm1, hm2⟩ := HSTEP.out 1 (by rw [HSK.out]; rfl)
        have HM1 := Lib.hid hm1
        have HM2 := Lib.hid hm2
        clear hm1 hm2
        go_wp2
        go_roundw
        case rel => exact ⟨HF2.out, j + 1 + 1, m, by simp; omega, by omega, by omega, HM1.out, HM2.out.symm⟩
        case measure => simp [intOf]; omega
      ·obtain ⟨m, hm1, hm2⟩ := HSTEP.out 1 (by rw [HSK.out]; rfl)
       have HM1 := Lib.hid hm1
       have HM2 := Lib.hid hm2
       clear hm1 hm2
       go_wp2
       go_roundw
       case rel => exact ⟨HF2.out, j + 1 + 1, m, by simp; omega, by omega, by omega, HM1.out, HM2.out.symm⟩
       case measure => simp [intOf]; omega
     ·have hskp : skp (s[j]'hlt) (s.data.toList.drop (j + 1)) = 0 := by
       rw [drop_ge (by omega), c92]
       simp [skp]
      obtain ⟨m, hm1, hm2⟩ := HSTEP.out 0 hskp
      have HM1 := Lib.hid hm1
      have HM2 := Lib.hid hm2
      clear hm1 hm2 hskp c92 hkl
      go_wp2
      go_roundw
      case rel => exact ⟨HF1.out, j + 1, m, rfl, by omega, by omega, HM1.out, HM2.out.symm⟩
      case measure => simp [intOf]; omega
    ·have q1 : (((s[j]'hlt).toNat : Int) == 92) = false := (u8_beq (s[j]'hlt) 92).trans (decide_eq_false c92)
     by_cases c96 : s[j]'hlt = 96
     ·have q2 : (((s[j]'hlt).toNat : Int) == 96) = true := (u8_beq (s[j]'hlt) 96).trans (decide_eq_true c96)
      have hskp : skp (s[j]'hlt) (s.data.toList.drop (j + 1)) = match fnd 96 (s.data.toList.drop (j + 1)) with | some k => k + 1 | none => 0 := by rw [c96]; rfl
      clear c96 c92
      cases hfd : fnd 96 (s.data.toList.drop (j + 1)) with
      | none =>
       rw [hfd] at hskp
       obtain ⟨m, hm1, hm2⟩ := HSTEP.out 0 hskp
       have HM1 := Lib.hid hm1
       have HM2 := Lib.hid hm2
       have hpl : plc (j + 1) none = -1 := rfl
       clear hm1 hm2 hskp hkl hfd
       rw [hpl]
       go_wp2
       go_roundw
       case rel => exact ⟨HF1.out, j + 1, m, rfl, by omega, by omega, HM1.out, HM2.out.symm⟩
       case measure => simp [intOf]; omega
      | some k =>
       rw [hfd] at hskp
       obtain ⟨m, hm1, hm2⟩ := HSTEP.out (k + 1) hskp
       have HM1 := Lib.hid hm1
       have HM2 := Lib.hid hm2
       have hpl : plc (j + 1) (some k) = (j + 1 + k : Nat) := rfl
       rw [hskp] at hkl
       have hkl2 : k + 1 ≤ s.size - (j + 1) := hkl
       clear hm1 hm2 hskp hkl hfd
       rw [hpl]
       go_wp2
       go_roundw
       case rel => exact ⟨HF1.out, j + 1 + (k + 1), m, by simp; omega, by omega, by omega, HM1.out, HM2.out.symm⟩
       case measure => simp [intOf]; omega
     ·have q2 : (((s[j]'hlt).toNat : Int) == 96) = false := (u8_beq (s[j]'hlt) 96).trans (decide_eq_false c96)
      have hskp : skp (s[j]'hlt) (s.data.toList.drop (j + 1)) = 0 := by unfold skp; rw [if_neg c92, if_neg c96]
      obtain ⟨m, hm1, hm2⟩ := HSTEP.out 0 hskp
      have HM1 := Lib.hid hm1
      have HM2 := Lib.hid hm2
      clear hm1 hm2 hskp c92 hkl c96
      go_wp2
      go_roundw
      case rel => exact ⟨HF1.out, j + 1, m, rfl, by omega, by omega, HM1.out, HM2.out.symm⟩
      case measure => simp [intOf]; omega
  ·have hr : D = none := by rw [← hp, drop_ge (by omega)]; rfl
   have hr2 := Lib.hid (HE.out.1 hr)
   clear hp hr hn HST
   go_wp2
   go_ret
   exact ⟨by rw [show R = _ from hr2.out]; rfl, hFr⟩
end Go.Proofs.YtbioecifiogffaaGreatDoor
namespace Go.Proofs.YtbioecifiogffaaGreatDoor
open Go.RowKit
theorem sgn_index (c : UInt8) : decide (0 ≤ Lib.indexByte [33, 34, 35, 36, 37, 38, 39, 40, 41, 42, 43, 44, 45, 46, 47, 58, 59, 60, 61, 62, 63, 64, 91, 92, 93, 94, 95, 96, 123, 124, 125, 126] c) = sgn c := by
 have h : ∀ n : Fin 256, decide (0 ≤ Lib.indexByte [33, 34, 35, 36, 37, 38, 39, 40, 41, 42, 43, 44, 45, 46, 47, 58, 59, 60, 61, 62, 63, 64, 91, 92, 93, 94, 95, 96, 123, 124, 125, 126] (UInt8.ofNat n.val)) = sgn (UInt8.ofNat n.val) := by decide +kernel
 have := h ⟨c.toNat, c.toNat_lt⟩
 simpa using this
theorem wht_index (c : UInt8) : decide (0 ≤ Lib.indexByte [32, 9, 10] c) = wht c := by
 have h : ∀ n : Fin 256, decide (0 ≤ Lib.indexByte [32, 9, 10] (UInt8.ofNat n.val)) = wht (UInt8.ofNat n.val) := by decide +kernel
 have := h ⟨c.toNat, c.toNat_lt⟩
 simpa using this
def esc : List UInt8 → Bool
 | [] => false
 | c :: _ => sgn c
theorem escaped_any (s : ByteArray) (w : World) : Calls Tryz.prog 147 #[.string s] w fun e w' => e = .returned (.bool (esc s.data.toList)) ∧ Fresh w w' := by
 by_cases h0 : 0 < s.size
 ·have hd := drop_lt h0
  rw [List.drop_zero] at hd
  obtain ⟨R, hR⟩ : ∃ R, R = esc s.data.toList := ⟨_, rfl⟩
  rw [← hR]
  have hi := fun W : World => Tryz.strings_IndexByte ⟨#[33, 34, 35, 36, 37, 38, 39, 40, 41, 42, 43, 44, 45, 46, 47, 58, 59, 60, 61, 62, 63, 64, 91, 92, 93, 94, 95, 96, 123, 124, 125, 126]⟩ ((s[0]'h0).toNat : Int) W
  have hne : s.toList.isEmpty = false := by rw [ByteArray.toList_eq, hd]; rfl
  have hr : R = sgn (s[0]'h0) := by rw [hR, hd]; rfl
  have HR := Lib.hid hr
  have HI := Lib.hid hi
  clear hd hR hi hr
  go_enter Tryz.func147, Tryz.ntmps147
  go_wp2_with (go_at_call 106; refine (HI.out _).mono ?_)
  go_ret
  exact ⟨by rw [show R = _ from HR.out, ← sgn_index]; rfl, Keeps.refl _ _⟩
 ·have hs : s.data.toList = [] := by
   have h1 : s.size = 0 := by omega
   have : s.data.toList.length = 0 := by simpa using h1
   exact List.eq_nil_of_length_eq_zero this
  have hse : s = ⟨#[]⟩ := by apply ByteArray.ext; apply Array.ext'; rw [hs]
  subst hse
  go_enter Tryz.func147, Tryz.ntmps147
  go_wp2
  go_ret
  exact ⟨rfl, Keeps.refl _ _⟩
end Go.Proofs.YtbioecifiogffaaGreatDoor
namespace Go.Proofs.YtbioecifiogffaaGreatDoor
open Go.RowKit
theorem white_any (c : UInt8) : ∃ J : Int, decide (0 ≤ J) = wht c ∧ ∀ W : World, Calls Tryz.prog 106 #[.string ⟨#[32, 9, 10]⟩, .int .u8 c.toNat] W fun e w' => e = .returned (.int .i64 J) ∧ w' = W := by
 refine ⟨Lib.indexByte [32, 9, 10] c, wht_index c, fun W => ?_⟩
 have h := Tryz.strings_IndexByte ⟨#[32, 9, 10]⟩ (c.toNat : Int) W
 have e1 : ((c.toNat : Int)).toNat.toUInt8 = c := by simp
 rw [e1] at h
 exact h
theorem rest_list (s : ByteArray) (i : Nat) : (s.extract i s.size).data.toList = s.data.toList.drop i := by
 rw [ByteArray.data_extract, Array.toList_extract, List.extract_eq_take_drop]
 apply List.take_of_length_le
 simp
theorem star_any (s : ByteArray) (w : World) (hs : s.size ≤ 1099511627776) :
 Calls Tryz.prog 151 #[.string s] w fun e w' => e = .returned (.int .i64 (plc 0 (str s.data.toList))) ∧ Fresh w w' := by
 obtain ⟨R, hR⟩ : ∃ R, R = plc 0 (str s.data.toList) := ⟨_, rfl⟩
 rw [← hR]
 obtain ⟨D, hD⟩ : ∃ D, D = scn (s.data.toList.length + 1) s.data.toList := ⟨_, rfl⟩
 have hend : (D = none → R = -1) ∧ (∀ j (hj : j < s.size), D = some j → (j = 0 → R = -1) ∧ (0 < j → ∀ (a b : UInt8) (h1 : 0 < s.size) (h2 : j - 1 < s.size), s[0]'h1 = a → s[j - 1]'h2 = b → R = if wht a || wht b then (-1 : Int) else (j : Int))) := by
  unfold str at hR
  rw [← hD] at hR
  cases D with
  | none => exact ⟨fun _ => hR, fun j _ h => by cases h⟩
  | some n =>
   refine ⟨fun h => (by cases h), fun j hj h => ?_⟩
   obtain rfl : n = j := by simpa using h
   refine ⟨fun h => ?_, fun h a b h1 h2 ha hb => ?_⟩
   ·subst h
    simpa [plc] using hR
   ·have hn : ¬ n = 0 := by omega
    have e1 : s.data.toList.headD 0 = a := by
     have := drop_lt h1
     rw [List.drop_zero, ha] at this
     rw [this]; rfl
    have e2 : s.data.toList.getD (n - 1) 0 = b := by
     rw [List.getD_eq_getElem?_getD]
     have h4 : n - 1 < s.data.toList.length := by simp; omega
     rw [List.getElem?_eq_getElem h4]
     rw [← hb]
     simp [ByteArray.getElem_eq_getElem_data]
    simp only [e1, e2, hn, false_or] at hR
    rw [hR]
    cases hwa : wht a <;> cases hwb : wht b <;> simp [plc]
 have hst : (scn (s.data.toList.length + 1) (s.data.toList.drop 0)).map (0 + ·) = D := by rw [hD, List.drop_zero]; simp
 have hlen : s.data.toList.length = s.size := by simp
 have HE := Lib.hid hend
 have HST := Lib.hid hst
 have HL := Lib.hid hlen
 clear hend hst hlen
 clear hR hD
 go_enter Tryz.func151, Tryz.ntmps151
 go_wp2
 go_loopw [3] (fun p wr => Fresh w wr ∧ ∃ j n : Nat, p = .int .i64 j ∧ j ≤ s.size ∧ (s.data.toList.drop j).length ≤ n ∧ (scn (n + 1) (s.data.toList.drop j)).map (j + ·) = D) (fun p _ => s.size - (intOf p).toNat)
 case atStart => exact ⟨Keeps.refl _ _, 0, s.data.toList.length, rfl, by omega, by simp, HST.out⟩
 case round =>
  obtain ⟨hFr, j, n, rfl, hj2, hn, hp⟩ := hrel
  by_cases hlt : j < s.size
  ·by_cases h42 : s[j]'hlt = 42
   ·have q : (((s[j]'hlt).toNat : Int) == 42) = true := (u8_beq (s[j]'hlt) 42).trans (decide_eq_true h42)
    have hr : D = some j := by rw [← hp, drop_lt hlt]; simp [scn, h42]
    obtain ⟨x1, x2⟩ := HE.out.2 j hlt hr
    clear hp hr hn h42 HST
    by_cases hji : j = 0
    ·have hr2 := Lib.hid (x1 hji)
     clear x1 x2
     subst hji
     go_wp2
     go_ret
     exact ⟨by rw [show R = _ from hr2.out]; rfl, hFr⟩
    ·have h1 : 0 < s.size := by omega
     have h2 : j - 1 < s.size := by omega
     obtain ⟨a, ha⟩ : ∃ a, s[0]'h1 = a := ⟨_, rfl⟩
     obtain ⟨b, hb⟩ : ∃ b, s[j - 1]'h2 = b := ⟨_, rfl⟩
     have hr2 := x2 (by omega) a b h1 h2 ha hb
     have HR2 := Lib.hid hr2
     clear x1 x2 hr2
     obtain ⟨J0, hJ0, hc0⟩ := white_any a
     obtain ⟨J1, hJ1, hc1⟩ := white_any b
     rw [← ha] at hc0
     rw [← hb] at hc1
     have HC0 := Lib.hid hc0
     have HC1 := Lib.hid hc1
     clear hc0 hc1 ha hb
     have hj3 : ((j : Int) - 1).toNat = j - 1 := by omega
     have hj0 : ((j : Int) == 0) = false := by rw [beq_eq_false_iff_ne]; omega
     cases hwa : wht a with
     | true =>
      rw [hwa] at hJ0
      have g0 : 0 ≤ J0 := of_decide_eq_true hJ0
      have HWA := Lib.hid hwa
      clear hJ0 hJ1 hwa
      go_wp2_with (go_at_call 106; refine (HC0.out _).mono ?_)
      rintro e w2 ⟨rfl, rfl⟩
      go_wp2
      go_ret
      exact ⟨by rw [show R = _ from HR2.out, HWA.out]; rfl, hFr⟩
     | false =>
      rw [hwa] at hJ0
      have g0 : J0 < 0 := by have := of_decide_eq_false hJ0; omega
      have HWA := Lib.hid hwa
      clear hwa
      cases hwb : wht b with
      | true =>
       rw [hwb] at hJ1
       have g1 : 0 ≤ J1 := of_decide_eq_true hJ1
       have HWB := Lib.hid hwb
       clear hJ1 hwb
       go_wp2_with (go_at_call 106; refine (HC0.out _).mono ?_)
       rintro e w2 ⟨rfl, rfl⟩
       go_wp2_with (go_at_call 106; refine (HC1.out _).mono ?_)
       rintro e w2 ⟨rfl, rfl⟩
       go_wp2
       go_ret
       exact ⟨by rw [show R = _ from HR2.out, HWA.out, HWB.out]; rfl, hFr⟩
      | false =>
       rw [hwb] at hJ1
       have g1 : J1 < 0 := by have := of_decide_eq_false hJ1; omega
       have HWB := Lib.hid hwb
       clear hwb
       go_wp2_with (go_at_call 106; refine (HC0.out _).mono ?_)
       rintro e w2 ⟨rfl, rfl⟩
       go_wp2_with (go_at_call 106; refine (HC1.out _).mono ?_)
       rintro e w2 ⟨rfl, rfl⟩
       go_wp2
       go_ret
       exact ⟨by rw [show R = _ from HR2.out, HWA.out, HWB.out]; rfl, hFr⟩
   ·have q : (((s[j]'hlt).toNat : Int) == 42) = false := (u8_beq (s[j]'hlt) 42).trans (decide_eq_false h42)
    have hstep := fun q hq => scn_go (q := q) hlt hn h42 hq
    rw [hp] at hstep
    have hkl := skp_le (s[j]'hlt) (s.data.toList.drop (j + 1))
    rw [List.length_drop, HL.out] at hkl
    have HSTEP := Lib.hid hstep
    have HF1 := Lib.hid hFr
    have hrest := rest_list s (j + 1)
    clear hstep hn h42 hp HE HST hFr
    by_cases c92 : s[j]'hlt = 92
    ·have q1 : (((s[j]'hlt).toNat : Int) == 92) = true := (u8_beq (s[j]'hlt) 92).trans (decide_eq_true c92)
     have hes := fun W : World => escaped_any (s.extract (j + 1) s.size) W
     have hpf := fun W : World => Tryz.strings_HasPrefix (s.extract (j + 1) s.size) ⟨#[10]⟩ W
     rw [hrest] at hes hpf
     have hsk : ∃ e1 e2 : Bool, esc (s.data.toList.drop (j + 1)) = e1 ∧ Lib.hasPrefix (s.data.toList.drop (j + 1)) (⟨#[10]⟩ : ByteArray).data.toList = e2 ∧ skp (s[j]'hlt) (s.data.toList.drop (j + 1)) = if e1 || e2 then 1 else 0 := by
      refine ⟨_, _, rfl, rfl, ?_⟩
      rw [c92]
      cases hdd : s.data.toList.drop (j + 1) with
      | nil => rfl
      | cons c r =>
       have := hasPrefix_cons c 10 r
       show _ = if sgn c || Lib.hasPrefix (c :: r) [10] then 1 else 0
       rw [this]
       simp [skp]
     obtain ⟨e1, e2, he1, he2, hskp⟩ := hsk
     rw [he1] at hes
     rw [he2] at hpf
     have HES := Lib.hid hes
     have HPF := Lib.hid hpf
     have HSK := Lib.hid hskp
     clear hes hpf he1 he2 hrest c92
     cases e1 with
     | true =>
      have hq1 := HSK.out
      obtain ⟨m, hm1, hm2⟩ := HSTEP.out 1 hq1
      have HM1 := Lib.hid hm1
      have HM2 := Lib.hid hm2
      rw [hq1] at hkl
      have hkl2 : 1 ≤ s.size - (j + 1) := hkl
      clear hm1 hm2 hq1 hkl
      go_wp2_with (go_at_call 147; refine (HES.out _).mono ?_)
      rintro e w2 ⟨rfl, hk2⟩
      have HK2 := Lib.hid hk2
      clear hk2
      go_wp2
      go_roundw
      case rel => exact ⟨HF1.out.tr HK2.out, j + 1 + 1, m, by simp, by omega, HM1.out, HM2.out.symm⟩
      case measure => simp [intOf]; omega
     | false =>
      cases e2 with
      | true =>
       have hq1 := HSK.out
       obtain ⟨m, hm1, hm2⟩ := HSTEP.out 1 hq1
       have HM1 := Lib.hid hm1
       have HM2 := Lib.hid hm2
       rw [hq1] at hkl
       have hkl2 : 1 ≤ s.size - (j + 1) := hkl
       clear hm1 hm2 hq1 hkl
       go_wp2_with (go_at_call 147; refine (HES.out _).mono ?_)
       rintro e w2 ⟨rfl, hk2⟩
       have HK2 := Lib.hid hk2
       clear hk2
       go_wp2_with (go_at_call 134; refine (HPF.out _).mono ?_)
       rintro e w3 ⟨rfl, rfl⟩
       go_wp2
       go_roundw
       case rel => exact ⟨HF1.out.tr HK2.out, j + 1 + 1, m, by simp, by omega, HM1.out, HM2.out.symm⟩
       case measure => simp [intOf]; omega
      | false =>
       have hq1 := HSK.out
       obtain ⟨m, hm1, hm2⟩ := HSTEP.out 0 hq1
       have HM1 := Lib.hid hm1
       have HM2 := Lib.hid hm2
       clear hm1 hm2 hq1 hkl
       go_wp2_with (go_at_call 147; refine (HES.out _).mono ?_)
       rintro e w2 ⟨rfl, hk2⟩
       have HK2 := Lib.hid hk2
       clear hk2
       go_wp2_with (go_at_call 134; refine (HPF.out _).mono ?_)
       rintro e w3 ⟨rfl, rfl⟩
       go_wp2
       go_roundw
       case rel => exact ⟨HF1.out.tr HK2.out, j + 1, m, by simp, by omega, HM1.out, HM2.out.symm⟩
       case measure => simp [intOf]; omega
    ·have q1 : (((s[j]'hlt).toNat : Int) == 92) = false := (u8_beq (s[j]'hlt) 92).trans (decide_eq_false c92)
     by_cases c96 : s[j]'hlt = 96
     ·have q2 : (((s[j]'hlt).toNat : Int) == 96) = true := (u8_beq (s[j]'hlt) 96).trans (decide_eq_true c96)
      have hskp : skp (s[j]'hlt) (s.data.toList.drop (j + 1)) = match fnd 96 (s.data.toList.drop (j + 1)) with | some k => k + 1 | none => 0 := by rw [c96]; rfl
      have hib : ∀ W : World, Calls Tryz.prog 106 #[.string (s.extract (j + 1) s.size), .int .u8 96] W fun e w' => e = .returned (.int .i64 (plc 0 (fnd 96 (s.data.toList.drop (j + 1))))) ∧ w' = W := fun W => by
       have h := Tryz.strings_IndexByte (s.extract (j + 1) s.size) 96 W
       rw [hrest, indexByte_fnd] at h
       exact h
      clear c96 c92 hrest
      cases hfd : fnd 96 (s.data.toList.drop (j + 1)) with
      | none =>
       rw [hfd] at hskp hib
       obtain ⟨m, hm1, hm2⟩ := HSTEP.out 0 hskp
       have HM1 := Lib.hid hm1
       have HM2 := Lib.hid hm2
       have hpl : plc 0 none = -1 := rfl
       rw [hpl] at hib
       have HIB := Lib.hid hib
       clear hm1 hm2 hskp hkl hfd hib hpl
       go_wp2_with (go_at_call 106; refine (HIB.out _).mono ?_)
       rintro e w2 ⟨rfl, rfl⟩
       go_wp2
       go_roundw
       case rel => exact ⟨HF1.out, j + 1, m, by simp, by omega, HM1.out, HM2.out.symm⟩
       case measure => simp [intOf]; omega
      | some k =>
       rw [hfd] at hskp hib
       obtain ⟨m, hm1, hm2⟩ := HSTEP.out (k + 1) hskp
       have HM1 := Lib.hid hm1
       have HM2 := Lib.hid hm2
       have hpl : plc 0 (some k) = (k : Nat) := by simp [plc]
       rw [hpl] at hib
       have HIB := Lib.hid hib
       rw [hskp] at hkl
       have hkl2 : k + 1 ≤ s.size - (j + 1) := hkl
       clear hm1 hm2 hskp hkl hfd hib hpl
       go_wp2_with (go_at_call 106; refine (HIB.out _).mono ?_)
       rintro e w2 ⟨rfl, rfl⟩
       go_wp2
       go_roundw
       case rel => exact ⟨HF1.out, j + 1 + (k + 1), m, by simp; omega, by omega, HM1.out, HM2.out.symm⟩
       case measure => simp [intOf]; omega
     ·have q2 : (((s[j]'hlt).toNat : Int) == 96) = false := (u8_beq (s[j]'hlt) 96).trans (decide_eq_false c96)
      have hskp : skp (s[j]'hlt) (s.data.toList.drop (j + 1)) = 0 := by unfold skp; rw [if_neg c92, if_neg c96]
      obtain ⟨m, hm1, hm2⟩ := HSTEP.out 0 hskp
      have HM1 := Lib.hid hm1
      have HM2 := Lib.hid hm2
      clear hm1 hm2 hskp c92 hkl c96 hrest
      go_wp2
      go_roundw
      case rel => exact ⟨HF1.out, j + 1, m, by simp, by omega, HM1.out, HM2.out.symm⟩
      case measure => simp [intOf]; omega
  ·have hr : D = none := by rw [← hp, drop_ge (by omega)]; rfl
   have hr2 := Lib.hid (HE.out.1 hr)
   clear hp hr hn HST
   go_wp2
   go_ret
   exact ⟨by rw [show R = _ from hr2.out]; rfl, hFr⟩
end Go.Proofs.YtbioecifiogffaaGreatDoor
namespace Go.Proofs.YtbioecifiogffaaGreatDoor
open Go.RowKit
theorem Tryz.infoStr : (Tryz.prog.info? 9).map (fun i => (i.zero, i.size, i.bytes)) = some (some (.string ⟨#[]⟩), 1, 16) := by kernel_rfl
def lnCells (l : List Ln) : List Value := l.map fun s => Value.string ⟨s.toArray⟩
theorem lnCells_append (a b : List Ln) : lnCells (a ++ b) = lnCells a ++ lnCells b := by simp [lnCells]
theorem lnCells_get (l : List Ln) (j : Nat) (s : Ln) (h : l[j]? = some s) : (lnCells l)[j]? = some (.string ⟨s.toArray⟩) := by simp [lnCells, h]
def Lns (w : World) (v : Value) (l : List Ln) : Prop := w.ownsRow 0 9 1 v l.length (lnCells l)
theorem Lns.nil (w : World) : Lns w (.slice none 0 0) [] := World.ownsRow_nil _ _ _ _
theorem Lns.fresh {w w' : World} {v : Value} {l : List Ln} (h : Lns w v l) (hk : Fresh w w') : Lns w' v l := own_kept h hk (fun _ _ h => h)
theorem Lns.kept {D : Nat → Prop} {w w' : World} {v : Value} {l : List Ln} (h : Lns w v l) (hk : Keeps D w w') (hn : ∀ k, v.ownBlock = some k → ¬ D k) : Lns w' v l := own_kept h hk hn
theorem Lns.snoc {w : World} {p : Option Addr} {c : Nat} {l : List Ln} {s : Ln} (h : w.ownsRow 0 9 1 (.slice p (l.length + 1) c) (l.length + 1) (lnCells l ++ [.string ⟨s.toArray⟩])) : Lns w (.slice p (l.length + 1) c) (l ++ [s]) := by
 unfold Lns
 rw [lnCells_append, List.length_append]
 exact h
theorem ln_new (w : World) (s : ByteArray) (t : TypeId) : ∀ ad, some (⟨w.heap.size, 0, none⟩ : Addr) = some ad → ∀ j u, [Value.string s][j]? = some u → (w.alloc (.cells #[.string s] t)).cell? (ad.add j) = some u := by
 intro ad had j u hj
 cases had
 match j, hj with
 | 0, hj => simp at hj; subst hj; simp [Addr.add]
theorem str_one (s : ByteArray) : ∀ u ∈ [Value.string s], u.oneCell' = true := fun u hu => by simp at hu; rw [hu]; rfl
def LnAt (w : World) (g : Nat) (v : Value) (l : List Ln) : Prop :=
 ∃ a cap off, v = .slice a l.length cap ∧ l.length ≤ cap ∧ cap ≤ maxLen ∧ (l ≠ [] → a = some ⟨g, off, none⟩ ∧ ∀ j s, l[j]? = some s → w.cell? ⟨g, off + j, none⟩ = some (.string ⟨s.toArray⟩))
theorem LnAt.kept {D : Nat → Prop} {w w' : World} {g : Nat} {v : Value} {l : List Ln} (h : LnAt w g v l) (hk : Keeps D w w') (hg : ¬ D g) : LnAt w' g v l := by
 obtain ⟨a, cap, off, h1, h2, h3, h4⟩ := h
 exact ⟨a, cap, off, h1, h2, h3, fun hne => ⟨(h4 hne).1, fun j s hj => hk.cell_some ((h4 hne).2 j s hj) hg⟩⟩
theorem LnAt.fresh {w w' : World} {g : Nat} {v : Value} {l : List Ln} (h : LnAt w g v l) (hk : Fresh w w') : LnAt w' g v l := h.kept hk (fun h => h)
theorem LnAt.nil (w : World) (g : Nat) : LnAt w g (.slice none 0 0) [] := ⟨none, 0, 0, rfl, Nat.le_refl _, Nat.zero_le _, fun h => absurd rfl h⟩
theorem Lns.at {w : World} {v : Value} {l : List Ln} (h : Lns w v l) : LnAt w ((v.ownBlock).getD 0) v l := by
 rcases h.2 with ⟨rfl, h0⟩ | ⟨g, cap, cur, rfl, hb, hg, hc, hm, _⟩
 ·have : l = [] := List.eq_nil_of_length_eq_zero h0
  subst this
  exact LnAt.nil _ _
 ·refine ⟨some ⟨g, 0, none⟩, cap, 0, rfl, hc, hm, fun hne => ⟨rfl, fun j s hj => ?_⟩⟩
  have := World.ownsRow.cells (v := .slice (some ⟨g, 0, none⟩) l.length cap) h (g := g) rfl j _ (lnCells_get l j s hj)
  rw [Addr.add_lit] at this
  exact this
theorem LnAt.line {w : World} {g : Nat} {v : Value} {l : List Ln} (h : LnAt w g v l) {j : Nat} {s : Ln} (hj : l[j]? = some s) :
 ∃ cap off, v = .slice (some ⟨g, off, none⟩) l.length cap ∧ l.length ≤ cap ∧ cap ≤ maxLen ∧ w.cell? ⟨g, off + j, none⟩ = some (.string ⟨s.toArray⟩) := by
 obtain ⟨a, cap, off, rfl, h2, h3, h4⟩ := h
 have hne : l ≠ [] := fun e => by rw [e] at hj; simp at hj
 obtain ⟨rfl, hc⟩ := h4 hne
 exact ⟨cap, off, rfl, h2, h3, hc j s hj⟩
theorem LnAt.form {w : World} {g : Nat} {v : Value} {l : List Ln} (h : LnAt w g v l) : ∃ a cap, v = .slice a l.length cap := by
 obtain ⟨a, cap, off, rfl, _⟩ := h
 exact ⟨a, cap, rfl⟩
theorem LnAt.cutv {w : World} {g off n cap : Nat} {l : List Ln} (h : LnAt w g (.slice (some ⟨g, off, none⟩) n cap) l) (k : Nat) (hk : k ≤ l.length) {m : Nat} (hm : m = n - k) : LnAt w g (.slice (if cap = k then some ⟨g, off, none⟩ else some ⟨g, off + k, none⟩) m (cap - k)) (l.drop k) := by
 obtain ⟨a, cap', off', he, h2, h3, h4⟩ := h
 cases he
 subst hm
 refine ⟨_, _, off + k, by rw [List.length_drop], by rw [List.length_drop]; omega, by omega, fun hne => ?_⟩
 have hlt : k < l.length := by
  rcases Nat.lt_or_ge k l.length with h' | h'
  ·exact h'
  ·exact absurd (List.drop_eq_nil_of_le h') hne
 have hne' : l ≠ [] := fun e => by rw [e] at hlt; simp at hlt
 obtain ⟨ha, hc⟩ := h4 hne'
 cases ha
 refine ⟨by rw [if_neg (by omega)], fun j s hj => ?_⟩
 rw [List.getElem?_drop] at hj
 have := hc (k + j) s hj
 rw [show off + k + j = off + (k + j) by omega]
 exact this
def slen : Value → Nat
 | .slice _ n _ => n
 | _ => 0
end Go.Proofs.YtbioecifiogffaaGreatDoor
namespace Go.Proofs.YtbioecifiogffaaGreatDoor
open Go.RowKit
theorem Tryz.infoRE : (Tryz.prog.info? 104).map (fun i => (i.zero, i.size, i.bytes)) = some (some (.agg #[.int .i64 0, .bool false, .int .i64 0, .string ⟨#[]⟩]), 4, 40) := by kernel_rfl
def NoText (l : List Ev) : Prop := ∀ l' e, l = l' ++ [e] → e.kind ≠ 8
theorem NoText.nil : NoText [] := fun l' e h => by simp at h
theorem NoText.snoc (l : List Ev) {e : Ev} (h : e.kind ≠ 8) : NoText (l ++ [e]) := fun l' e' h' => by
 have h2 := List.append_inj' h' rfl
 simp at h2
 rw [← h2.2]; exact h
theorem add_any (v : Value) (L : List Ev) (p : List UInt8) (s : ByteArray) (w : World) (h : Evs w 104 v (L ++ flushE p)) (hL : NoText L) (hs : s.data.toList ≠ []) (hlen : L.length ≤ 1073741824) (hsz : p.length + s.size ≤ 1099511627776) :
 Calls Tryz.prog 69 #[v, .string s] w fun e w' => ∃ v', e = .returned v' ∧ Evs w' 104 v' (L ++ flushE (p ++ s.data.toList)) ∧ Grow w v v' ∧ Keeps (fun k => v.ownBlock = some k) w w' := by
 have hi0 := Tryz.infoRE
 have hps : flushE (p ++ s.data.toList) = [⟨8, false, 0, p ++ s.data.toList⟩] := flushE_some (fun h => hs (List.append_eq_nil_iff.1 h).2)
 rw [hps]
 by_cases hp : p = []
 ·subst hp
  rw [flushE_nil, List.append_nil] at h
  obtain ⟨q, c, rfl, hc, hq, hg⟩ := own_form h
  have hnew := ev_new w ⟨8, false, 0, s.data.toList⟩ 104
  have hrow := h.fresh ((Keeps.refl _ w).alloc (.cells #[.int .i64 8, .bool false, .int .i64 0, .string s] 104))
  have happ : ∀ (p : Option Addr) (c' : Nat) (w' : World), w'.ownsRow 0 104 4 (.slice p (L.length + 1) c') (L.length + 1) (evCells L ++ (⟨8, false, 0, s.data.toList⟩ : Ev).cells) → Evs w' 104 (.slice p (L.length + 1) c') (L ++ [⟨8, false, 0, [] ++ s.data.toList⟩]) := fun p c' w' h => Evs.snoc h
  have HAPP := Lib.hid happ
  have HNEW := Lib.hid hnew
  have HROW := Lib.hid hrow
  clear happ hnew hrow hps
  rcases List.eq_nil_or_concat L with rfl | ⟨M, x, hx⟩
  ·clear h hg hq
   have HI := Lib.hid hi0
   clear hi0
   go_enter Tryz.func69, Tryz.ntmps69
   go_wp2_with (at_builtin; refine wpList_append_mine _ rfl _ _ 57 rfl 104 _ 4 40 Tryz.underlying57 HI.out rfl (by decide) _ _ _ rfl HROW.out (some ⟨w.heap.size, 0, none⟩) 1 1 (⟨8, false, 0, s.data.toList⟩ : Ev).cells rfl rfl (fun h => (by cases h)) HNEW.out (ev_one _) (by unfold maxLen; simp only [List.length_nil]; omega) (by simp only [List.length_nil]; omega) ?_)
   intro p' c' w2 hr hgr hk
   have hfin := HAPP.out p' c' w2 hr
   have hgr' : Grow w (.slice q ([] : List Ev).length c) (.slice p' (([] : List Ev).length + 1) c') := fun k hk => (hgr k hk).imp id (fun h => by simp at h; omega)
   have hk' : Keeps (fun k => (Value.slice q ([] : List Ev).length c).ownBlock = some k) w w2 := ((Keeps.refl _ w).alloc _).tr hk
   clear hr hgr hk
   go_wp2
   go_ret
   exact ⟨_, rfl, hfin, hgr', hk'⟩
  ·rw [List.concat_eq_append] at hx
   subst hx
   have hxk := hL M x rfl
   obtain ⟨g, rfl, -, hgl, x0, -, -, -⟩ := h.at (j := M.length) (x := x) (by simp)
   have ek : ((x.kind : Int) == 8) = false := by rw [beq_eq_false_iff_ne]; exact hxk
   have hn : (M ++ [x]).length = M.length + 1 := by simp
   rw [hn] at hlen ⊢
   have hrow2 : (w.alloc (.cells #[.int .i64 8, .bool false, .int .i64 0, .string s] 104)).ownsRow 0 104 4 (.slice (some ⟨g, 0, none⟩) (M.length + 1) c) (M.length + 1) (evCells (M ++ [x])) := by rw [← hn]; exact HROW.out
   have HROW2 := Lib.hid hrow2
   clear hrow2 HROW
   have HN := Lib.hid hn
   clear h hg hq hn hL
   have HI := Lib.hid hi0
   clear hi0
   go_enter Tryz.func69, Tryz.ntmps69
   go_wp2_with (at_builtin; refine wpList_append_mine _ rfl _ _ 57 rfl 104 _ 4 40 Tryz.underlying57 HI.out rfl (by decide) _ _ _ rfl HROW2.out (some ⟨w.heap.size, 0, none⟩) 1 1 (⟨8, false, 0, s.data.toList⟩ : Ev).cells rfl rfl (fun h => (by cases h)) HNEW.out (ev_one _) (by unfold maxLen; omega) (by omega) ?_)
   intro p' c' w2 hr hgr hk
   have hfin : Evs w2 104 (.slice p' (M.length + 1 + 1) c') (M ++ [x] ++ [⟨8, false, 0, [] ++ s.data.toList⟩]) := by
    have h1 := HAPP.out p' c' w2 (by rw [HN.out]; exact hr)
    rw [HN.out] at h1
    exact h1
   have hgr' : Grow w (.slice (some ⟨g, 0, none⟩) (M.length + 1) c) (.slice p' (M.length + 1 + 1) c') := fun k hk => (hgr k hk).imp id (fun h => by simp at h; omega)
   have hk' : Keeps (fun k => (Value.slice (some ⟨g, 0, none⟩) (M.length + 1) c).ownBlock = some k) w w2 := ((Keeps.refl _ w).alloc _).tr hk
   clear hr hgr hk
   go_wp2
   go_ret
   exact ⟨_, rfl, hfin, hgr', hk'⟩
 ·rw [flushE_some hp] at h
  obtain ⟨q, c, rfl, hc, hq, hg⟩ := own_form h
  obtain ⟨g, rfl, -, hgl, x0, -, -, x3⟩ := h.at (j := L.length) (x := ⟨8, false, 0, p⟩) (by simp)
  have hf3 : w.frozen? ⟨g, L.length * 4 + 3, none⟩ = false := World.ownsRow.frozenAt h _
  have hst := h.lastText (p ++ s.data.toList)
  have hn : (L ++ [(⟨8, false, 0, p⟩ : Ev)]).length = L.length + 1 := by simp
  rw [hn] at hst ⊢
  have hcat : (⟨p.toArray⟩ : ByteArray) ++ s = ⟨(p ++ s.data.toList).toArray⟩ := by
   rw [← ba_append]
  have HST := Lib.hid hst
  clear h hg hq hn hL hst hc hs hps hp
  go_enter Tryz.func69, Tryz.ntmps69
  go_wp2
  go_ret
  refine ⟨_, rfl, HST.out, Grow.refl _ _, Keeps.setCell (D := fun k => (Value.slice (some ⟨g, 0, none⟩) (L.length + 1) c).ownBlock = some k) (Keeps.refl _ w) (p := ⟨g, L.length * 4 + 3, none⟩) (fun _ => rfl) _⟩
end Go.Proofs.YtbioecifiogffaaGreatDoor
namespace Go.Proofs.YtbioecifiogffaaGreatDoor
open Go.RowKit
theorem Fresh.grow {D : Nat → Prop} {a b c : World} (h : Fresh a b) (k : Keeps D b c) (hD : ∀ j, D j → a.heap.size ≤ j) : Fresh a c :=
 h.trans k (fun j hj hd => by have := hD j hd; omega)
theorem ext_list (s : ByteArray) (a b : Nat) : (s.extract a b).data.toList = (s.data.toList.drop a).take (b - a) := by
 rw [ByteArray.data_extract, Array.toList_extract, List.extract_eq_take_drop]
def oneM (n : Nat) (ins : Bool) (b : UInt8) (t : List UInt8) : List Ev × Nat :=
 match tokAt ins b t with
 | (.ch _, 0) => ([], 0)
 | (.ch c, k + 1) => ([⟨8, false, 0, [c]⟩], k + 2)
 | (.one e, k) => ([e], k + 1)
 | (.sub e s i, k) => (e :: (inlF n i s [] ++ [endE e]), k + 1)
def InlOK (n : Nat) : Prop := ∀ (s : ByteArray) (ins : Bool) (w : World), s.size ≤ 16777216 → s.size < n →
 Calls Tryz.prog 39 #[.string s, .bool ins] w fun e w' => ∃ v, e = .returned v ∧ Evs w' 104 v (inlF n ins s.data.toList []) ∧ (∀ k, v.ownBlock = some k → w.heap.size ≤ k) ∧ Fresh w w'
theorem Evs.lit1 (w : World) (t : TypeId) (e : Ev) : Evs (w.alloc (.cells #[.int .i64 e.kind, .bool e.fin, .int .i64 e.level, .string ⟨e.text.toArray⟩] t)) t (.slice (some ⟨w.heap.size, 0, none⟩) 1 1) [e] :=
 Evs.lit w t [e] (by simp [maxLen])
theorem sub_close {w w3 w5 w7 : World} {v5 v7 : Value} {o1 o2 : Obj} (hF : Fresh w w3)
 (hgr : Grow (w3.alloc o1) (.slice (some ⟨w3.heap.size, 0, none⟩) 1 1) v5) (hk5 : Keeps (fun k => (Value.slice (some ⟨w3.heap.size, 0, none⟩) 1 1).ownBlock = some k) (w3.alloc o1) w5)
 (hgr2 : Grow (w5.alloc o2) v5 v7) (hk7 : Keeps (fun k => v5.ownBlock = some k) (w5.alloc o2) w7) : (∀ k, v7.ownBlock = some k → w.heap.size ≤ k) ∧ Fresh w w7 := by
 have s1 := hF.size
 have h5 : ∀ k, v5.ownBlock = some k → w.heap.size ≤ k := fun k hk => by
  rcases hgr k hk with h | h
  ·simp [Value.ownBlock] at h; omega
  ·simp at h; omega
 have F5 : Fresh w w5 := Fresh.grow (hF.alloc o1) hk5 (fun j hj => by simp [Value.ownBlock] at hj; omega)
 have s5 := F5.size
 exact ⟨fun k hk => by
   rcases hgr2 k hk with h | h
   ·exact h5 k h
   ·simp at h; omega, Fresh.grow (F5.alloc o2) hk7 h5⟩
theorem sub_evs {w : World} {t : TypeId} {p : Option Addr} {c : Nat} {e f : Ev} {M : List Ev} (h : w.ownsRow 0 t 4 (.slice p (1 + M.length + 1) c) (1 + M.length + 1) (evCells [e] ++ evCells M ++ f.cells)) : Evs w t (.slice p (1 + M.length + 1) c) (e :: (M ++ [f])) := by
 unfold Evs
 have e1 : evCells (e :: (M ++ [f])) = evCells [e] ++ evCells M ++ f.cells := by
  rw [show e :: (M ++ [f]) = [e] ++ M ++ [f] by simp, evCells_append, evCells_append, evCells_one f]
 have e2 : (e :: (M ++ [f])).length = 1 + M.length + 1 := by simp; omega
 rw [e1, e2]
 exact h
theorem one_any (n : Nat) (IH : InlOK n) (s : ByteArray) (i : Nat) (ins : Bool) (b : UInt8) (t : List UInt8) (w : World) (hd : s.data.toList.drop i = b :: t) (hs : s.size ≤ 16777216) (hn : t.length < n) :
 Calls Tryz.prog 68 #[.string s, .int .i64 i, .bool ins] w fun e w' =>
  ∃ v, e = .returned (.tuple #[v, .int .i64 ((oneM n ins b t).2 : Nat)]) ∧ Evs w' 104 v (oneM n ins b t).1 ∧ (∀ k, v.ownBlock = some k → w.heap.size ≤ k) ∧ Fresh w w' := by
 obtain ⟨hi, hb, ht⟩ := drop_cons hd
 have htl : t.length = s.size - (i + 1) := by rw [← ht]; simp
 have q : ∀ x : UInt8, (((s[i]'hi).toNat : Int) == (x.toNat : Int)) = decide (b = x) := fun x => by rw [u8_beq, hb]
 have q92 : (((s[i]'hi).toNat : Int) == 92) = decide (b = 92) := q 92
 have q10 : (((s[i]'hi).toNat : Int) == 10) = decide (b = 10) := q 10
 have q96 : (((s[i]'hi).toNat : Int) == 96) = decide (b = 96) := q 96
 have q91 : (((s[i]'hi).toNat : Int) == 91) = decide (b = 91) := q 91
 have q42 : (((s[i]'hi).toNat : Int) == 42) = decide (b = 42) := q 42
 have hnil := fun W : World => Evs.nil W 104
 have hl1 := fun (W : World) (e : Ev) => Evs.lit1 W 104 e
 have hext : ∀ k, (s.extract (i + 1) (i + 1 + k)).data.toList = t.take k := fun k => by rw [ext_list, ht, Nat.add_sub_cancel_left]
 have hext2 : ∀ k m, s.extract (i + 1 + k + 2) (i + 1 + k + 2 + m) = ⟨((t.drop (k + 2)).take m).toArray⟩ := fun k m => by
  apply ByteArray.ext
  apply Array.ext'
  rw [ext_list, Nat.add_sub_cancel_left, ← ht, List.drop_drop]
  simp [Nat.add_assoc]
 have EXT := Lib.hid hext
 have EXT2 := Lib.hid hext2
 clear hext hext2
 have NIL := Lib.hid hnil
 have LIT := Lib.hid hl1
 clear q hnil hl1
 by_cases c92 : b = 92
 ·subst c92
  have z92 : (((s[i]'hi).toNat : Int) == 92) = true := q92
  have z10 : (((s[i]'hi).toNat : Int) == 10) = false := q10
  have z96 : (((s[i]'hi).toNat : Int) == 96) = false := q96
  have z91 : (((s[i]'hi).toNat : Int) == 91) = false := q91
  have z42 : (((s[i]'hi).toNat : Int) == 42) = false := q42
  clear q92 q10 q96 q91 q42 IH hd hb
  by_cases h1 : i + 1 < s.size
  ·rw [drop_lt h1] at ht
   obtain ⟨c, hc⟩ : ∃ c, s[i + 1]'h1 = c := ⟨_, rfl⟩
   have e10 : (((s[i + 1]'h1).toNat : Int) == 10) = decide (s[i + 1]'h1 = 10) := u8_beq _ 10
   have hsg := fun W : World => sign_any (s[i + 1]'h1) W
   rw [hc] at ht
   have hct : ∃ r, t = c :: r := ⟨_, ht.symm⟩
   obtain ⟨r, rfl⟩ := hct
   clear ht htl
   by_cases k10 : c = 10
   ·subst k10
    have hM : oneM n ins 92 (10 :: r) = ([⟨11, false, 0, []⟩], 2) := by simp [oneM, tokAt, sgn]
    rw [hM]
    have e11 : (((s[i + 1]'h1).toNat : Int) == 10) = true := by rw [e10, hc]; rfl
    clear hM e10 hsg hc
    go_enter Tryz.func68, Tryz.ntmps68
    go_wp2
    refine bodyPost_ret (v := .tuple #[.slice (some ⟨w.heap.size, 0, none⟩) 1 1, .int .i64 2]) (by simp [results, Tryz.results68, go_sem]) rfl ?_
    exact ⟨_, rfl, LIT.out _ ⟨11, false, 0, []⟩, fun k hk => by cases hk; exact Nat.le_refl _, (Keeps.refl _ w).alloc _⟩
   ·have e11 : (((s[i + 1]'h1).toNat : Int) == 10) = false := by rw [e10, hc]; exact decide_eq_false k10
    clear e10
    rw [hc] at hsg
    have hcc : (s.extract (i + 1) (i + 2)) = ⟨#[c]⟩ := by
     apply ByteArray.ext
     apply Array.ext'
     rw [ext_list, drop_lt h1, hc]
     simp
    have HC := Lib.hid hc
    cases hg : sgn c with
    | false =>
     have hM : oneM n ins 92 (c :: r) = ([], 0) := by simp [oneM, tokAt, hg, k10]
     rw [hM]
     rw [hg] at hsg
     have HSG := Lib.hid hsg
     clear hM k10 hg hsg hc
     go_enter Tryz.func68, Tryz.ntmps68
     go_wp2_with (go_at_call 94; rw [HC.out]; refine (HSG.out _).mono ?_)
     rintro e w2 ⟨rfl, hk2⟩
     go_wp2
     refine bodyPost_ret (v := .tuple #[.slice none 0 0, .int .i64 0]) (by simp [results, Tryz.results68, go_sem]) rfl ?_
     exact ⟨_, rfl, NIL.out _, (fun k hk => by cases hk), hk2⟩
    | true =>
     have hM : oneM n ins 92 (c :: r) = ([⟨8, false, 0, [c]⟩], 2) := by simp [oneM, tokAt, hg]
     rw [hM]
     rw [hg] at hsg
     have HSG := Lib.hid hsg
     clear hM k10 hg hsg hc
     go_enter Tryz.func68, Tryz.ntmps68
     go_wp2_with (go_at_call 94; rw [HC.out]; refine (HSG.out _).mono ?_)
     rintro e w2 ⟨rfl, hk2⟩
     go_wp2
     refine bodyPost_ret (v := .tuple #[.slice (some ⟨w2.heap.size, 0, none⟩) 1 1, .int .i64 2]) (by simp [results, Tryz.results68, go_sem]) rfl ?_
     exact ⟨_, rfl, LIT.out _ ⟨8, false, 0, [c]⟩, (fun k hk => by cases hk; exact hk2.size), hk2.alloc _⟩
  ·have htn : t = [] := by rw [← ht]; exact drop_ge (by omega)
   subst htn
   have hM : oneM n ins 92 [] = ([], 0) := by simp [oneM, tokAt]
   rw [hM]
   clear hM ht htl
   go_enter Tryz.func68, Tryz.ntmps68
   go_wp2
   refine bodyPost_ret (v := .tuple #[.slice none 0 0, .int .i64 0]) (by simp [results, Tryz.results68, go_sem]) rfl ?_
   exact ⟨_, rfl, NIL.out _, (fun k hk => by cases hk), Keeps.refl _ _⟩
 have z92 : (((s[i]'hi).toNat : Int) == 92) = false := q92.trans (decide_eq_false c92)
 clear q92
 by_cases c10 : b = 10
 ·subst c10
  have z10 : (((s[i]'hi).toNat : Int) == 10) = true := q10
  have hM : oneM n ins 10 t = ([⟨10, false, 0, []⟩], 1) := by simp [oneM, tokAt]
  rw [hM]
  clear q10 q96 q91 q42 IH hd hb hM ht htl
  go_enter Tryz.func68, Tryz.ntmps68
  go_wp2
  refine bodyPost_ret (v := .tuple #[.slice (some ⟨w.heap.size, 0, none⟩) 1 1, .int .i64 1]) (by simp [results, Tryz.results68, go_sem]) rfl ?_
  exact ⟨_, rfl, LIT.out _ ⟨10, false, 0, []⟩, fun k hk => by cases hk; exact Nat.le_refl _, (Keeps.refl _ w).alloc _⟩
 have z10 : (((s[i]'hi).toNat : Int) == 10) = false := q10.trans (decide_eq_false c10)
 clear q10
 by_cases c96 : b = 96
 ·subst c96
  have z96 : (((s[i]'hi).toNat : Int) == 96) = true := q96
  have hfind := fun W : World => find_any s 96 (i + 1) W (by omega) (by omega)
  rw [ht] at hfind
  clear q96 q91 q42 IH hd hb ht
  cases hf : fnd 96 t with
  | none =>
   have hM : oneM n ins 96 t = ([], 0) := by simp [oneM, tokAt, hf]
   rw [hM]
   rw [hf] at hfind
   have hpl : plc (i + 1) none = -1 := rfl
   rw [hpl] at hfind
   have HF := Lib.hid hfind
   clear hM hf hfind hpl
   go_enter Tryz.func68, Tryz.ntmps68
   go_wp2_with (go_at_call 95; refine (HF.out _).mono ?_)
   rintro e w2 ⟨rfl, hk2⟩
   go_wp2
   refine bodyPost_ret (v := .tuple #[.slice none 0 0, .int .i64 0]) (by simp [results, Tryz.results68, go_sem]) rfl ?_
   exact ⟨_, rfl, NIL.out _, (fun k hk => by cases hk), hk2⟩
  | some k =>
   have hkl := fnd_lt hf
   have hM : oneM n ins 96 t = ([⟨9, false, 0, spc (t.take k)⟩], k + 2) := by simp [oneM, tokAt, hf]
   rw [hM]
   rw [hf] at hfind
   have hpl : plc (i + 1) (some k) = (i + 1 + k : Nat) := rfl
   rw [hpl] at hfind
   have HF := Lib.hid hfind
   have hsp : ∀ W : World, Calls Tryz.prog 96 #[.string (s.extract (i + 1) (i + 1 + k))] W fun e w' => e = .returned (.string ⟨(spc (t.take k)).toArray⟩) ∧ Fresh W w' := fun W => by
    have h := spaced_any (s.extract (i + 1) (i + 1 + k)) W (by simp; omega)
    have e1 : (s.extract (i + 1) (i + 1 + k)).data.toList = t.take k := by
     exact EXT.out k
    rw [e1] at h
    exact h
   have HSP := Lib.hid hsp
   clear hM hf hfind hpl hsp
   go_enter Tryz.func68, Tryz.ntmps68
   go_wp2_with (go_at_call 95; refine (HF.out _).mono ?_)
   rintro e w2 ⟨rfl, hk2⟩
   go_wp2_with (go_at_call 96; refine (HSP.out _).mono ?_)
   rintro e w3 ⟨rfl, hk3⟩
   go_wp2
   refine bodyPost_ret (v := .tuple #[.slice (some ⟨w3.heap.size, 0, none⟩) 1 1, .int .i64 (k + 2 : Nat)]) (by simp [results, Tryz.results68, go_sem]; omega) rfl ?_
   exact ⟨_, rfl, LIT.out _ ⟨9, false, 0, spc (t.take k)⟩, (fun k hk => by cases hk; exact Nat.le_trans hk2.size hk3.size), (hk2.tr hk3).alloc _⟩
 have z96 : (((s[i]'hi).toNat : Int) == 96) = false := q96.trans (decide_eq_false c96)
 clear q96
 by_cases c91 : b = 91
 ·subst c91
  have z91 : (((s[i]'hi).toNat : Int) == 91) = true := q91
  have hlk := fun W : World => link_any s i t W hd (by omega)
  clear q91 q42 hd hb ht
  cases hl : lnk t with
  | none =>
   have hM : oneM n ins 91 t = ([], 0) := by simp [oneM, tokAt, hl]
   rw [hM]
   rw [hl] at hlk
   have HL := Lib.hid hlk
   clear hM hl hlk IH
   go_enter Tryz.func68, Tryz.ntmps68
   go_wp2_with (go_at_call 97; refine (HL.out _).mono ?_)
   rintro e w2 ⟨rfl, hk2⟩
   unfold lres
   go_wp2
   refine bodyPost_ret (v := .tuple #[.slice none 0 0, .int .i64 0]) (by simp [results, Tryz.results68, go_sem]) rfl ?_
   exact ⟨_, rfl, NIL.out _, (fun k hk => by cases hk), hk2⟩
  | some km =>
   obtain ⟨k, m⟩ := km
   have hkl := lnk_lt hl
   have hM : oneM n ins 91 t = (⟨7, false, 0, (t.drop (k + 2)).take m⟩ :: (inlF n ins (t.take k) [] ++ [endE ⟨7, false, 0, (t.drop (k + 2)).take m⟩]), k + m + 4) := by simp [oneM, tokAt, hl]
   rw [hM]
   rw [hl] at hlk
   have HL := Lib.hid hlk
   have hin := fun W : World => IH (s.extract (i + 1) (i + 1 + k)) ins W (by simp; omega) (by simp; omega)
   rw [EXT.out k] at hin
   have hcount := inlF_length n ins (t.take k) []
   rw [flushE_nil, List.length_nil, List.length_take] at hcount
   have hm1 : min k t.length ≤ 16777216 := by omega
   generalize inlF n ins (t.take k) [] = M at *
   have hML : M.length ≤ 33554432 := by omega
   have HIN := Lib.hid hin
   have hx2 := EXT2.out k m
   generalize (t.drop (k + 2)).take m = T at *
   clear hM hl hlk IH hin hcount hm1
   go_enter Tryz.func68, Tryz.ntmps68
   go_wp2_with (go_at_call 97; refine (HL.out _).mono ?_)
   rintro e w2 ⟨rfl, hk2⟩
   unfold lres
   go_wp2_with (go_at_call 39; refine (HIN.out _).mono ?_)
   rintro e w3 ⟨vin, rfl, hev, hown, hk3⟩
   obtain ⟨p, c, rfl, hc, hpn, -⟩ := own_form hev
   have hcells := own_cells hev rfl
   have hnews : ∀ X : World, Fresh w3 X → ∀ ad, p = some ad → ∀ j u, (evCells M)[j]? = some u → X.cell? (ad.add j) = some u := fun X hX ad had j u hu => hX.cell_some (hcells ad had j u hu) (fun h => h)
   have hF3 : Fresh w w3 := hk2.tr hk3
   have HC := Lib.hid hnews
   have HF3 := Lib.hid hF3
   have HI := Lib.hid Tryz.infoRE
   clear hcells hnews hev hown hF3 hk2 hk3 hc
   go_wp2_with (at_builtin; refine wpList_append_mine _ rfl _ _ 57 rfl 104 _ 4 40 Tryz.underlying57 HI.out rfl (by decide) _ _ _ rfl (LIT.out w3 ⟨7, false, 0, T⟩) p M.length c (evCells M) rfl (evCells_length M) hpn (HC.out _ ((Keeps.refl _ _).alloc _)) (evCells_one' M) (by unfold maxLen; simp only [List.length_cons, List.length_nil]; omega) (by simp only [List.length_cons, List.length_nil]; omega) ?_)
   intro p5 c5 w5 hr5 hg5 hk5
   have hr5' : ∀ X : World, Fresh w5 X → X.ownsRow 0 104 4 (.slice p5 (1 + M.length) c5) (1 + M.length) (evCells [⟨7, false, 0, T⟩] ++ evCells M) := fun X hX => own_kept hr5 hX (fun _ _ h => h)
   have HR5 := Lib.hid hr5'
   have HG5 := Lib.hid hg5
   have HK5 := Lib.hid hk5
   have hnew := ev_new w5 (endE ⟨7, false, 0, T⟩) 104
   have HNEW := Lib.hid hnew
   clear hr5 hg5 hk5 hr5' hnew
   go_wp2_with (at_builtin; refine wpList_append_mine _ rfl _ _ 57 rfl 104 _ 4 40 Tryz.underlying57 HI.out rfl (by decide) _ _ _ rfl (HR5.out _ ((Keeps.refl _ _).alloc _)) (some ⟨w5.heap.size, 0, none⟩) 1 1 (endE ⟨7, false, 0, T⟩).cells rfl rfl (fun h => (by cases h)) HNEW.out (ev_one _) (by unfold maxLen; omega) (by omega) ?_)
   intro p7 c7 w7 hr7 hg7 hk7
   have hcl := sub_close HF3.out HG5.out HK5.out hg7 hk7
   have HCL := Lib.hid hcl
   have HEV := Lib.hid (sub_evs hr7)
   clear hr7 hg7 hk7 hcl
   go_wp2
   refine bodyPost_ret (v := .tuple #[.slice p7 (1 + M.length + 1) c7, .int .i64 (k + m + 4 : Nat)]) (by simp [results, Tryz.results68, go_sem]; omega) rfl ?_
   exact ⟨_, rfl, HEV.out, HCL.out.1, HCL.out.2⟩
 have z91 : (((s[i]'hi).toNat : Int) == 91) = false := q91.trans (decide_eq_false c91)
 clear q91
 by_cases c42 : b = 42
 ·subst c42
  have z42 : (((s[i]'hi).toNat : Int) == 42) = true := q42
  have hpa := fun W : World => partner_any s i t W hd (by omega)
  clear q42 hd hb ht
  cases ins with
  | true =>
   have hM : oneM n true 42 t = ([], 0) := by simp [oneM, tokAt]
   rw [hM]
   clear hM hpa IH
   go_enter Tryz.func68, Tryz.ntmps68
   go_wp2
   refine bodyPost_ret (v := .tuple #[.slice none 0 0, .int .i64 0]) (by simp [results, Tryz.results68, go_sem]) rfl ?_
   exact ⟨_, rfl, NIL.out _, (fun k hk => by cases hk), Keeps.refl _ _⟩
  | false =>
  cases hl : str t with
  | none =>
   have hM : oneM n false 42 t = ([], 0) := by simp [oneM, tokAt, hl]
   rw [hM]
   rw [hl] at hpa
   have hpl : plc (i + 1) none = -1 := rfl
   rw [hpl] at hpa
   have HL := Lib.hid hpa
   clear hM hl hpa IH hpl
   go_enter Tryz.func68, Tryz.ntmps68
   go_wp2_with (go_at_call 98; refine (HL.out _).mono ?_)
   rintro e w2 ⟨rfl, hk2⟩
   go_wp2
   refine bodyPost_ret (v := .tuple #[.slice none 0 0, .int .i64 0]) (by simp [results, Tryz.results68, go_sem]) rfl ?_
   exact ⟨_, rfl, NIL.out _, (fun k hk => by cases hk), hk2⟩
  | some k =>
   have hkl := str_lt hl
   have hM : oneM n false 42 t = (⟨6, false, 0, []⟩ :: (inlF n true (t.take k) [] ++ [endE ⟨6, false, 0, []⟩]), k + 2) := by simp [oneM, tokAt, hl]
   rw [hM]
   rw [hl] at hpa
   have hpl : plc (i + 1) (some k) = (i + 1 + k : Nat) := rfl
   rw [hpl] at hpa
   have HL := Lib.hid hpa
   have hin := fun W : World => IH (s.extract (i + 1) (i + 1 + k)) true W (by simp; omega) (by simp; omega)
   rw [EXT.out k] at hin
   have hcount := inlF_length n true (t.take k) []
   rw [flushE_nil, List.length_nil, List.length_take] at hcount
   have hm1 : min k t.length ≤ 16777216 := by omega
   generalize inlF n true (t.take k) [] = M at *
   have hML : M.length ≤ 33554432 := by omega
   have HIN := Lib.hid hin
   clear hM hl hpa IH hin hcount hm1 hpl
   go_enter Tryz.func68, Tryz.ntmps68
   go_wp2_with (go_at_call 98; refine (HL.out _).mono ?_)
   rintro e w2 ⟨rfl, hk2⟩
   go_wp2_with (go_at_call 39; refine (HIN.out _).mono ?_)
   rintro e w3 ⟨vin, rfl, hev, hown, hk3⟩
   obtain ⟨p, c, rfl, hc, hpn, -⟩ := own_form hev
   have hcells := own_cells hev rfl
   have hnews : ∀ X : World, Fresh w3 X → ∀ ad, p = some ad → ∀ j u, (evCells M)[j]? = some u → X.cell? (ad.add j) = some u := fun X hX ad had j u hu => hX.cell_some (hcells ad had j u hu) (fun h => h)
   have hF3 : Fresh w w3 := hk2.tr hk3
   have HC := Lib.hid hnews
   have HF3 := Lib.hid hF3
   have HI := Lib.hid Tryz.infoRE
   clear hcells hnews hev hown hF3 hk2 hk3 hc
   go_wp2_with (at_builtin; refine wpList_append_mine _ rfl _ _ 57 rfl 104 _ 4 40 Tryz.underlying57 HI.out rfl (by decide) _ _ _ rfl (LIT.out w3 ⟨6, false, 0, []⟩) p M.length c (evCells M) rfl (evCells_length M) hpn (HC.out _ ((Keeps.refl _ _).alloc _)) (evCells_one' M) (by unfold maxLen; simp only [List.length_cons, List.length_nil]; omega) (by simp only [List.length_cons, List.length_nil]; omega) ?_)
   intro p5 c5 w5 hr5 hg5 hk5
   have hr5' : ∀ X : World, Fresh w5 X → X.ownsRow 0 104 4 (.slice p5 (1 + M.length) c5) (1 + M.length) (evCells [⟨6, false, 0, []⟩] ++ evCells M) := fun X hX => own_kept hr5 hX (fun _ _ h => h)
   have HR5 := Lib.hid hr5'
   have HG5 := Lib.hid hg5
   have HK5 := Lib.hid hk5
   have hnew := ev_new w5 (endE ⟨6, false, 0, []⟩) 104
   have HNEW := Lib.hid hnew
   clear hr5 hg5 hk5 hr5' hnew
   go_wp2_with (at_builtin; refine wpList_append_mine _ rfl _ _ 57 rfl 104 _ 4 40 Tryz.underlying57 HI.out rfl (by decide) _ _ _ rfl (HR5.out _ ((Keeps.refl _ _).alloc _)) (some ⟨w5.heap.size, 0, none⟩) 1 1 (endE ⟨6, false, 0, []⟩).cells rfl rfl (fun h => (by cases h)) HNEW.out (ev_one _) (by unfold maxLen; omega) (by omega) ?_)
   intro p7 c7 w7 hr7 hg7 hk7
   have hcl := sub_close HF3.out HG5.out HK5.out hg7 hk7
   have HCL := Lib.hid hcl
   have HEV := Lib.hid (sub_evs hr7)
   clear hr7 hg7 hk7 hcl
   go_wp2
   refine bodyPost_ret (v := .tuple #[.slice p7 (1 + M.length + 1) c7, .int .i64 (k + 2 : Nat)]) (by simp [results, Tryz.results68, go_sem]; omega) rfl ?_
   exact ⟨_, rfl, HEV.out, HCL.out.1, HCL.out.2⟩
 have z42 : (((s[i]'hi).toNat : Int) == 42) = false := q42.trans (decide_eq_false c42)
 have hM : oneM n ins b t = ([], 0) := by simp [oneM, tokAt, c92, c10, c96, c91, c42]
 rw [hM]
 clear hM q42 IH hd hb ht
 go_enter Tryz.func68, Tryz.ntmps68
 go_wp2
 refine bodyPost_ret (v := .tuple #[.slice none 0 0, .int .i64 0]) (by simp [results, Tryz.results68, go_sem]) rfl ?_
 exact ⟨_, rfl, NIL.out _, (fun k hk => by cases hk), Keeps.refl _ _⟩
end Go.Proofs.YtbioecifiogffaaGreatDoor
namespace Go.Proofs.YtbioecifiogffaaGreatDoor
open Go.RowKit
section
variable {P : Program} (w : World)
theorem zeroCells_one {z : Value} (hz : z.cells = #[z]) (m : Nat) : (Builtin.zeroCells z.cells m).toList = List.replicate m z := by
 rw [hz]
 unfold Builtin.zeroCells
 apply List.ext_getElem
 ·simp
 ·intro j h1 h2
  simp [Nat.mod_one]
theorem wrap_small (m : Nat) (h : m ≤ 1073741824) : IntKind.i64.wrap (m : Int) = (m : Int) := IntWalk.i64_in _ (by omega)
theorem run_append_zeros_room (t u ty e : TypeId) (i : TypeInfo) (z : Value) (ht : P.underlying t = some (.slice e)) (hu : P.underlying u = some (.int .i64)) (hi : P.info? e = some i) (hz : i.zero = some z) (hs1 : i.size = 1) (hb : i.bytes ≤ 100)
 (hzc : z.cells = #[z]) (h1 : z.oneCell' = true) (g sLen sCap : Nat) (cur : Array Value) (hg : w.heap[g]? = some (.cells cur e (0, 0))) (m : Nat) (hm : m ≤ 1073741824)
 (hroom : sLen + m ≤ sCap) (hfit : sLen + m ≤ cur.size) :
 (Builtin.append_ #[t, u] ty #[.slice (some ⟨g, 0, none⟩) sLen sCap, .int .i64 m]).run P w =
  .ok (.slice (some ⟨g, 0, none⟩) (sLen + m) sCap) (w.setRow g (cur.toList.take sLen ++ List.replicate m z ++ cur.toList.drop (sLen + m)).toArray) := by
 have hst := run_storeCells_at P g sLen e (List.replicate m z) 0 cur w hg (by simpa using hfit) (fun u hu => by rw [(List.mem_replicate.1 hu).2]; exact h1)
 simp only [Nat.add_zero, List.length_replicate] at hst
 have hw := wrap_small m hm
 have hneg : ¬ ((m : Int) < 0) := by omega
 have hbig : ¬ (281474976710656 < (m : Int) * (i.bytes : Int)) := by
  have : m * i.bytes ≤ 1073741824 * 100 := Nat.mul_le_mul hm hb
  have h2 : (m : Int) * (i.bytes : Int) = ((m * i.bytes : Nat) : Int) := by simp
  rw [h2]
  omega
 have hzl := zeroCells_one hzc m
 by_cases h0 : m = 0
 ·subst h0
  have hw0 : IntKind.i64.wrap 0 = 0 := hw
  have hst2 : Sem.run P (storeCells ⟨g, sLen, none⟩ []) w = .ok () (w.setRow g (cur.toList.take sLen ++ cur.toList.drop sLen).toArray) := by simpa using hst
  have hroom2 : sLen ≤ sCap := hroom
  simp [Builtin.append_, run_underlying ht, run_underlying hu, sizeOf, typeInfo, hi, hs1, hroom2, asInt, asIntOf, hw0, Addr.add_lit, hst2]
 ·have hpos : 0 < m := by omega
  simp [Builtin.append_, run_underlying ht, run_underlying hu, sizeOf, typeInfo, zeroValue, hi, hz, hs1, hroom, asInt, asIntOf, hw, hneg, hbig, h0, Addr.add_lit, hzl, hst]
theorem run_append_zeros_grow (t u ty e : TypeId) (i : TypeInfo) (z : Value) (ht : P.underlying t = some (.slice e)) (hu : P.underlying u = some (.int .i64)) (hi : P.info? e = some i) (hz : i.zero = some z) (hs1 : i.size = 1) (hb : i.bytes ≤ 100)
 (hzc : z.cells = #[z]) (b : Addr) (sLen sCap : Nat) (olds : List Value) (hlo : olds.length = sLen) (holds : ∀ j v, olds[j]? = some v → w.cell? (b.add j) = some v) (m : Nat) (hm : m ≤ 1073741824)
 (hg : sCap < sLen + m) (h63 : ((sLen + m : Nat) : Int) ≤ 9223372036854775807) (hfit : Builtin.nextslicecap (sLen + m) sCap * i.bytes ≤ 281474976710656) (hc : sLen ≤ sCap) :
 (Builtin.append_ #[t, u] ty #[.slice (some b) sLen sCap, .int .i64 m]).run P w =
  .ok (.slice (some ⟨w.heap.size, 0, none⟩) (sLen + m) (grownCap w (sLen + m) sCap e))
   (w.drew.alloc (.cells (olds.toArray ++ (List.replicate m z).toArray ++ Builtin.zeroCells z.cells (grownCap w (sLen + m) sCap e - (sLen + m))) e)) := by
 have hn : ¬ (sLen + m ≤ sCap) := by omega
 have h63' : ¬ (9223372036854775807 < ((sLen : Int) + (m : Int))) := by omega
 have h48' : ¬ (281474976710656 < Builtin.nextslicecap (sLen + m) sCap * i.bytes) := by omega
 have hfo := run_firstCells_some (P := P) w.drew 1 sLen b sLen sCap olds (by simpa using hlo) (by simpa using holds)
 have hw := wrap_small m hm
 have hneg : ¬ ((m : Int) < 0) := by omega
 have hbig : ¬ (281474976710656 < (m : Int) * (i.bytes : Int)) := by
  have : m * i.bytes ≤ 1073741824 * 100 := Nat.mul_le_mul hm hb
  have h2 : (m : Int) * (i.bytes : Int) = ((m * i.bytes : Nat) : Int) := by simp
  rw [h2]
  omega
 have h0 : m ≠ 0 := by omega
 have hzl : Builtin.zeroCells z.cells m = (List.replicate m z).toArray := by
  apply Array.ext'
  rw [zeroCells_one hzc m]
 simp [Builtin.append_, run_underlying ht, run_underlying hu, sizeOf, typeInfo, zeroValue, hi, hz, hs1, asInt, asIntOf, hw, hneg, hbig, h0, hn, h63', h48', Question.forced, hfo, hzl, newRow, grownCap]
 try (congr 2; apply Array.ext'; simp [List.append_assoc])
theorem run_append_zeros {t u ty e : TypeId} {z : Value} {bytes : Nat} (ht : P.underlying t = some (.slice e)) (hu : P.underlying u = some (.int .i64)) (hi : (P.info? e).map (fun i => (i.zero, i.size, i.bytes)) = some (some z, 1, bytes)) (hb : bytes ≤ 100)
 (hzc : z.cells = #[z]) (h1 : z.oneCell' = true) {g n cap : Nat} {xs : List Value} (hrow : w.ownsRow 0 e 1 (.slice (some ⟨g, 0, none⟩) n cap) n xs) (m : Nat) (hm : n + m ≤ 1073741824) :
 ∃ p c' w', (Builtin.append_ #[t, u] ty #[.slice (some ⟨g, 0, none⟩) n cap, .int .i64 m]).run P w = .ok (.slice p (n + m) c') w' ∧ w'.ownsRow 0 e 1 (.slice p (n + m) c') (n + m) (xs ++ List.replicate m z) ∧ Grow w (.slice (some ⟨g, 0, none⟩) n cap) (.slice p (n + m) c') ∧ Keeps (fun k => k = g) w w' := by
 obtain ⟨i, hi', hz, h2, h3⟩ := info_parts hi
 have hxl : xs.length = n := by simpa using hrow.1
 have hlen : (xs ++ List.replicate m z).length = (n + m) * 1 := by rw [List.length_append, hxl, List.length_replicate, Nat.mul_one]
 rcases hrow.2 with ⟨h0, _⟩ | ⟨g', cap', cur, he, hbg, hg, hnc, hcm, hcs, htake⟩
 ·cases h0
 ·cases he
  by_cases hroom : n + m ≤ cap
  ·have hcs' : cur.size = cap := by simpa using hcs
   have hr := run_append_zeros_room (P := P) w t u ty e i z ht hu hi' hz h2 (by omega) hzc h1 g n cap cur hg m (by omega) hroom (by omega)
   refine ⟨_, _, _, hr, ⟨hlen, .inr ⟨g, cap, _, rfl, hbg, setRow_heap w g cur _ e _ hg, hroom, hcm, ?_, ?_⟩⟩, fun k hk => .inl hk, ⟨rfl, rfl, rfl, by simp, fun k _ hk => setRow_other w g k _ hk⟩⟩
   ·simp only [List.size_toArray, List.length_append, List.length_take, List.length_drop, Array.length_toList, List.length_replicate]
    omega
   ·have ht' : cur.toList.take n = xs := by simpa using htake
    rw [ht', ← hlen]
    exact List.take_left
  ·have holds : ∀ j u, xs[j]? = some u → w.cell? ((⟨g, 0, none⟩ : Addr).add j) = some u := World.ownsRow.cells (v := .slice (some ⟨g, 0, none⟩) n cap) hrow (g := g) rfl
   have hmul : (n + m) * i.bytes ≤ 1073741824 * 100 := Nat.mul_le_mul hm (by omega)
   have hr := run_append_zeros_grow (P := P) w t u ty e i z ht hu hi' hz h2 (by omega) hzc ⟨g, 0, none⟩ n cap xs hxl holds m (by omega) (by omega) (by omega) (growslice_fits (by omega) (by omega)) hnc
   have hge := grownCap_ge w (n + m) cap e
   have hgm : grownCap w (n + m) cap e ≤ maxLen := grownCap_le_maxLen w (n + m) cap e (by unfold maxLen; omega)
   refine ⟨_, _, _, hr, ⟨hlen, .inr ⟨w.heap.size, _, _, rfl, Nat.zero_le _, heap_alloc_new w.drew _, hge, hgm, ?_, ?_⟩⟩, fun k hk => ?_, ⟨rfl, rfl, rfl, by simp, fun k hk _ => heap_alloc_old w.drew _ hk⟩⟩
   ·simp only [Array.size_append, List.size_toArray, size_zeroCells, hzc, hxl, List.length_replicate]
    simp
    omega
   ·simp only [Array.toList_append, List.append_assoc]
    rw [← List.append_assoc, ← hlen]
    exact List.take_left
   ·right
    simp [Value.ownBlock] at hk
    omega
theorem wpList_append_zeros {ops : Array Oper} {rest : List Oper} {o : Oper} {a : Act} {Q : Exit → Act → World → Prop} (hgd : o.guard = none) (sl x : Operand) (t u : TypeId)
 (ho : o.op = .call { callee := .builtin .append, args := #[sl, x], argTypes := #[t, u] }) {e : TypeId} {z : Value} {bytes : Nat} (ht : P.underlying t = some (.slice e)) (hu : P.underlying u = some (.int .i64)) (hi : (P.info? e).map (fun i => (i.zero, i.size, i.bytes)) = some (some z, 1, bytes)) (hb : bytes ≤ 100)
 (hzc : z.cells = #[z]) (h1 : z.oneCell' = true) {g n cap : Nat} {xs : List Value} (hs : a.eval sl = .slice (some ⟨g, 0, none⟩) n cap) (hrow : w.ownsRow 0 e 1 (.slice (some ⟨g, 0, none⟩) n cap) n xs) (m : Nat) (hx : a.eval x = .int .i64 m) (hm : n + m ≤ 1073741824)
 (h : ∀ p c' w', w'.ownsRow 0 e 1 (.slice p (n + m) c') (n + m) (xs ++ List.replicate m z) → Grow w (.slice (some ⟨g, 0, none⟩) n cap) (.slice p (n + m) c') → Keeps (fun k => k = g) w w' → wpList P ops Q rest (a.put o.dst (.slice p (n + m) c')) w') : wpList P ops Q (o :: rest) a w := by
 refine wpList_plain hgd fun K hK => ?_
 obtain ⟨p, c', w', hr, h2, h3, h4⟩ := run_append_zeros (P := P) w (ty := o.type) ht hu hi hb hzc h1 hrow m hm
 unfold Oper.wp execOp
 simp only [ho, resolve, invoke, builtin, Sem.run_bind, Sem.run_pure, Result.andThen_ok, List.map_toArray, List.map_cons, List.map_nil, hs, hx, hr]
 exact hK _ _ (h p c' w' h2 h3 h4)
end
end Go.Proofs.YtbioecifiogffaaGreatDoor
namespace Go.Proofs.YtbioecifiogffaaGreatDoor
open Go.RowKit
theorem enc_last (r : Nat) (h0 : 128 ≤ r) : ∃ (l : List UInt8) (x : UInt8), Lib.encodeRune (r : Int) = l ++ [x] ∧ 1 ≤ l.length ∧ l.length ≤ 3 ∧ 128 ≤ x.toNat := by
 have hx : 128 ≤ ((128 + (r : Int) % 64).toNat.toUInt8).toNat := by
  have : (128 + (r : Int) % 64).toNat = 128 + r % 64 := by omega
  rw [this]
  have h2 : r % 64 < 64 := Nat.mod_lt _ (by omega)
  simp only [Nat.toUInt8_eq, UInt8.toNat_ofNat']
  omega
 unfold Lib.encodeRune Lib.encodeRuneZ
 rw [if_neg (by omega)]
 split
 ·exact ⟨[_], _, rfl, by simp, by simp, hx⟩
 ·split
  ·exact ⟨[_, _], _, rfl, by simp, by simp, hx⟩
  ·split
   ·exact ⟨[_, _, _], _, rfl, by simp, by simp, hx⟩
   ·exact ⟨[_, _], _, rfl, by simp, by simp, by decide⟩
def chs : ByteArray := ⟨#[41, 32, 9, 10, 40]⟩
theorem chs_size : chs.size = 5 := rfl
theorem chs_byte (i : Nat) (h : i < chs.size) : (chs[i]'h).toNat < 128 := by
 have h2 : ∀ y ∈ chs.data.toList, y.toNat < 128 := by decide
 exact h2 _ (by rw [ByteArray.getElem_eq_getElem_data]; exact Array.getElem_mem_toList _)
theorem chs_none (i : Nat) (x : UInt8) (h : 128 ≤ x.toNat) : Lib.indexByte (chs.data.toList.drop i) x = -1 := by
 rw [indexByte_fnd]
 have : fnd x (chs.data.toList.drop i) = none := by
  cases hf : fnd x (chs.data.toList.drop i) with
  | none => rfl
  | some k =>
   exfalso
   have hm : ∀ l : List UInt8, fnd x l ≠ none → x ∈ l := by
    intro l
    induction l with
    | nil => intro h; exact absurd rfl h
    | cons b t ih =>
     intro h
     unfold fnd at h
     split at h
     ·rename_i hb; rw [← hb]; exact List.mem_cons_self
     ·exact List.mem_cons_of_mem _ (ih (fun e => h (by rw [e]; rfl)))
   have h1 := List.mem_of_mem_drop (hm _ (by rw [hf]; simp))
   have h2 : ∀ y ∈ chs.data.toList, y.toNat < 128 := by decide
   have := h2 x h1
   omega
 rw [this]
 rfl
theorem idxRune_hi (r : Nat) (w : World) (h0 : 128 ≤ r) (h1 : r ≤ 1114111) :
 Calls Tryz.prog 199 #[.string chs, .int .i32 r] w fun e w' => e = .returned (.int .i64 (-1)) ∧ Fresh w w' := by
 have g0 : (128 : Int) ≤ (r : Int) := by omega
 have g1 : (r : Int) ≤ 1114111 := by omega
 by_cases h3 : r = 65533
 ·subst h3
  have hcb := fun i h => chs_byte i h
  generalize chs = S at *
  have HA := Lib.hid hcb
  clear hcb g0 g1 h0 h1
  go_enter Tryz.func199, Tryz.ntmps199
  go_wp2
  go_loopg [5, 6] S.size (fun g _ _ wx => ∃ i : Nat, i + g = S.size ∧ wx = w.iter S i)
  case atStart => exact ⟨0, by omega, rfl⟩
  case round =>
   obtain ⟨i, hig, rfl⟩ := hrel
   cases gk with
   | zero =>
    obtain rfl : i = S.size := by omega
    have hnx := run_next_end (P := Tryz.prog) w S S.size
    go_wp2
    try rw [Exit.noGoto_ret]
    go_ret
    exact ⟨rfl, (Keeps.refl _ _).alloc _⟩
   | succ g =>
    have hi : i < S.size := by omega
    obtain ⟨x, hx⟩ : ∃ x : UInt8, S[i]'hi = x := ⟨_, rfl⟩
    have hx128 : x.toNat < 128 := by rw [← hx]; exact HA.out i hi
    have hnx := fun ty => run_next_ascii (P := Tryz.prog) w S i ty hi (by rw [hx]; exact hx128)
    rw [hx] at hnx
    have hq : ((x.toNat : Int) == 65533) = false := by rw [beq_eq_false_iff_ne]; omega
    clear hx
    go_wp2
    go_roundg g
    case measure => omega
    case rel => exact ⟨i + 1, by omega, rfl⟩
 ·have e3 : ((r : Int) == 65533) = false := by rw [beq_eq_false_iff_ne]; omega
  have henc := encode_eq (r : Int)
  obtain ⟨l, x, hl, hl1, hl2, hx⟩ := enc_last r h0
  rw [hl] at henc
  obtain ⟨RS, hRS⟩ : ∃ RS : ByteArray, ⟨(l ++ [x]).toArray⟩ = RS := ⟨_, rfl⟩
  rw [hRS] at henc
  have hn : RS.size = l.length + 1 := by rw [← hRS]; simp [ByteArray.size]
  have hlast : ∀ h : l.length < RS.size, RS[l.length]'h = x := fun h => by
   subst hRS
   simp [ByteArray.getElem_eq_getElem_data]
  have hs5 := chs_size
  have hn1 : l.length < chs.size := by omega
  obtain ⟨c, hc⟩ : ∃ c, chs[l.length]'hn1 = c := ⟨_, rfl⟩
  have hc2 : c.toNat < 128 := by rw [← hc]; exact chs_byte _ _
  have hi : ∀ W : World, Calls Tryz.prog 106 #[.string (chs.extract (l.length + 1) chs.size), .int .u8 x.toNat] W fun e w' => e = .returned (.int .i64 (-1)) ∧ w' = W := fun W => by
   have h := Tryz.strings_IndexByte (chs.extract (l.length + 1) chs.size) (x.toNat : Int) W
   have e1 : ((x.toNat : Int)).toNat.toUInt8 = x := by simp
   rw [e1, show (chs.extract (l.length + 1) chs.size).data.toList = chs.data.toList.drop (l.length + 1) from by rw [ByteArray.data_extract, Array.toList_extract, List.extract_eq_take_drop]; apply List.take_of_length_le; simp, chs_none _ _ hx] at h
   exact h
  have hq : (((c.toNat : Int)) != (x.toNat : Int)) = true := by rw [bne_iff_ne]; omega
  generalize l.length = n at *
  have hnR : n < RS.size := by omega
  have hlast' : RS[n]'hnR = x := hlast hnR
  have hw1 : IntKind.i64.wrap ((n : Int) + 1) = (n : Int) + 1 := IntWalk.i64_in _ (by omega)
  have hw2 : (0 : Int) ≤ (n : Int) + 1 := by omega
  have hw3 : ((n : Int) + 1).toNat = n + 1 := by omega
  have hw4 : (n : Int) + 1 ≤ (chs.size : Int) := by omega
  have hvr := fun W : World => Tryz.utf8_ValidRune (r : Int) W
  generalize Lib.validRune (r : Int) = vb at hvr
  have HI := Lib.hid hi
  have HV := Lib.hid hvr
  generalize chs = S at *
  have hnS : (n : Int) < (S.size : Int) := by omega
  clear h3 hl hRS hi hlast hvr hs5
  cases vb with
  | false =>
   go_enter Tryz.func199, Tryz.ntmps199
   go_wp2_with fail
   refine (HV.out _).mono ?_
   rintro e w' ⟨rfl, rfl⟩
   go_wp2
   go_ret
   exact ⟨rfl, Keeps.refl _ _⟩
  | true =>
   go_enter Tryz.func199, Tryz.ntmps199
   go_wp2_with fail
   refine (HV.out _).mono ?_
   rintro e w' ⟨rfl, rfl⟩
   go_wp2
   go_step3
   go_wp2
   refine wp_loop_rounds 1 ?_
   rw [rounds_succ]
   go_wp2
   try go_step3
   go_wp2
   go_quiet (fail)
   go_wp2
   refine name_world (fun X hX => ?_)
   have hFX : Fresh w' X := by rw [hX]; exact (Keeps.refl _ _).drewN _
   clear hX
   go_quiet ((go_at_call 106; exact Calls.quiet_of_same (HI.out _)))
   have HFX := Lib.hid hFX
   clear hFX
   go_wp2
   rw [Exit.noGoto_ret]
   go_wp2
   rw [Exit.noGoto_ret]
   try go_wp2
   go_ret
   exact ⟨rfl, HFX.out.drewN _⟩
end Go.Proofs.YtbioecifiogffaaGreatDoor
namespace Go.Proofs.YtbioecifiogffaaGreatDoor
open Go.RowKit
theorem decodeN_wide (n b0 b1 b2 b3 : Nat) (h : 128 ≤ b0) (h0 : b0 < 256) : (Lib.decodeN n b0 b1 b2 b3).2 ≤ 4 ∧ (1 < (Lib.decodeN n b0 b1 b2 b3).2 → 1 < n ∧ 128 ≤ b1) ∧ (2 < (Lib.decodeN n b0 b1 b2 b3).2 → 2 < n ∧ 128 ≤ b2) ∧ (3 < (Lib.decodeN n b0 b1 b2 b3).2 → 3 < n ∧ 128 ≤ b3) ∧ (Lib.decodeN n b0 b1 b2 b3).1 ≤ 1114111 := by
 unfold Lib.decodeN
 repeat' split
 all_goals simp only
 all_goals omega
theorem get_bang (s : ByteArray) (j : Nat) (h : j < s.size) : s.get! j = s[j]'h := by
 simp [ByteArray.get!, getElem!_pos, h]
 rfl
theorem wide_bytes (s : ByteArray) (pos : Nat) (h : pos < s.size) (ha : 128 ≤ (s[pos]'h).toNat) :
 pos + (Utf8.decode s pos).2 ≤ s.size ∧ (Utf8.decode s pos).1 ≤ 1114111 ∧ ∀ (j : Nat) (hj : j < s.size), pos ≤ j → j < pos + (Utf8.decode s pos).2 → 128 ≤ (s[j]'hj).toNat := by
 have hd := decodeN_wide (s.size - pos) (s.get! pos).toNat (s.get! (pos + 1)).toNat (s.get! (pos + 2)).toNat (s.get! (pos + 3)).toNat (by rw [get_bang s pos h]; exact ha) (s.get! pos).toNat_lt
 rw [← Lib.decode_at] at hd
 obtain ⟨h4, h1, h2, h3, hr⟩ := hd
 refine ⟨?_, hr, fun j hj hp hw => ?_⟩
 ·rcases Nat.lt_or_ge 3 (Utf8.decode s pos).2 with c | c
  ·have := (h3 c).1; omega
  ·rcases Nat.lt_or_ge 2 (Utf8.decode s pos).2 with c | c
   ·have := (h2 c).1; omega
   ·rcases Nat.lt_or_ge 1 (Utf8.decode s pos).2 with c | c
    ·have := (h1 c).1; omega
    ·omega
 ·rw [← get_bang s j hj]
  obtain ⟨d, rfl⟩ : ∃ d, j = pos + d := ⟨j - pos, by omega⟩
  have hd4 : d < 4 := by omega
  match d, hd4 with
  | 0, _ => rw [Nat.add_zero, get_bang s pos h]; exact ha
  | 1, _ => exact (h1 (by omega)).2
  | 2, _ => exact (h2 (by omega)).2
  | 3, _ => exact (h3 (by omega)).2
theorem chs_contains (x : UInt8) (h : 128 ≤ x.toNat) : ([41, 32, 9, 10, 40] : List UInt8).contains x = false := by
 have h2 : ∀ y ∈ ([41, 32, 9, 10, 40] : List UInt8), y.toNat < 128 := by decide
 cases hc : ([41, 32, 9, 10, 40] : List UInt8).contains x with
 | false => rfl
 | true =>
  have := h2 x (by simpa using hc)
  omega
theorem noAny_wide {s : ByteArray} {pos : Nat} (h : pos < s.size) (ha : 128 ≤ (s[pos]'h).toNat) (hn : Lib.NoAny s.data.toList [41, 32, 9, 10, 40] pos) : Lib.NoAny s.data.toList [41, 32, 9, 10, 40] (pos + (Utf8.decode s pos).2) := by
 intro j b hj hb
 rcases Nat.lt_or_ge j pos with h1 | h1
 ·exact hn j b h1 hb
 ·obtain ⟨hl, he⟩ := List.getElem?_eq_some_iff.1 hb
  have hjs : j < s.size := by simpa using hl
  have h2 := (wide_bytes s pos h ha).2.2 j hjs h1 hj
  refine chs_contains b ?_
  rw [← he]
  simpa [ByteArray.getElem_eq_getElem_data] using h2
theorem idxAny_short (s : ByteArray) (w : World) (h8 : s.size ≤ 8) :
 Calls Tryz.prog 182 #[.string s, .string ⟨#[41, 32, 9, 10, 40]⟩] w fun e w' => e = .returned (.int .i64 (Lib.indexAny s.data.toList [41, 32, 9, 10, 40])) ∧ Fresh w w' := by
 have h8z : decide ((8 : Int) < (s.size : Int)) = false := decide_eq_false (by omega)
 have hlo : ∀ (x : UInt8), x.toNat < 128 → ∀ W : World, Calls Tryz.prog 199 #[.string ⟨#[41, 32, 9, 10, 40]⟩, .int .i32 x.toNat] W fun e w' => e = .returned (.int .i64 (Lib.indexByte [41, 32, 9, 10, 40] x)) ∧ w' = W := fun x hx W => by
  have h := Tryz.strings_IndexRune_ascii ⟨#[41, 32, 9, 10, 40]⟩ (x.toNat : Int) W (by omega) (by omega)
  have e1 : ((x.toNat : Int)).toNat.toUInt8 = x := by simp
  rw [e1] at h
  exact h
 have hhi : ∀ (r : Nat), 128 ≤ r → r ≤ 1114111 → ∀ W : World, Calls Tryz.prog 199 #[.string ⟨#[41, 32, 9, 10, 40]⟩, .int .i32 r] W fun e w' => e = .returned (.int .i64 (-1)) ∧ Fresh W w' := fun r a b W => idxRune_hi r W a b
 have HLO := Lib.hid hlo
 have HHI := Lib.hid hhi
 have H8 := Lib.hid h8z
 have hsu := fun W : World => Tryz.strings_shouldUseASCIISet (s.size : Int) W
 have HSU := Lib.hid hsu
 clear hlo hhi h8z hsu
 go_enter Tryz.func182, Tryz.ntmps182
 go_wp2_with (go_at_call 200; refine (HSU.out _).mono ?_; rintro e w' ⟨rfl, rfl⟩; rw [H8.out])
 go_loopw [9, 10] (fun _ _ wr => ∃ pos : Nat, wr.heap[w'.heap.size]? = some (.stringIter s pos) ∧ Fresh w' wr ∧ Lib.NoAny s.data.toList [41, 32, 9, 10, 40] pos ∧ pos ≤ s.size) (fun _ _ wr => s.size - wr.iterPos w'.heap.size)
 case atStart => exact ⟨0, World.iter_heap w' s 0, (Keeps.refl _ _).alloc _, Lib.NoAny.zero _ _, Nat.zero_le _⟩
 case round =>
  obtain ⟨pos, hi, hF, hno, hpl⟩ := hrel
  by_cases hp : pos < s.size
  ·have hnx : ∀ ty, (Instr.next (.pointer (some ⟨w'.heap.size, 0, none⟩)) true ty).run Tryz.prog wr = _ := fun ty => Lib.run_next_any_at wr w'.heap.size s pos ty hi hp
   have hwd := width_pos s pos hp
   have hm0 : wr.iterPos w'.heap.size = pos := by simp only [World.iterPos, hi]
   have hi2 := Lib.iterAt_heap wr w'.heap.size s pos (pos + (Utf8.decode s pos).2) hi
   have hF2 : Fresh w' (wr.iterAt w'.heap.size s (pos + (Utf8.decode s pos).2)) := hF.trans (D' := fun k => k = w'.heap.size) ⟨rfl, rfl, rfl, by rw [Lib.iterAt_size]; exact Nat.le_refl _, fun k _ hn => Lib.iterAt_other wr _ k s _ hn⟩ (fun j h1 h2 => by omega)
   have hsm := decode_small s pos hp
   by_cases ha : (s[pos]'hp).toNat < 128
   ·obtain ⟨x, hx⟩ : ∃ x : UInt8, s[pos]'hp = x := ⟨_, rfl⟩
    have hxl : s.data.toList[pos]? = some x := by rw [← hx]; exact Lib.data_getElem? s pos hp
    have hdec : (Utf8.decode s pos).1 = x.toNat ∧ (Utf8.decode s pos).2 = 1 := by
     have hd : (Utf8.decode s pos).1 < 128 := by
      rw [Lib.decode_at, get_bang s pos hp]
      unfold Lib.decodeN
      rw [if_pos ha]
      exact ha
     obtain ⟨d1, d2⟩ := hsm hd
     exact ⟨by rw [← d1, hx], d2⟩
    rw [hx] at ha
    obtain ⟨d1, d2⟩ := hdec
    rw [d1, d2] at hnx
    rw [d2] at hi2 hF2
    have HX := Lib.hid hxl
    have HNO := Lib.hid hno
    have HM := Lib.hid hm0
    have hlx := HLO.out x ha
    have hcon := Lib.contains_iff_indexByte [41, 32, 9, 10, 40] x
    have HI2 := Lib.hid hi2
    have HF2 := Lib.hid hF2
    clear hsm hwd hm0 hxl hno hx d1 d2 hi hF hi2 hF2
    cases hin : ([41, 32, 9, 10, 40] : List UInt8).contains x
    ·rw [hin] at hcon
     have hlt : ¬ ((0 : Int) ≤ Lib.indexByte [41, 32, 9, 10, 40] x) := of_decide_eq_false hcon.symm
     have hlt2 : Lib.indexByte [41, 32, 9, 10, 40] x < 0 := by omega
     generalize Lib.indexByte [41, 32, 9, 10, 40] x = J at *
     have HLX := Lib.hid hlx
     have HIN := Lib.hid hin
     clear hcon hlt hin hlx
     go_wp2_with fail
     refine (HLX.out _).mono ?_
     rintro e w2 ⟨rfl, rfl⟩
     go_wp2
     go_roundw
     case rel => exact ⟨pos + 1, HI2.out, HF2.out, HNO.out.succ HX.out HIN.out, by omega⟩
     case measure => rw [HM.out]; simp only [World.iterPos, HI2.out]; omega
    ·rw [hin] at hcon
     have hge : (0 : Int) ≤ Lib.indexByte [41, 32, 9, 10, 40] x := of_decide_eq_true hcon.symm
     have hfin := Lib.indexAny_hit HNO.out HX.out hin
     generalize Lib.indexByte [41, 32, 9, 10, 40] x = J at *
     have HLX := Lib.hid hlx
     have HFIN := Lib.hid hfin
     clear hcon hin hlx hfin
     go_wp2_with fail
     refine (HLX.out _).mono ?_
     rintro e w2 ⟨rfl, rfl⟩
     go_wp2
     go_ret
     exact ⟨by rw [HFIN.out]; rfl, HF2.out⟩
   ·have ha' : 128 ≤ (s[pos]'hp).toNat := by omega
    obtain ⟨wl, wr1, -⟩ := wide_bytes s pos hp ha'
    have hno2 := noAny_wide hp ha' hno
    have hr1 := (decode_high s pos hp ha').1
    generalize (Utf8.decode s pos).1 = r at *
    generalize (Utf8.decode s pos).2 = wd at *
    have HNO := Lib.hid hno2
    have HM := Lib.hid hm0
    have hlx := HHI.out r hr1 wr1
    have HLX := Lib.hid hlx
    have HI2 := Lib.hid hi2
    have HF2 := Lib.hid hF2
    clear hsm hm0 hno2 hno hlx hi hF ha ha' hi2 hF2
    go_wp2_with fail
    refine (HLX.out _).mono ?_
    rintro e w2 ⟨rfl, hk2⟩
    have HI3 := Lib.hid (hk2.heap_some HI2.out (fun h => h))
    have HF3 := Lib.hid (HF2.out.tr hk2)
    clear hk2
    go_wp2
    go_roundw
    case rel => exact ⟨pos + wd, HI3.out, HF3.out, HNO.out, by omega⟩
    case measure => rw [HM.out]; simp only [World.iterPos, HI3.out]; omega
  ·have hnx : ∀ ty, (Instr.next (.pointer (some ⟨w'.heap.size, 0, none⟩)) true ty).run Tryz.prog wr = _ := fun ty => Lib.run_next_end_at wr w'.heap.size s pos ty hi hp
   obtain rfl : pos = s.size := by omega
   have hfin : Lib.indexAny s.data.toList [41, 32, 9, 10, 40] = -1 := Lib.indexAny_none (by rw [← Lib.size_eq]; exact hno)
   have HFIN := Lib.hid hfin
   have HF := Lib.hid hF
   clear hfin hno hi hF hp
   go_wp2
   go_ret
   exact ⟨by rw [HFIN.out]; rfl, HF.out⟩
theorem idxAny_any (s : ByteArray) (w : World) (hs : s.size ≤ 16777216) :
 Calls Tryz.prog 182 #[.string s, .string ⟨#[41, 32, 9, 10, 40]⟩] w fun e w' => e = .returned (.int .i64 (Lib.indexAny s.data.toList [41, 32, 9, 10, 40])) ∧ Fresh w w' := by
 by_cases h8 : s.size ≤ 8
 ·exact idxAny_short s w h8
 ·refine (Tryz.strings_IndexAny_long (fun _ => by kernel_rfl) s ⟨#[41, 32, 9, 10, 40]⟩ w (by decide) (by omega) (by omega) (by decide) (fun j b hb => ?_)).mono ?_
  ·have h2 : ∀ y ∈ ([41, 32, 9, 10, 40] : List UInt8), y.toNat < 128 := by decide
   exact h2 b (List.mem_of_getElem? hb)
  ·rintro e w' ⟨rfl, rfl⟩
   exact ⟨rfl, ((Keeps.refl _ _).alloc _).alloc _⟩
end Go.Proofs.YtbioecifiogffaaGreatDoor
namespace Go.Proofs.YtbioecifiogffaaGreatDoor
open Go.RowKit
theorem Tryz.infoPE : (Tryz.prog.info? 38).map (fun i => (i.zero, i.size, i.bytes)) = some (some (.agg #[.int .i64 0, .bool false, .int .i64 0, .string ⟨#[]⟩]), 4, 40) := by kernel_rfl
theorem event_any (e : Ev) (w : World) :
 Calls Tryz.prog 42 #[.agg #[.int .i64 e.kind, .bool e.fin, .int .i64 e.level, .string ⟨e.text.toArray⟩]] w fun r w' => r = .returned (.agg #[.int .i64 e.kind, .bool e.fin, .int .i64 e.level, .string ⟨e.text.toArray⟩]) ∧ Fresh w w' := by
 go_enter Tryz.func42, Tryz.ntmps42
 go_wp2
 exact bodyPost_ret (v := .agg #[.int .i64 e.kind, .bool e.fin, .int .i64 e.level, .string ⟨e.text.toArray⟩]) (by simp [results, Tryz.results42, go_sem]) rfl ⟨rfl, ((Keeps.refl _ _).alloc _).alloc _⟩
theorem drop_at {α : Type} {xs ys : List α} {n k : Nat} {u : α} (h : xs.drop n = ys.drop n) (hk : n ≤ k) (hu : ys[k]? = some u) : xs[k]? = some u := by
 obtain ⟨d, rfl⟩ : ∃ d, k = n + d := ⟨k - n, by omega⟩
 rw [← List.getElem?_drop, ← h, List.getElem?_drop] at hu
 exact hu
structure Back (w : World) (t : TypeId) (g c : Nat) (L : List Ev) (j : Nat) : Prop where
 row : ∃ xs, w.ownsRow 0 t 4 (.slice (some ⟨g, 0, none⟩) L.length c) L.length xs ∧ xs.drop (j * 4) = (evCells L).drop (j * 4)
theorem Back.cells {w : World} {t : TypeId} {g c : Nat} {L : List Ev} {j : Nat} {e : Ev} (h : Back w t g c L j) (he : L[j]? = some e) :
 w.cell? ⟨g, j * 4, none⟩ = some (.int .i64 e.kind) ∧ w.cell? ⟨g, j * 4 + 1, none⟩ = some (.bool e.fin) ∧ w.cell? ⟨g, j * 4 + 2, none⟩ = some (.int .i64 e.level) ∧ w.cell? ⟨g, j * 4 + 3, none⟩ = some (.string ⟨e.text.toArray⟩) ∧ ∀ k, w.frozen? ⟨g, k, none⟩ = false := by
 obtain ⟨xs, hx, hd⟩ := h.row
 obtain ⟨h0, h1, h2, h3⟩ := evCells_get L j e he
 have hh := fun k u hu => World.ownsRow.cells (v := .slice (some ⟨g, 0, none⟩) L.length c) hx (g := g) rfl k u hu
 have ad0 : ∀ k, (⟨g, 0, none⟩ : Addr).add k = ⟨g, k, none⟩ := fun k => by rw [Addr.add_lit, Nat.zero_add]
 simp only [ad0] at hh
 exact ⟨hh _ _ (drop_at hd (by omega) h0), hh _ _ (drop_at hd (by omega) h1), hh _ _ (drop_at hd (by omega) h2), hh _ _ (drop_at hd (by omega) h3), fun k => hx.frozenAt k⟩
theorem Back.kept {D : Nat → Prop} {w w' : World} {t : TypeId} {g c : Nat} {L : List Ev} {j : Nat} (h : Back w t g c L j) (hk : Keeps D w w') (hn : ¬ D g) : Back w' t g c L j := by
 obtain ⟨xs, hx, hd⟩ := h.row
 exact ⟨xs, own_kept hx hk (fun k hk => by simp [Value.ownBlock] at hk; rw [← hk]; exact hn), hd⟩
theorem drop_set_front {α : Type} {xs : List α} {n k : Nat} {u : α} (h : k < n) : (xs.set k u).drop n = xs.drop n := by
 rw [List.drop_set_of_lt h]
theorem drop_mono {α : Type} {xs ys : List α} {n m : Nat} (h : xs.drop n = ys.drop n) (hm : n ≤ m) : xs.drop m = ys.drop m := by
 obtain ⟨d, rfl⟩ : ∃ d, m = n + d := ⟨m - n, by omega⟩
 rw [← List.drop_drop, ← List.drop_drop, h]
theorem Back.store {w : World} {t : TypeId} {g c : Nat} {L : List Ev} {j : Nat} (h : Back w t g c L j) (a b d e : Value) :
 Back ((((w.setCell ⟨g, j * 4, none⟩ a).setCell ⟨g, j * 4 + 1, none⟩ b).setCell ⟨g, j * 4 + 2, none⟩ d).setCell ⟨g, j * 4 + 3, none⟩ e) t g c L (j + 1) := by
 obtain ⟨xs, hx, hd⟩ := h.row
 have h1 := ((((hx.stored (j * 4) a).1.stored (j * 4 + 1) b).1.stored (j * 4 + 2) d).1.stored (j * 4 + 3) e).1
 refine ⟨_, h1, ?_⟩
 rw [drop_set_front (by omega), drop_set_front (by omega), drop_set_front (by omega), drop_set_front (by omega)]
 exact drop_mono hd (by omega)
theorem events_any (v : Value) (L : List Ev) (w : World) (h : Evs w 97 v L) (hL : L.length ≤ 1000000000) :
 Calls Tryz.prog 56 #[v] w fun r w' => ∃ u, r = .returned u ∧ Evs w' 38 u L ∧ (∀ k, u.ownBlock = some k → w.heap.size ≤ k) ∧ Keeps (fun k => v.ownBlock = some k) w w' := by
 obtain ⟨q, c, rfl, hc, hq, hg⟩ := own_form h
 have HI := Lib.hid Tryz.infoPE
 by_cases h0 : L = []
 ·subst h0
  have h1 : Evs w 38 (.slice none 0 0) [] := Evs.nil _ _
  have H1 := Lib.hid h1
  clear h h1 hq hg HI
  go_enter Tryz.func56, Tryz.ntmps56
  go_wp2
  go_loopg [3, 7] 0 (fun g o i wr => o = .slice none 0 0 ∧ i = .int .i64 0 ∧ wr = w)
  case atStart => exact ⟨rfl, rfl, rfl⟩
  case round =>
   obtain ⟨rfl, rfl, rfl⟩ := hrel
   go_wp2
   go_ret
   exact ⟨_, rfl, H1.out, (fun k hk => by cases hk), Keeps.refl _ _⟩
 ·have hpl : 0 < L.length := List.length_pos_iff.2 h0
  obtain ⟨g, rfl, hgl⟩ : ∃ g, q = some ⟨g, 0, none⟩ ∧ g < w.heap.size := by
   cases q with
   | none => have := (hq rfl).1; omega
   | some a => obtain ⟨g, rfl, hgl⟩ := hg a rfl; exact ⟨g, rfl, hgl⟩
  have hB : Back w 97 g c L 0 := ⟨⟨_, h, rfl⟩⟩
  have HB := Lib.hid hB
  clear h h0 hq hg hB
  go_enter Tryz.func56, Tryz.ntmps56
  go_wp2
  go_loopg [3, 7] L.length (fun gk o i wr => ∃ j, j + gk = L.length ∧ i = .int .i64 j ∧ Evs wr 38 o (L.take j) ∧ Back wr 97 g c L j ∧ (∀ k, o.ownBlock = some k → w.heap.size ≤ k) ∧ Keeps (fun k => k = g) w wr)
  case atStart => exact ⟨0, by omega, rfl, Evs.nil _ _, HB.out, (fun k hk => by cases hk), Keeps.refl _ _⟩
  case round =>
   obtain ⟨j, hj, rfl, hev, hbk, hown, hkp⟩ := hrel
   obtain ⟨q2, c2, rfl, hc2, hq2, hg2⟩ := own_form hev
   have htk : (L.take j).length = j := by rw [List.length_take]; omega
   rw [htk] at hev hq2 hc2 hown ⊢
   cases gk with
   | zero =>
    obtain rfl : j = L.length := by omega
    have hfin : Evs wr 38 (.slice q2 L.length c2) L := by rw [List.take_length] at hev; exact hev
    have HFIN := Lib.hid hfin
    have HOWN := Lib.hid hown
    have HKP := Lib.hid hkp
    clear hfin hown hkp hev hbk hq2 hg2 htk
    go_wp2
    go_ret
    exact ⟨_, rfl, HFIN.out, HOWN.out, HKP.out.mono (fun k _ hk => by rw [hk]; rfl)⟩
   | succ gk =>
    have hlt : j < L.length := by omega
    obtain ⟨e, he⟩ : ∃ e, L[j]? = some e := ⟨L[j], List.getElem?_eq_getElem hlt⟩
    obtain ⟨x0, x1, x2, x3, xf⟩ := hbk.cells he
    have hec := fun W : World => event_any e W
    have htk2 : L.take (j + 1) = L.take j ++ [e] := by
     rw [List.take_add_one, he]
     rfl
    have hgb : g < wr.heap.size := World.block_lt_of_cell? _ _ x0
    have hown2 : ∀ k, (Value.slice q2 j c2).ownBlock = some k → k ≠ g := fun k hk e => by
     have := hown k hk
     omega
    have HEC := Lib.hid hec
    have HE := Lib.hid he
    have HTK := Lib.hid htk2
    have HTL := Lib.hid htk
    have HEV := Lib.hid hev
    have HBK := Lib.hid hbk
    have HOWN := Lib.hid hown
    have HOWN2 := Lib.hid hown2
    have HKP := Lib.hid hkp
    clear hec htk htk2 hev hbk hown hown2 hkp hq2 hg2 he xf hc2
    go_wp2_with fail
    refine (HEC.out _).mono ?_
    rintro r w2 ⟨rfl, hk2⟩
    have hF3 : Fresh w2 (w2.alloc (.cells #[.int .i64 e.kind, .bool e.fin, .int .i64 e.level, .string ⟨e.text.toArray⟩] 38)) := (Keeps.refl _ w2).alloc _
    have hev3 := HEV.out.fresh (hk2.tr hF3)
    unfold Evs at hev3
    rw [HTL.out] at hev3
    have HEV3 := Lib.hid hev3
    have HK2 := Lib.hid hk2
    clear hev3 hk2 hF3
    go_wp2_with (at_builtin; refine wpList_append_mine _ rfl _ _ 34 rfl 38 _ 4 40 Tryz.underlying34 HI.out rfl (by decide) _ _ _ rfl HEV3.out _ 1 1 e.cells rfl rfl (fun h => (by cases h)) (ev_new w2 e 38) (ev_one _) (by unfold maxLen; omega) (by omega) ?_)
    intro p3 c3 w3 hr3 hg3 hk3
    have hbk3 : Back w3 97 g c L j := (HBK.out.kept (HK2.out.tr ((Keeps.refl _ w2).alloc _)) (fun h => h)).kept hk3 (fun h => HOWN2.out g h rfl)
    obtain ⟨y0, y1, y2, y3, yf⟩ := hbk3.cells HE.out
    have f0 := yf (j * 4)
    have f1 := yf (j * 4 + 1)
    have f2 := yf (j * 4 + 2)
    have f3 := yf (j * 4 + 3)
    have hb4 := hbk3.store (.int .i64 0) (.bool false) (.int .i64 0) (.string ⟨#[109, 105, 110, 101]⟩)
    have hkW : Keeps (fun k => k = g) w w3 := (HKP.out.tr ((HK2.out.tr ((Keeps.refl _ w2).alloc _)).mono (fun _ _ h => h.elim))).trans hk3 (fun k h1 h2 => by have := HOWN.out k h2; omega)
    have hev4 : Evs w3 38 (.slice p3 (j + 1) c3) (L.take (j + 1)) := by
     rw [HTK.out]
     unfold Evs
     rw [evCells_append, evCells_one, List.length_append, HTL.out]
     exact hr3
    have hown4 : ∀ k, (Value.slice p3 (j + 1) c3).ownBlock = some k → w.heap.size ≤ k := fun k hk => by
     rcases hg3 k hk with h1 | h1
     ·exact HOWN.out k h1
     ·have s1 := HKP.out.size
      have s2 := HK2.out.size
      simp at h1
      omega
    have hne4 : ∀ k, (Value.slice p3 (j + 1) c3).ownBlock = some k → ¬ k = g := fun k hk e => by
     have := hown4 k hk
     omega
    have hst : Keeps (fun k => k = g) w3 ((((w3.setCell ⟨g, j * 4, none⟩ (.int .i64 0)).setCell ⟨g, j * 4 + 1, none⟩ (.bool false)).setCell ⟨g, j * 4 + 2, none⟩ (.int .i64 0)).setCell ⟨g, j * 4 + 3, none⟩ (.string ⟨#[109, 105, 110, 101]⟩)) :=
     ((((Keeps.refl (fun k => k = g) w3).setCell (p := ⟨g, j * 4, none⟩) (fun _ => rfl) _).setCell (p := ⟨g, j * 4 + 1, none⟩) (fun _ => rfl) _).setCell (p := ⟨g, j * 4 + 2, none⟩) (fun _ => rfl) _).setCell (p := ⟨g, j * 4 + 3, none⟩) (fun _ => rfl) _
    have hev5 := hev4.kept hst hne4
    have HEV5 := Lib.hid hev5
    have HB4 := Lib.hid hb4
    have HK5 := Lib.hid (hkW.tr hst)
    have HO4 := Lib.hid hown4
    clear hr3 hg3 hk3 hbk3 yf hb4 hkW hev4 hown4 hne4 hst hev5 x0 x1 x2 x3
    go_wp2
    go_roundg gk
    case measure => omega
    case rel => exact ⟨j + 1, by omega, rfl, HEV5.out, HB4.out, HO4.out, HK5.out⟩
end Go.Proofs.YtbioecifiogffaaGreatDoor
namespace Go.Proofs.YtbioecifiogffaaGreatDoor
open Go.RowKit
theorem same_any (v u : Value) (L : List Ev) (w : World) (h : Evs w 38 v L) (h2 : Evs w 104 u L) (hL : L.length ≤ 1000000000) :
 Calls Tryz.prog 37 #[v, u] w fun r w' => r = .returned (.bool true) ∧ Fresh w w' := by
 obtain ⟨q, c, rfl, hc, hq, hg⟩ := own_form h
 obtain ⟨q2, c2, rfl, hc2, hq2, hg2⟩ := own_form h2
 have H := Lib.hid h
 have H2 := Lib.hid h2
 clear h h2 hq hg hq2 hg2
 go_enter Tryz.func37, Tryz.ntmps37
 go_wp2
 go_loopw [5] (fun i wr => ∃ j : Nat, j ≤ L.length ∧ i = .int .i64 j ∧ Fresh w wr) (fun i _ => L.length - (intOf i).toNat)
 case atStart => exact ⟨0, Nat.zero_le _, rfl, Keeps.refl _ _⟩
 case round =>
  obtain ⟨j, hj, rfl, hF⟩ := hrel
  by_cases hlt : j < L.length
  ·obtain ⟨e, he⟩ : ∃ e, L[j]? = some e := ⟨L[j], List.getElem?_eq_getElem hlt⟩
   obtain ⟨g, hqe, -, hgl, x0, x1, x2, x3⟩ := Evs.at (H.out.fresh hF) he
   obtain ⟨g2, hqe2, -, hgl2, z0, z1, z2, z3⟩ := Evs.at (H2.out.fresh hF) he
   subst hqe hqe2
   have b0 : (0 : Int) ≤ (j : Int) := by omega
   have b1 : (j : Int) < (L.length : Int) := by omega
   have HF := Lib.hid hF
   clear he hF
   go_wp2
   go_quiet (fail)
   go_wp2
   go_roundw
   case rel => exact ⟨j + 1, by omega, by go_num, HF.out.drewN _⟩
   case measure => simp [intOf]; omega
  ·obtain rfl : j = L.length := by omega
   clear hlt hj
   go_wp2
   go_ret
   exact ⟨rfl, hF⟩
end Go.Proofs.YtbioecifiogffaaGreatDoor
namespace Go.Proofs.YtbioecifiogffaaGreatDoor
open Go.RowKit
theorem tokAt_ch0 {ins : Bool} {b c : UInt8} {t : List UInt8} (h : tokAt ins b t = (.ch c, 0)) : c = b := by
 unfold tokAt at h
 repeat' split at h
 all_goals simp_all
theorem tokAt_ch {ins : Bool} {b c : UInt8} {t : List UInt8} {k : Nat} (h : tokAt ins b t = (.ch c, k)) : k ≤ t.length := by
 unfold tokAt at h
 repeat' split at h
 all_goals simp_all
 all_goals omega
theorem round_cases (n : Nat) (ins : Bool) (b : UInt8) (t p : List UInt8) :
 (oneM n ins b t = ([], 0) ∧ inlF (n + 1) ins (b :: t) p = inlF n ins t (p ++ [b])) ∨
 (∃ c k, k + 1 ≤ t.length ∧ oneM n ins b t = ([⟨8, false, 0, [c]⟩], k + 2) ∧ inlF (n + 1) ins (b :: t) p = inlF n ins (t.drop (k + 1)) (p ++ [c])) ∨
 (∃ e k, k ≤ t.length ∧ e.kind ≠ 8 ∧ oneM n ins b t = ([e], k + 1) ∧ inlF (n + 1) ins (b :: t) p = flushE p ++ [e] ++ inlF n ins (t.drop k) []) ∨
 (∃ e M f k, k ≤ t.length ∧ f.kind ≠ 8 ∧ oneM n ins b t = (e :: (M ++ [f]), k + 1) ∧ inlF (n + 1) ins (b :: t) p = flushE p ++ (e :: (M ++ [f])) ++ inlF n ins (t.drop k) []) := by
 unfold oneM
 simp only [inlF]
 cases h : tokAt ins b t with
 | mk tk k =>
  cases tk with
  | ch c =>
   cases k with
   | zero =>
    have := tokAt_ch0 h
    subst this
    exact .inl ⟨rfl, by simp⟩
   | succ k => exact .inr (.inl ⟨c, k, tokAt_ch h, rfl, rfl⟩)
  | one e =>
   obtain ⟨h1, h2⟩ := tokAt_one h
   exact .inr (.inr (.inl ⟨e, k, h2, h1, rfl, by simp⟩))
  | sub e s i =>
   obtain ⟨h1, h2, h3⟩ := tokAt_sub h
   exact .inr (.inr (.inr ⟨e, inlF n i s [], endE e, k, h3, h1, rfl, by simp⟩))
theorem Inline_ok (n : Nat) : InlOK n := by
 induction n using Nat.strongRecOn with
 | ind n IH =>
 intro s ins w hs hsn
 obtain ⟨R, hR⟩ : ∃ R, R = inlF n ins s.data.toList [] := ⟨_, rfl⟩
 rw [← hR]
 have hRl : R.length ≤ 33554432 := by
  have h := inlF_length n ins s.data.toList []
  rw [← hR, flushE_nil] at h
  simp at h
  omega
 have hsl : s.data.toList.length = s.size := by simp
 have HI0 := Lib.hid IH
 have HR := Lib.hid hR
 have HSL := Lib.hid hsl
 clear IH hR hsl
 have HI := Lib.hid Tryz.infoRE
 go_enter Tryz.func39, Tryz.ntmps39
 go_wp2
 go_loopw [5, 6] (fun l p wr => Fresh w wr ∧ ∃ (j f : Nat) (done : List Ev) (pd : List UInt8), p = .int .i64 j ∧ j ≤ s.size ∧ Evs wr 104 l (done ++ flushE pd) ∧ NoText done ∧ (∀ k, l.ownBlock = some k → w.heap.size ≤ k) ∧ done ++ inlF f ins (s.data.toList.drop j) pd = R ∧ f ≤ n ∧ (s.data.toList.drop j).length < f ∧ pd.length ≤ j) (fun _ p _ => s.size - (intOf p).toNat)
 case atStart => exact ⟨Keeps.refl _ _, 0, n, [], [], rfl, Nat.zero_le _, Evs.nil _ _, NoText.nil, (fun k hk => by cases hk), by rw [HR.out]; rfl, Nat.le_refl _, by rw [List.drop_zero, HSL.out]; exact hsn, Nat.le_refl _⟩
 case round =>
  obtain ⟨hF, j, f, done, pd, rfl, hj, hev, hnt, hown, heq, hfn, hfl, hpd⟩ := hrel
  obtain ⟨q, c, rfl, hc, hq, hg⟩ := own_form hev
  generalize hmm : (done ++ flushE pd).length = mm at *
  by_cases hlt : j < s.size
  ·have hd := drop_lt hlt
   obtain ⟨b, hb⟩ : ∃ b, s[j]'hlt = b := ⟨_, rfl⟩
   rw [hb] at hd
   obtain ⟨t, ht⟩ : ∃ t, s.data.toList.drop (j + 1) = t := ⟨_, rfl⟩
   rw [ht] at hd
   rw [hd] at heq hfl
   obtain ⟨f, rfl⟩ : ∃ k, f = k + 1 := ⟨f - 1, by simp only [List.length_cons] at hfl; omega⟩
   simp only [List.length_cons] at hfl
   have htl : t.length = s.size - (j + 1) := by rw [← ht]; simp
   have hdl : done.length ≤ 33554432 := by
    have := congrArg List.length heq
    rw [List.length_append] at this
    omega
   have hone := fun W : World => one_any f (HI0.out f (by omega)) s j ins b t W hd hs (by omega)
   have hdrop : ∀ k, t.drop k = s.data.toList.drop (j + 1 + k) := fun k => by rw [← ht, List.drop_drop]
   have hfl2 : (flushE pd).length ≤ 1 := by unfold flushE; split <;> simp
   have HF := Lib.hid hF
   have HEV := Lib.hid hev
   have HOWN := Lib.hid hown
   have HNT := Lib.hid hnt
   have HD := Lib.hid hd
   have HDR := Lib.hid hdrop
   have HT := Lib.hid ht
   have hrc := round_cases f ins b t pd
   clear hd hdrop ht hF hev hown hnt hq hg hc
   have HMM := Lib.hid hmm
   clear hmm
   rcases hrc with ⟨hM, hI⟩ | ⟨x, k, hk, hM, hI⟩ | ⟨x, k, hk, hx, hM, hI⟩ | ⟨x, M, y, k, hk, hx, hM, hI⟩
   ·-- a byte of text
    rw [hM] at hone
    rw [hI] at heq
    have HEQ := Lib.hid heq
    have HONE := Lib.hid hone
    have hcc : (s.extract j (j + 1)) = ⟨#[b]⟩ := by
     apply ByteArray.ext
     apply Array.ext'
     rw [ext_list, HD.out]
     simp
    clear hM hI heq hone hb
    go_wp2_with (go_at_call 68; refine (HONE.out _).mono ?_)
    rintro e w2 v2 rfl hx1 hx2 hk2
    clear hx1 hx2
    have hz1 : (⟨#[b]⟩ : ByteArray).size = 1 := rfl
    have hadd := add_any _ done pd ⟨#[b]⟩ w2 (HEV.out.fresh hk2) HNT.out (by simp) (by omega) (by omega)
    clear hz1
    have HADD := Lib.hid hadd
    have HK2 := Lib.hid hk2
    clear hadd hk2
    go_wp2_with (go_at_call 69; refine HADD.out.mono ?_)
    rintro e w3 ⟨v3, rfl, hev3, hg3, hk3⟩
    have HEV3 := Lib.hid hev3
    have HG3 := Lib.hid hg3
    have HK3 := Lib.hid hk3
    clear hev3 hg3 hk3
    go_wp2
    go_roundw
    case rel =>
     have s1 := HF.out.size
     have s2 := HK2.out.size
     refine ⟨Fresh.grow (HF.out.tr HK2.out) HK3.out HOWN.out, j + 1, f, done, pd ++ [b], rfl, by omega, HEV3.out, HNT.out, fun k hk => ?_, by rw [HT.out]; exact HEQ.out, by omega, by rw [HT.out]; omega, by simp; omega⟩
     rcases HG3.out k hk with h | h
     ·exact HOWN.out k h
     ·omega
    case measure => simp [intOf]; omega
   ·-- a byte that a backslash makes text
    rw [hM] at hone
    rw [hI] at heq
    have HEQ := Lib.hid heq
    have HONE := Lib.hid hone
    clear hM hI heq hone hb
    go_wp2_with (go_at_call 68; refine (HONE.out _).mono ?_)
    rintro e w2 v2 rfl hx1 hx2 hk2
    obtain ⟨p2, c2, rfl, hc2, hq2, hg2⟩ := own_form hx1
    obtain ⟨g2, rfl, -, hgl2, y0, -, -, y3⟩ := Evs.at hx1 (j := 0) (x := ⟨8, false, 0, [x]⟩) rfl
    have y0' : w2.cell? ⟨g2, 0, none⟩ = some (.int .i64 8) := y0
    have y3' : w2.cell? ⟨g2, 3, none⟩ = some (.string ⟨#[x]⟩) := y3
    have hz1 : (⟨#[x]⟩ : ByteArray).size = 1 := rfl
    have hadd := add_any _ done pd ⟨#[x]⟩ w2 (HEV.out.fresh hk2) HNT.out (by simp) (by omega) (by omega)
    clear hz1
    have HADD := Lib.hid hadd
    have HK2 := Lib.hid hk2
    clear hadd hk2 hx1 hx2 y0 y3 hq2 hg2
    go_wp2_with (go_at_call 69; refine HADD.out.mono ?_)
    rintro e w3 ⟨v3, rfl, hev3, hg3, hk3⟩
    have HEV3 := Lib.hid hev3
    have HG3 := Lib.hid hg3
    have HK3 := Lib.hid hk3
    clear hev3 hg3 hk3
    go_wp2
    go_roundw
    case rel =>
     have s1 := HF.out.size
     have s2 := HK2.out.size
     refine ⟨Fresh.grow (HF.out.tr HK2.out) HK3.out HOWN.out, j + (k + 2), f, done, pd ++ [x], by simp, by omega, HEV3.out, HNT.out, fun k hk => ?_, ?_, by omega, by simp; omega, by simp; omega⟩
     ·rcases HG3.out k hk with h | h
      ·exact HOWN.out k h
      ·omega
     ·have := HEQ.out
      rw [HDR.out, show j + 1 + (k + 1) = j + (k + 2) by omega] at this
      exact this
    case measure => simp [intOf]; omega
   ·-- one event
    rw [hM] at hone
    rw [hI] at heq
    have heq' : done ++ flushE pd ++ [x] ++ inlF f ins (t.drop k) [] = R := by rw [← heq]; simp
    have HEQ := Lib.hid heq'
    have HONE := Lib.hid hone
    have ek : ((x.kind : Int) == 8) = false := by rw [beq_eq_false_iff_ne]; exact hx
    have HX := Lib.hid hx
    clear hM hI heq hone hb heq' hx
    go_wp2_with (go_at_call 68; refine (HONE.out _).mono ?_)
    rintro e w2 v2 rfl hx1 hx2 hk2
    obtain ⟨p2, c2, rfl, hc2, hq2, hg2⟩ := own_form hx1
    obtain ⟨g2, rfl, -, hgl2, y0, -, -, -⟩ := Evs.at hx1 (j := 0) (x := x) rfl
    have y0' : w2.cell? ⟨g2, 0, none⟩ = some (.int .i64 x.kind) := y0
    clear y0
    have hml : ([x] : List Ev).length = 1 := rfl
    have hcount : mm + ([x]).length ≤ 33554432 := by
     have := congrArg List.length HEQ.out
     have := HMM.out
     simp only [List.length_append] at *
     omega
    have hrow2 : w2.ownsRow 0 104 4 (.slice q mm c) mm (evCells (done ++ flushE pd)) := by
     have := HEV.out.fresh hk2
     unfold Evs at this
     rw [HMM.out] at this
     exact this
    have hcells := own_cells hx1 rfl
    have hfin : ∀ (X : World) (p : Option Addr) (c' : Nat), X.ownsRow 0 104 4 (.slice p (mm + 1) c') (mm + 1) (evCells (done ++ flushE pd) ++ evCells ([x])) → Evs X 104 (.slice p (mm + 1) c') (done ++ flushE pd ++ ([x]) ++ flushE []) := fun X p c' h => by
     unfold Evs
     rw [flushE_nil, List.append_nil, evCells_append, List.length_append, HMM.out, hml]
     exact h
    have hlen4 : (evCells ([x])).length = 1 * 4 := by rw [evCells_length, hml]
    have hnt2 : NoText (done ++ flushE pd ++ ([x])) := NoText.snoc _ HX.out
    rw [hml] at hcount
    have HROW := Lib.hid hrow2
    have HCL := Lib.hid hcells
    have HFN := Lib.hid hfin
    have HL4 := Lib.hid hlen4
    have HNT2 := Lib.hid hnt2
    have HK2 := Lib.hid hk2
    clear hx1 hx2 hrow2 hcells hfin hlen4 hnt2 hk2 hml hc2 hg2
    go_wp2_with (at_builtin; refine wpList_append_mine _ rfl _ _ 57 rfl 104 _ 4 40 Tryz.underlying57 HI.out rfl (by decide) _ _ _ rfl HROW.out _ 1 c2 (evCells ([x])) rfl HL4.out hq2 HCL.out (evCells_one' _) (by unfold maxLen; omega) (by omega) ?_)
    intro p5 c5 w5 hr5 hg5 hk5
    have hev5 := HFN.out _ _ _ hr5
    have HEV5 := Lib.hid hev5
    have HG5 := Lib.hid hg5
    have HK5 := Lib.hid hk5
    clear hr5 hev5 hg5 hk5
    go_wp2
    go_roundw
    case rel =>
     have s1 := HF.out.size
     have s2 := HK2.out.size
     refine ⟨Fresh.grow (HF.out.tr HK2.out) HK5.out HOWN.out, j + (k + 1), f, _, [], by simp, by omega, HEV5.out, HNT2.out, fun k hk => ?_, ?_, by omega, by simp; omega, by simp⟩
     ·rcases HG5.out k hk with h | h
      ·exact HOWN.out k h
      ·omega
     ·have := HEQ.out
      rw [HDR.out, show j + 1 + k = j + (k + 1) by omega] at this
      rw [← this]
      try simp
    case measure => simp [intOf]; omega
   ·-- a beginning, a part, the end
    rw [hM] at hone
    rw [hI] at heq
    have heq' : done ++ flushE pd ++ (x :: (M ++ [y])) ++ inlF f ins (t.drop k) [] = R := by rw [← heq]; simp
    have HEQ := Lib.hid heq'
    have HONE := Lib.hid hone
    have HX := Lib.hid hx
    clear hM hI heq hone hb heq' hx
    go_wp2_with (go_at_call 68; refine (HONE.out _).mono ?_)
    rintro e w2 v2 rfl hx1 hx2 hk2
    obtain ⟨p2, c2, rfl, hc2, hq2, hg2⟩ := own_form hx1
    have hlong : 2 ≤ (x :: (M ++ [y])).length := by simp
    generalize hml : (x :: (M ++ [y])).length = ml at *
    have e1 : ((ml : Int) == 1) = false := by rw [beq_eq_false_iff_ne]; omega
    have hcount : mm + (x :: (M ++ [y])).length ≤ 33554432 := by
     have := congrArg List.length HEQ.out
     have := HMM.out
     simp only [List.length_append] at *
     omega
    have hrow2 : w2.ownsRow 0 104 4 (.slice q mm c) mm (evCells (done ++ flushE pd)) := by
     have := HEV.out.fresh hk2
     unfold Evs at this
     rw [HMM.out] at this
     exact this
    have hcells := own_cells hx1 rfl
    have hfin : ∀ (X : World) (p : Option Addr) (c' : Nat), X.ownsRow 0 104 4 (.slice p (mm + ml) c') (mm + ml) (evCells (done ++ flushE pd) ++ evCells (x :: (M ++ [y]))) → Evs X 104 (.slice p (mm + ml) c') (done ++ flushE pd ++ (x :: (M ++ [y])) ++ flushE []) := fun X p c' h => by
     unfold Evs
     rw [flushE_nil, List.append_nil, evCells_append, List.length_append, HMM.out, hml]
     exact h
    have hlen4 : (evCells (x :: (M ++ [y]))).length = ml * 4 := by rw [evCells_length, hml]
    have hnt2 : NoText (done ++ flushE pd ++ (x :: (M ++ [y]))) := by rw [show done ++ flushE pd ++ (x :: (M ++ [y])) = (done ++ flushE pd ++ (x :: M)) ++ [y] by simp]; exact NoText.snoc _ HX.out
    rw [hml] at hcount
    have HROW := Lib.hid hrow2
    have HCL := Lib.hid hcells
    have HFN := Lib.hid hfin
    have HL4 := Lib.hid hlen4
    have HNT2 := Lib.hid hnt2
    have HK2 := Lib.hid hk2
    clear hx1 hx2 hrow2 hcells hfin hlen4 hnt2 hk2 hml hc2 hg2
    go_wp2_with (at_builtin; refine wpList_append_mine _ rfl _ _ 57 rfl 104 _ 4 40 Tryz.underlying57 HI.out rfl (by decide) _ _ _ rfl HROW.out _ ml c2 (evCells (x :: (M ++ [y]))) rfl HL4.out hq2 HCL.out (evCells_one' _) (by unfold maxLen; omega) (by omega) ?_)
    intro p5 c5 w5 hr5 hg5 hk5
    have hev5 := HFN.out _ _ _ hr5
    have HEV5 := Lib.hid hev5
    have HG5 := Lib.hid hg5
    have HK5 := Lib.hid hk5
    clear hr5 hev5 hg5 hk5
    go_wp2
    go_roundw
    case rel =>
     have s1 := HF.out.size
     have s2 := HK2.out.size
     refine ⟨Fresh.grow (HF.out.tr HK2.out) HK5.out HOWN.out, j + (k + 1), f, _, [], by simp, by omega, HEV5.out, HNT2.out, fun k hk => ?_, ?_, by omega, by simp; omega, by simp⟩
     ·rcases HG5.out k hk with h | h
      ·exact HOWN.out k h
      ·omega
     ·have := HEQ.out
      rw [HDR.out, show j + 1 + k = j + (k + 1) by omega] at this
      rw [← this]
      try simp
    case measure => simp [intOf]; omega
  ·have hd := drop_ge (s := s) (i := j) (by omega)
   have hfin : Evs wr 104 (.slice q mm c) R := by
    rw [← heq, hd]
    have : inlF f ins [] pd = flushE pd := by cases f <;> rfl
    rw [this]
    exact hev
   have HFIN := Lib.hid hfin
   have HF := Lib.hid hF
   have HOWN := Lib.hid hown
   clear hfin hF hown hev heq hd
   go_wp2
   go_ret
   exact ⟨_, rfl, HFIN.out, HOWN.out, HF.out⟩
end Go.Proofs.YtbioecifiogffaaGreatDoor
namespace Go.Proofs.YtbioecifiogffaaGreatDoor
open Go.RowKit
def WaitAt (w : World) (v : Value) (bs : List UInt8) : Prop :=
 (v = .slice none 0 0 ∧ bs = []) ∨ ∃ (g off cap : Nat) (cur : Array Value), v = .slice (some ⟨g, off, none⟩) bs.length cap ∧ w.heap[g]? = some (.cells cur 5 (0, 0)) ∧ bs.length ≤ cap ∧ off + cap ≤ cur.size ∧ (cur.toList.drop off).take bs.length = Lib.byteCells bs
theorem WaitAt.nil (w : World) : WaitAt w (.slice none 0 0) [] := .inl ⟨rfl, rfl⟩
theorem WaitAt.kept {D : Nat → Prop} {w w' : World} {v : Value} {bs : List UInt8} (h : WaitAt w v bs) (hk : Keeps D w w') (hn : ∀ b, v.ownBlock = some b → ¬ D b) : WaitAt w' v bs := by
 rcases h with h | ⟨g, off, cap, cur, rfl, hg, h1, h2, h3⟩
 ·exact .inl h
 ·exact .inr ⟨g, off, cap, cur, rfl, hk.heap_some hg (hn g rfl), h1, h2, h3⟩
theorem WaitAt.fresh {w w' : World} {v : Value} {bs : List UInt8} (h : WaitAt w v bs) (hk : Fresh w w') : WaitAt w' v bs := h.kept hk (fun _ _ h => h)
theorem WaitAt.lt {w : World} {v : Value} {bs : List UInt8} (h : WaitAt w v bs) {b : Nat} (hb : v.ownBlock = some b) : b < w.heap.size := by
 rcases h with ⟨rfl, _⟩ | ⟨g, off, cap, cur, rfl, hg, _⟩
 ·cases hb
 ·cases hb; exact (Array.getElem?_eq_some_iff.1 hg).1
theorem WaitAt.ne {w : World} {v : Value} {bs : List UInt8} {b : Nat} {cs : Array Value} {t : TypeId} {fr : Nat × Nat} (h : WaitAt w v bs) (hb : w.heap[b]? = some (.cells cs t fr)) (hne : t ≠ 5) : ¬ v.ownBlock = some b := by
 intro e
 rcases h with ⟨rfl, _⟩ | ⟨g, off, cap, cur, rfl, hg, _⟩
 ·cases e
 ·cases e
  rw [hb] at hg
  cases hg
  exact hne rfl
theorem WaitAt.form {w : World} {v : Value} {bs : List UInt8} (h : WaitAt w v bs) : ∃ a cap, v = .slice a bs.length cap ∧ bs.length ≤ cap := by
 rcases h with ⟨rfl, rfl⟩ | ⟨g, off, cap, cur, rfl, hg, h1, _⟩
 ·exact ⟨_, _, rfl, Nat.le_refl _⟩
 ·exact ⟨_, _, rfl, h1⟩
theorem WaitAt.cells {w : World} {a : Option Addr} {m cap : Nat} {bs : List UInt8} (h : WaitAt w (.slice a m cap) bs) : ∀ ad, a = some ad → ∀ (j : Nat) (u : Value), (Lib.byteCells bs)[j]? = some u → w.cell? (ad.add j) = some u := by
 intro ad had j u hu
 rcases h with ⟨h0, h1⟩ | ⟨g, off, cap', cur, he, hg, h1, h2, h3⟩
 ·subst h1; simp [Lib.byteCells] at hu
 ·cases he
  cases had
  rw [Addr.add_lit, Lib.cell_of_heap hg]
  rw [← h3, List.getElem?_take] at hu
  split at hu
  ·rw [List.getElem?_drop] at hu
   simpa using hu
  ·cases hu
theorem WaitAt.cut {w : World} {g off n cap : Nat} {bs : List UInt8} (h : WaitAt w (.slice (some ⟨g, off, none⟩) n cap) bs) (k : Nat) (hk : k ≤ bs.length) : WaitAt w (.slice (if cap = k then some ⟨g, off, none⟩ else some ⟨g, off + k, none⟩) (bs.length - k) (cap - k)) (bs.drop k) := by
 rcases h with ⟨h0, _⟩ | ⟨g', off', cap', cur, he, hg, h1, h2, h3⟩
 ·cases h0
 ·cases he
  by_cases hc : cap = k
  ·subst hc
   have hl : bs.length = cap := by omega
   rw [if_pos rfl]
   exact .inr ⟨g, off, cap - cap, cur, by simp, hg, by simp; omega, by omega, by simp [Lib.byteCells]; simp [hl]⟩
  ·rw [if_neg hc]
   refine .inr ⟨g, off + k, cap - k, cur, by simp, hg, by simp; omega, by omega, ?_⟩
   have h4 := congrArg (List.drop k) h3
   rw [List.drop_take, List.drop_drop] at h4
   rw [List.length_drop, h4]
   simp [Lib.byteCells]
theorem run_append_off_string {P : Program} (w : World) (t u ty e : TypeId) (i : TypeInfo) (ht : P.underlying t = some (.slice e)) (hu : P.underlying u = some .string) (hi : P.info? e = some i) (hs1 : i.size = 1)
 (g off sLen sCap : Nat) (cur : Array Value) (hg : w.heap[g]? = some (.cells cur e (0, 0))) (s : ByteArray)
 (hroom : sLen + s.size ≤ sCap) (hfit : off + sLen + s.size ≤ cur.size) :
 (Builtin.append_ #[t, u] ty #[.slice (some ⟨g, off, none⟩) sLen sCap, .string s]).run P w =
  .ok (.slice (some ⟨g, off, none⟩) (sLen + s.size) sCap) (w.setRow g (cur.toList.take (off + sLen) ++ Lib.strCells s ++ cur.toList.drop (off + sLen + s.size)).toArray) := by
 have hf := Lib.run_firstCells_string (P := P) w 1 s
 have hst := run_storeCells_at P g (off + sLen) e (Lib.strCells s) 0 cur w hg (by simpa [Lib.strCells_length] using hfit) (Lib.strCells_oneCell s)
 simp only [Nat.add_zero, Lib.strCells_length] at hst
 simp [Builtin.append_, run_underlying ht, run_underlying hu, sizeOf, typeInfo, hi, hs1, Builtin.lenOf, hroom, hf, Addr.add_lit, hst]
theorem strCells_bytes (s : ByteArray) : Lib.strCells s = Lib.byteCells s.data.toList := rfl
theorem run_append_wait {P : Program} (w : World) {t u ty : TypeId} {i : TypeInfo} (ht : P.underlying t = some (.slice 5)) (hu : P.underlying u = some .string) (hi : P.info? 5 = some i) (hz : i.zero = some (.int .u8 0)) (hs1 : i.size = 1) (hby : i.bytes = 1)
 {v : Value} {bs : List UInt8} (h : WaitAt w v bs) (s : ByteArray) (hb : bs.length + s.size ≤ 1099511627776) :
 ∃ v' w', (Builtin.append_ #[t, u] ty #[v, .string s]).run P w = .ok v' w' ∧ WaitAt w' v' (bs ++ s.data.toList) ∧ Grow w v v' ∧ Keeps (fun k => v.ownBlock = some k) w w' := by
 have hsl : s.data.toList.length = s.size := by simp
 rcases h with ⟨rfl, rfl⟩ | ⟨g, off, cap, cur, rfl, hg, h1, h2, h3⟩
 ·obtain ⟨v', w', hr, ho, hgr, -⟩ := Lib.run_append_own_string (P := P) w w.heap.size t u ty 5 i ht hu hi hz hs1 hby (.slice none 0 0) 0 [] (World.ownsRow_nil _ _ _ _) s (by unfold maxLen; omega) (by omega) (Nat.le_refl _)
  refine ⟨v', w', hr, ?_, ?_, (Keeps.refl _ w).grown hgr (fun k e _ => e.symm ▸ (by cases e))⟩
  ·rw [List.nil_append]
   rcases ho.2 with ⟨rfl, h0⟩ | ⟨g, cap, cur, rfl, -, hg, hc, -, hcs, htk⟩
   ·exact .inl ⟨rfl, List.eq_nil_of_length_eq_zero (by omega)⟩
   ·refine .inr ⟨g, 0, cap, cur, by rw [hsl, Nat.zero_add], hg, by omega, by omega, ?_⟩
    rw [List.drop_zero, hsl, ← strCells_bytes]
    simpa using htk
  ·intro k hk
   rcases ho.2 with ⟨rfl, h0⟩ | ⟨g, cap, cur, rfl, hb2, hg, -⟩
   ·cases hk
   ·cases hk; exact .inr hb2
 ·by_cases hroom : bs.length + s.size ≤ cap
  ·have hr := run_append_off_string (P := P) w t u ty 5 i ht hu hi hs1 g off bs.length cap cur hg s hroom (by omega)
   refine ⟨_, _, hr, .inr ⟨g, off, cap, _, by rw [List.length_append, hsl], setRow_heap w g cur _ _ _ hg, by rw [List.length_append, hsl]; exact hroom, ?_, ?_⟩, fun k hk => .inl hk, ⟨rfl, rfl, rfl, by simp, fun k _ hk => setRow_other w g k _ (fun e => hk (by simp [Value.ownBlock, e]))⟩⟩
   ·simp only [List.size_toArray, List.length_append, List.length_take, List.length_drop, Array.length_toList, Lib.strCells_length]
    omega
   ·rw [List.length_append, hsl, Lib.byteCells_append, ← h3, ← strCells_bytes]
    have hl1 : (cur.toList.take (off + bs.length)).length = off + bs.length := by simp; omega
    have e1 : (cur.toList.take (off + bs.length)).drop off = (cur.toList.drop off).take bs.length := by rw [List.drop_take]; congr 1; omega
    simp only [List.append_assoc]
    rw [List.drop_append_of_le_length (by omega), e1, ← List.append_assoc, List.take_append_of_le_length (by simp [Lib.strCells_length]; omega), List.take_of_length_le (by simp [Lib.strCells_length]; omega)]
  ·have holds : ∀ j u, (Lib.byteCells bs)[j]? = some u → w.cell? ((⟨g, off, none⟩ : Addr).add j) = some u := WaitAt.cells (.inr ⟨g, off, cap, cur, rfl, hg, h1, h2, h3⟩) _ rfl
   have hr := Lib.run_append_grow_string (P := P) w t u ty 5 i (.int .u8 0) ht hu hi hz ⟨g, off, none⟩ bs.length cap (Lib.byteCells bs) (by rw [hs1]; simp [Lib.byteCells]) holds s (by omega) (by omega) (by rw [hby]; exact growslice_fits (by omega) (by omega))
   have hge := grownCap_ge w (bs.length + s.size) cap 5
   refine ⟨_, _, hr, .inr ⟨w.heap.size, 0, _, _, by rw [List.length_append, hsl], heap_alloc_new w.drew _, by rw [List.length_append, hsl]; exact hge, ?_, ?_⟩, fun k hk => ?_, ⟨rfl, rfl, rfl, by simp, fun k hk _ => heap_alloc_old w.drew _ hk⟩⟩
   ·have hz1 : (Value.int IntKind.u8 0).cells.size = 1 := rfl
    simp only [Array.size_append, List.size_toArray, size_zeroCells, hz1, Lib.strCells_length]
    simp [Lib.byteCells]
    omega
   ·rw [List.drop_zero, List.length_append, hsl, Lib.byteCells_append, ← strCells_bytes]
    simp only [Array.toList_append, List.append_assoc]
    rw [← List.append_assoc, List.take_append_of_le_length (by simp [Lib.strCells_length, Lib.byteCells]), List.take_of_length_le (by simp [Lib.strCells_length, Lib.byteCells])]
   ·right
    have hk2 : w.heap.size = k := by simpa [Value.ownBlock] using hk
    omega
theorem wpList_append_wait {P : Program} (w : World) {ops : Array Oper} {rest : List Oper} {o : Oper} {a : Act} {Q : Exit → Act → World → Prop} (hgd : o.guard = none) (sl x : Operand) (t u : TypeId)
 (ho : o.op = .call { callee := .builtin .append, args := #[sl, x], argTypes := #[t, u] }) (ht : P.underlying t = some (.slice 5)) (hu : P.underlying u = some .string) (hi : (P.info? 5).map (fun i => (i.zero, i.size, i.bytes)) = some (some (.int .u8 0), 1, 1))
 {v : Value} {bs : List UInt8} (h : WaitAt w v bs) (hs : a.eval sl = v) (s : ByteArray) (hx : a.eval x = .string s) (hb : bs.length + s.size ≤ 1099511627776)
 (hK : ∀ v' w', WaitAt w' v' (bs ++ s.data.toList) → Grow w v v' → Keeps (fun k => v.ownBlock = some k) w w' → wpList P ops Q rest (a.put o.dst v') w') : wpList P ops Q (o :: rest) a w := by
 refine wpList_plain hgd fun K hK' => ?_
 obtain ⟨i, hi', hz, h2, h3⟩ := info_parts hi
 obtain ⟨v', w', hr, r1, r2, r3⟩ := run_append_wait (P := P) w (ty := o.type) ht hu hi' hz h2 h3 h s hb
 unfold Oper.wp execOp
 simp only [ho, resolve, invoke, builtin, Sem.run_bind, Sem.run_pure, Result.andThen_ok, List.map_toArray, List.map_cons, List.map_nil, hs, hx, hr]
 exact hK' _ _ (hK v' w' r1 r2 r3)
end Go.Proofs.YtbioecifiogffaaGreatDoor
