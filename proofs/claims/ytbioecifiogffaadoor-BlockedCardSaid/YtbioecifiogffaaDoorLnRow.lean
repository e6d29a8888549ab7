/- Rows of lines: an owned one, one that is read. No condition. -/
import Derived.Test.YtbioecifiogffaaDoorBlkSpec
import Derived.Test.YtbioecifiogffaaDoorEvRow
namespace Go.Proofs.YtbioecifiogffaaDoor
open Go.RowKit

theorem Tryd.infoStr : (Tryd.prog.info? 9).map (fun i => (i.zero, i.size, i.bytes)) = some (some (.string ⟨#[]⟩), 1, 16) := by kernel_rfl
theorem Tryd.sizeStr (W : World) : (sizeOf (Tryd.prog.elem 41)).run Tryd.prog W = .ok 1 W := by kernel_rfl

def lnCells (l : List Ln) : List Value := l.map fun s => Value.string ⟨s.toArray⟩
theorem lnCells_length (l : List Ln) : (lnCells l).length = l.length * 1 := by simp [lnCells]
theorem lnCells_append (a b : List Ln) : lnCells (a ++ b) = lnCells a ++ lnCells b := by simp [lnCells]
theorem lnCells_get (l : List Ln) (j : Nat) (s : Ln) (h : l[j]? = some s) : (lnCells l)[j]? = some (.string ⟨s.toArray⟩) := by simp [lnCells, h]
theorem lnCells_one (l : List Ln) : ∀ u ∈ lnCells l, u.oneCell' = true := by
  intro u hu
  simp [lnCells] at hu
  obtain ⟨s, _, rfl⟩ := hu
  rfl
/-- The call owns the row v of these lines. -/
def Lns (w : World) (v : Value) (l : List Ln) : Prop := w.ownsRow 0 9 1 v l.length (lnCells l)
theorem Lns.nil (w : World) : Lns w (.slice none 0 0) [] := World.ownsRow_nil _ _ _ _
theorem Lns.fresh {w w' : World} {v : Value} {l : List Ln} (h : Lns w v l) (hk : Fresh w w') : Lns w' v l := own_kept h hk (fun _ _ h => h)
theorem Lns.kept {D : Nat → Prop} {w w' : World} {v : Value} {l : List Ln} (h : Lns w v l) (hk : Keeps D w w') (hn : ∀ k, v.ownBlock = some k → ¬ D k) : Lns w' v l := own_kept h hk hn
theorem Lns.snoc {w : World} {p : Option Addr} {c : Nat} {l : List Ln} {s : Ln} (h : w.ownsRow 0 9 1 (.slice p (l.length + 1) c) (l.length + 1) (lnCells l ++ [.string ⟨s.toArray⟩])) : Lns w (.slice p (l.length + 1) c) (l ++ [s]) := by
  unfold Lns
  rw [lnCells_append, List.length_append]
  exact h
theorem ln_new (w : World) (s : ByteArray) (t : TypeId) : ∀ ad, some (⟨w.heap.size, 0, none⟩ : Addr) = some ad → ∀ j u, [Value.string s][j]? = some u → (w.alloc (.cells #[.string s] t)).cell? (ad.add j) = some u := by
  intro ad had j u hj
  cases had
  match j, hj with
  | 0, hj => simp at hj; subst hj; simp [Addr.add]
theorem str_one (s : ByteArray) : ∀ u ∈ [Value.string s], u.oneCell' = true := fun u hu => by simp at hu; rw [hu]; rfl

/-- v reads as these lines; they lie in block g. -/
def LnAt (w : World) (g : Nat) (v : Value) (l : List Ln) : Prop :=
  ∃ a cap off, v = .slice a l.length cap ∧ l.length ≤ cap ∧ cap ≤ maxLen ∧ (l ≠ [] → a = some ⟨g, off, none⟩ ∧ ∀ j s, l[j]? = some s → w.cell? ⟨g, off + j, none⟩ = some (.string ⟨s.toArray⟩))
theorem LnAt.kept {D : Nat → Prop} {w w' : World} {g : Nat} {v : Value} {l : List Ln} (h : LnAt w g v l) (hk : Keeps D w w') (hg : ¬ D g) : LnAt w' g v l := by
  obtain ⟨a, cap, off, h1, h2, h3, h4⟩ := h
  exact ⟨a, cap, off, h1, h2, h3, fun hne => ⟨(h4 hne).1, fun j s hj => hk.cell_some ((h4 hne).2 j s hj) hg⟩⟩
theorem LnAt.fresh {w w' : World} {g : Nat} {v : Value} {l : List Ln} (h : LnAt w g v l) (hk : Fresh w w') : LnAt w' g v l := h.kept hk (fun h => h)
theorem LnAt.nil (w : World) (g : Nat) : LnAt w g (.slice none 0 0) [] := ⟨none, 0, 0, rfl, Nat.le_refl _, Nat.zero_le _, fun h => absurd rfl h⟩
/-- An owned row is read. -/
theorem Lns.at {w : World} {v : Value} {l : List Ln} (h : Lns w v l) : LnAt w ((v.ownBlock).getD 0) v l := by
  rcases h.2 with ⟨rfl, h0⟩ | ⟨g, cap, cur, rfl, hb, hg, hc, hm, _⟩
  · have : l = [] := List.eq_nil_of_length_eq_zero h0
    subst this
    exact LnAt.nil _ _
  · refine ⟨some ⟨g, 0, none⟩, cap, 0, rfl, hc, hm, fun hne => ⟨rfl, fun j s hj => ?_⟩⟩
    have := World.ownsRow.cells (v := .slice (some ⟨g, 0, none⟩) l.length cap) h (g := g) rfl j _ (lnCells_get l j s hj)
    rw [Addr.add_lit] at this
    exact this
/-- Cut in front. -/
theorem LnAt.cut {w : World} {g : Nat} {v : Value} {l : List Ln} (h : LnAt w g v l) (k : Nat) (hk : k ≤ l.length) :
    ∃ v', (∀ W : World, (Instr.slice 41 v (some (.int .i64 k)) none none).run Tryd.prog W = .ok v' W) ∧ LnAt w g v' (l.drop k) := by
  obtain ⟨a, cap, off, rfl, h2, h3, h4⟩ := h
  refine ⟨.slice (if cap = k then a else a.map (·.add k)) (l.length - k) (cap - k), fun W => ?_, ⟨_, _, off + k, by rw [List.length_drop], by rw [List.length_drop]; omega, by omega, fun hne => ?_⟩⟩
  · have e := run_slice_l (P := Tryd.prog) W 41 a l.length cap (by kernel_rfl) .i64 k (by omega) (by omega)
    rw [e, Tryd.sizeStr W]
    simp only [Result.andThen, sliced]
    simp
  · have hlt : k < l.length := by
      rcases Nat.lt_or_ge k l.length with h' | h'
      · exact h'
      · exact absurd (List.drop_eq_nil_of_le h') hne
    have hne' : l ≠ [] := fun e => by rw [e] at hlt; simp at hlt
    obtain ⟨rfl, hc⟩ := h4 hne'
    refine ⟨by rw [if_neg (by omega)]; simp [Addr.add], fun j s hj => ?_⟩
    rw [List.getElem?_drop] at hj
    have := hc (k + j) s hj
    rw [show off + k + j = off + (k + j) by omega]
    exact this
/-- Cut behind. -/
theorem LnAt.upto {w : World} {g : Nat} {v : Value} {l : List Ln} (h : LnAt w g v l) (k : Nat) (hk : k ≤ l.length) :
    ∃ v', (∀ W : World, (Instr.slice 41 v none (some (.int .i64 k)) none).run Tryd.prog W = .ok v' W) ∧ LnAt w g v' (l.take k) := by
  obtain ⟨a, cap, off, rfl, h2, h3, h4⟩ := h
  refine ⟨.slice (if cap = 0 then a else a.map (·.add 0)) k cap, fun W => ?_, ⟨_, cap, off, by rw [List.length_take, Nat.min_eq_left hk], by rw [List.length_take]; omega, h3, fun hne => ?_⟩⟩
  · have e := run_slice_h (P := Tryd.prog) (a := a) (len := l.length) (cap := cap) (w := W) (t := 41) (by kernel_rfl) .i64 k (by omega) (by omega)
    rw [e, Tryd.sizeStr W]
    simp only [Result.andThen, sliced]
    simp
  · have hne' : l ≠ [] := fun e => by rw [e] at hne; simp at hne
    obtain ⟨rfl, hc⟩ := h4 hne'
    have hl : 0 < l.length := List.length_pos_iff.2 hne'
    exact ⟨by rw [if_neg (by omega)]; simp [Addr.add], fun j s hj => hc j s (by rw [List.getElem?_take] at hj; split at hj; exact hj; cases hj)⟩
/-- A line of it. -/
theorem LnAt.line {w : World} {g : Nat} {v : Value} {l : List Ln} (h : LnAt w g v l) {j : Nat} {s : Ln} (hj : l[j]? = some s) :
    ∃ cap off, v = .slice (some ⟨g, off, none⟩) l.length cap ∧ l.length ≤ cap ∧ cap ≤ maxLen ∧ w.cell? ⟨g, off + j, none⟩ = some (.string ⟨s.toArray⟩) := by
  obtain ⟨a, cap, off, rfl, h2, h3, h4⟩ := h
  have hne : l ≠ [] := fun e => by rw [e] at hj; simp at hj
  obtain ⟨rfl, hc⟩ := h4 hne
  exact ⟨cap, off, rfl, h2, h3, hc j s hj⟩
theorem LnAt.form {w : World} {g : Nat} {v : Value} {l : List Ln} (h : LnAt w g v l) : ∃ a cap, v = .slice a l.length cap := by
  obtain ⟨a, cap, off, rfl, _⟩ := h
  exact ⟨a, cap, rfl⟩
/-- Cut in front, as the walk spells it. -/
theorem LnAt.cutv {w : World} {g off n cap : Nat} {l : List Ln} (h : LnAt w g (.slice (some ⟨g, off, none⟩) n cap) l) (k : Nat) (hk : k ≤ l.length) {m : Nat} (hm : m = n - k) : LnAt w g (.slice (if cap = k then some ⟨g, off, none⟩ else some ⟨g, off + k, none⟩) m (cap - k)) (l.drop k) := by
  obtain ⟨a, cap', off', he, h2, h3, h4⟩ := h
  cases he
  subst hm
  refine ⟨_, _, off + k, by rw [List.length_drop], by rw [List.length_drop]; omega, by omega, fun hne => ?_⟩
  have hlt : k < l.length := by
    rcases Nat.lt_or_ge k l.length with h' | h'
    · exact h'
    · exact absurd (List.drop_eq_nil_of_le h') hne
  have hne' : l ≠ [] := fun e => by rw [e] at hlt; simp at hlt
  obtain ⟨ha, hc⟩ := h4 hne'
  cases ha
  refine ⟨by rw [if_neg (by omega)], fun j s hj => ?_⟩
  rw [List.getElem?_drop] at hj
  have := hc (k + j) s hj
  rw [show off + k + j = off + (k + j) by omega]
  exact this
/-- How long a slice is. -/
def slen : Value → Nat
  | .slice _ n _ => n
  | _ => 0
end Go.Proofs.YtbioecifiogffaaDoor
