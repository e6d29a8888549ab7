/- Small laws of no program, more: append onto an owned row as a step of a region. No condition. -/
import Derived.Test.YtbioecifiogffaaDoorBase
namespace Go.Proofs.YtbioecifiogffaaDoor
open Go.RowKit

theorem heap_setCell_congr {A B : World} {p : Addr} {v : Value} (h : A.heap = B.heap) : (A.setCell p v).heap = (B.setCell p v).heap := by simp [World.setCell, h]

/-- The walk's world under a name. -/
theorem name_world {P : Program} {c : Code} {Q : Exit → Act → World → Prop} {a : Act} {w : World} (h : ∀ X, X = w → Code.wp P c Q a X) : Code.wp P c Q a w := h w rfl

theorem RowIs.facts {w : World} {p : Option Addr} {c g : Nat} {e : TypeId} {size n m : Nat} {xs : List Value} (h : RowIs w (.slice p m c) g e size n xs) : n ≤ c ∧ (p = none → n = 0 ∧ c = 0) := by
  rcases h.1.2 with ⟨h0, h1⟩ | ⟨g', cap, cur, hv, hb, hgg, h2, _⟩
  · cases h0
    exact ⟨by omega, fun _ => ⟨h1, rfl⟩⟩
  · cases hv
    exact ⟨h2, fun e => by cases e⟩

/-- The same as a step of a region that draws its order. -/
theorem step_append_row {P : Program} (w : World) {ops : Array Oper} {o : Oper} {a : Act} {K : Act → World → Prop} {Q : Exit → Act → World → Prop} {E : Prop}
    (hg : o.guard = none) (s x : Operand) (t : TypeId) (hop : o.op = Op.call { callee := Callee.builtin Builtin.append, args := #[s, x], argTypes := #[t, t] })
    (e : TypeId) (i : TypeInfo) (z : Value) (size bytes : Nat) (ht : P.underlying t = some (.slice e)) (hi : P.info? e = some i) (hz : i.zero = some z)
    (hsize : i.size = size) (hby : i.bytes = bytes) (hzs : z.cells.size = size) (hsz : 0 < size)
    (v : Value) (gb n : Nat) (xs : List Value) (hs : a.eval s = v) (hrow : RowIs w v gb e size n xs)
    (ao : Option Addr) (m c : Nat) (news : List Value) (hx : a.eval x = .slice ao m c) (hl : news.length = m * size) (hnone : ao = none → m = 0 ∧ c = 0) (hnews : ∀ ad, ao = some ad → ∀ j u, news[j]? = some u → w.cell? (ad.add j) = some u) (h1 : ∀ u ∈ news, u.oneCell' = true)
    (h63 : n + m ≤ maxLen) (hbytes : (n + m) * bytes ≤ 140737488355328)
    (hK : ∀ p c' g' w', RowIs w' (.slice p (n + m) c') g' e size (n + m) (xs ++ news) → (g' = gb ∨ g' = w.heap.size) → Keeps (fun k => v.ownBlock = some k) w w' → K (a.put o.dst (.slice p (n + m) c')) w') :
    if Region.wanted o (yielded ops a.tmps) = true then Oper.wp P o a w K Q else E := by
  have hw : Region.wanted o (yielded ops a.tmps) = true := by simp [Region.wanted, hg]
  rw [if_pos hw]
  obtain ⟨p, c', g', w', hrun, r1, r2, r3⟩ := run_append_row (P := P) w t o.type e i z size bytes ht hi hz hsize hby hzs hsz v gb n xs hrow ao m c news hl hnone hnews h1 h63 hbytes
  unfold Oper.wp
  simp [execOp, hop, resolve, invoke, builtin, hs, hx, hrun, Result.andThen]
  exact hK p c' g' w' r1 r2 r3

end Go.Proofs.YtbioecifiogffaaDoor
