/- Texts of this proof, joined: Pl1, Pl2, Pl3, Pl4, Wrt3, Wrt4. Conditions: as each theorem names them. -/
import Derived.Test.YtbioecifiogffaaGreatDoorP9
import Derived.Test.YtbioecifiogffaaGreatDoorP4
import Derived.Test.YtbioecifiogffaaGreatDoorP8
import Derived.Test.YtbioecifiogffaaGreatDoorP3
import Derived.Test.YtbioecifiogffaaGreatDoorP2
import Derived.Test.YtbioecifiogffaaGreatDoorP1
import Derived.Laws.ResultCell
import Derived.Laws.Rows
import Derived.OrdersHeld
import Derived.Shelf.RegionOpen
set_option linter.unusedVariables false
set_option linter.unusedSimpArgs false
namespace Go.Proofs.YtbioecifiogffaaGreatDoor
open Go.RowKit
end Go.Proofs.YtbioecifiogffaaGreatDoor
namespace Go.Proofs.YtbioecifiogffaaGreatDoor
open Go.RowKit
end Go.Proofs.YtbioecifiogffaaGreatDoor
namespace Go.Proofs.YtbioecifiogffaaGreatDoor
open Go.RowKit
end Go.Proofs.YtbioecifiogffaaGreatDoor
namespace Go.Proofs.YtbioecifiogffaaGreatDoor
open Go.RowKit
theorem res_two {fn : Func} {p1 p2 t1 t2 : Nat} (h : fn.results = #[.cell p1 t1, .cell p2 t2]) {tmps : Array Value} {P : Program} {w : World} {a1 a2 : Addr} {v1 v2 : Value} (h1 : tmps.getD p1 undef = .pointer (some a1)) (h2 : tmps.getD p2 undef = .pointer (some a2))
    (l1 : (loadVar t1 a1).run P w = .ok v1 w) (l2 : (loadVar t2 a2).run P w = .ok v2 w) : (results fn tmps).run P w = .ok (.tuple #[v1, v2]) w := by
  have h1' : tmps[p1]?.getD undef = .pointer (some a1) := by simpa using h1
  have h2' : tmps[p2]?.getD undef = .pointer (some a2) := by simpa using h2
  simp [results, h, h1', h2', asAddr, l1, l2, Sem.run_bind, Result.andThen]
theorem alloc3 (w : World) (o1 o2 o3 : Obj) : (((w.alloc o1).alloc o2).alloc o3).heap[w.heap.size]? = some o1 ∧ (((w.alloc o1).alloc o2).alloc o3).heap[w.heap.size + 1]? = some o2 ∧ (((w.alloc o1).alloc o2).alloc o3).heap[w.heap.size + 2]? = some o3 := by
  have s1 : (w.alloc o1).heap.size = w.heap.size + 1 := by simp
  have s2 : ((w.alloc o1).alloc o2).heap.size = w.heap.size + 2 := by simp
  have h1 := heap_alloc_new w o1
  have h2 := heap_alloc_new (w.alloc o1) o2
  have h3 := heap_alloc_new ((w.alloc o1).alloc o2) o3
  rw [s1] at h2
  rw [s2] at h3
  exact ⟨(Below.heap_alloc _ _ _ (by omega)).trans ((Below.heap_alloc _ _ _ (by omega)).trans h1), (Below.heap_alloc _ _ _ (by omega)).trans h2, h3⟩
set_option maxHeartbeats 1000000 in
set_option maxRecDepth 100000 in
theorem pAll_any (P : Nat) (w : World) :
    Calls Tryz.prog 47 #[.pointer (some ⟨P, 0, none⟩)] w fun e w' => e = .returned (fnV 74 #[.pointer (some ⟨w.heap.size, 0, none⟩)]) ∧ w'.heap[w.heap.size]? = some (.cells #[.pointer (some ⟨P, 0, none⟩)] 91 (0, 0)) ∧ Fresh w w' ∧ w'.heap.size = w.heap.size + 1 := by
  have hmf : ∀ (fn : Fn) (first cap : Array Value) (w : World), (Instr.makeFunc fn first cap).run Tryz.prog w = .ok (.func fn first cap) w := fun _ _ _ _ => rfl
  go_enter Tryz.func47, Tryz.ntmps47
  go_wp2
  go_ret
  exact ⟨rfl, heap_alloc_new w _, (Keeps.refl _ w).alloc _, by simp⟩
end Go.Proofs.YtbioecifiogffaaGreatDoor
namespace Go.Proofs.YtbioecifiogffaaGreatDoor
open Go.RowKit
set_option maxHeartbeats 1000000 in
set_option maxRecDepth 100000 in
theorem hNew_any (S : Nat) (s0 : Option Snk) (w : World) :
    Calls Tryz.prog 46 #[toV S s0] w fun e w' => e = .returned (.pointer (some ⟨w.heap.size, 0, none⟩)) ∧ w' = w.alloc (.cells #[toV S s0, .slice none 0 0, .int .i64 0] 151) := by
  cases s0 with
  | none =>
    unfold toV
    simp only
    go_enter Tryz.func46, Tryz.ntmps46
    go_wp2
    go_ret
    exact ⟨rfl, rfl⟩
  | some sk =>
    unfold toV
    simp only
    go_enter Tryz.func46, Tryz.ntmps46
    go_wp2
    go_ret
    exact ⟨rfl, rfl⟩
set_option maxHeartbeats 1000000 in
set_option maxRecDepth 100000 in
theorem hCount_any (C : Nat) (n : Int) (w : World) (h : w.cell? ⟨C, 2, none⟩ = some (.int .i64 n)) :
    Calls Tryz.prog 50 #[.pointer (some ⟨C, 0, none⟩)] w fun e w' => e = .returned (.int .i64 n) ∧ w' = w := by
  go_enter Tryz.func50, Tryz.ntmps50
  go_wp2
  go_ret
  exact ⟨rfl, rfl⟩
theorem WS.count {w0 : World} {S C : Nat} {tv : Value} {w : World} {bs : List UInt8} {n : Nat} {s : Option Snk} {o : Nat → Prop} (h : WS w0 S C tv w bs n s o) : w.cell? ⟨C, 2, none⟩ = some (.int .i64 n) := by
  obtain ⟨a, cap, hC⟩ := h.blk
  rw [Lib.cell_of_heap hC]; rfl
theorem ws_new {w0 w : World} {S C : Nat} {tv : Value} {s0 : Option Snk} (hC : w.heap[C]? = some (.cells #[toV S s0, .slice none 0 0, .int .i64 0] 151 (0, 0))) (hF : Fresh w0 w) (hC0 : w0.heap.size ≤ C)
    (hs : ∀ sk, s0 = some sk → SnkAt w S tv (.slice none 0 0) sk ∧ sk.none = false ∧ IntsAt w0 tv sk.takes ∧ sk.takes.length ≤ 1048576 ∧ w0.heap.size ≤ S) :
    WS w0 S C tv w [] 0 s0 (fun b => b = C ∨ (s0 ≠ none ∧ b = S)) := by
  refine ⟨.slice none 0 0, .slice none 0 0, hC, WaitAt.nil _, fun sk h => ⟨(hs sk h).1, (hs sk h).2.1, (hs sk h).2.2.1, (hs sk h).2.2.2.1⟩, fun b h => (by cases h), fun b => ?_, hF, fun b hb => ?_⟩
  · simp [Value.ownBlock]
  · rcases hb with h | ⟨h1, h2⟩
    · omega
    · cases s0 with
      | none => exact absurd rfl h1
      | some sk => have := (hs sk rfl).2.2.2.2; omega
theorem par_new {aL aI aS : Addr} {w0 w3 w4 : World} {b : Nat} {fv : Value} {c : ComeL} {G : Nat → Prop} (hF : Fresh w0 w3) (hP4 : w4.heap[w3.heap.size + 1]? = some (.cells #[fv, .bool false, .nilIface, .slice none 0 0, .string ⟨#[]⟩, .map (some w3.heap.size), .slice none 0 0] 144 (0, 0)))
    (hm4 : w4.heap[w3.heap.size]? = some (.map #[] 0)) (hk4 : Fresh w3 w4) (hz4 : w4.heap.size = w3.heap.size + 2) (hb : w0.heap.size ≤ b ∧ b < w3.heap.size)
    (hc : (c.err = 0 ∨ c.err = 1 ∨ c.err = 2 ∨ c.err = 4) ∧ c.text.length ≤ 1200) (h0 : w3.cell? ⟨b, 4, none⟩ = some (.int .i64 0)) (hG : ∀ j, G j → w0.heap.size ≤ j ∧ j < w3.heap.size)
    (hs : ∀ o : Nat → Prop, (∀ j, G j → o j) → SrcS w3 (w3.heap.size + 1) b fv c o) :
    Par aL aI aS w0 w4 (w3.heap.size + 1) w3.heap.size b c false (comeE c) (fun j => j = w3.heap.size + 1 ∨ j = w3.heap.size ∨ j = b ∨ G j) := by
  have hs0 := hF.size
  refine ⟨hF.tr hk4, fun j hj => ?_, .inl rfl, .inr (.inl rfl), .inr (.inr (.inl rfl)), by omega, by omega, hc, .inl ⟨rfl, ⟨fv, hP4, ?_⟩, hm4, hk4.cell_some h0 (fun h => h), rfl⟩⟩
  · rcases hj with h | h | h | h
    · omega
    · omega
    · omega
    · have := hG j h; omega
  · exact (hs _ (fun j hj => .inr (.inr (.inr hj)))).kept hk4 (fun h => h) (fun _ h => h.elim)
theorem ErrIs.of_werr {aL aI aS : Addr} {e : WEnd} {ev : Value} {n : Nat} {w : World} (h : WErr aS e ev n w) : ErrIs aL aI aS w ev (wErr e) (if e = .fine then 0 else n) := by
  cases e with
  | fine => exact .inl ⟨rfl, rfl, h⟩
  | sink => exact .inr (.inr (.inr (.inl ⟨rfl, h⟩)))
  | write => exact .inr (.inr (.inr (.inr (.inr ⟨rfl, h⟩))))
theorem ErrIs.fresh {aL aI aS : Addr} {W W' : World} {v : Value} {code n : Nat} (h : ErrIs aL aI aS W v code n) (hk : Fresh W W') : ErrIs aL aI aS W' v code n := by
  rcases h with h | h | h | ⟨h1, a, h2, h3⟩ | ⟨h1, a, c, x, h2, h3, h4⟩ | ⟨h1, a, c, x, h2, h3, h4⟩
  · exact .inl h
  · exact .inr (.inl h)
  · exact .inr (.inr (.inl h))
  · exact .inr (.inr (.inr (.inl ⟨h1, a, h2, hk.heap_some h3 (fun h => h)⟩)))
  · exact .inr (.inr (.inr (.inr (.inl ⟨h1, a, c, x, h2, hk.heap_some h3 (fun h => h), hk.heap_some h4 (fun h => h)⟩))))
  · exact .inr (.inr (.inr (.inr (.inr ⟨h1, a, c, x, h2, hk.heap_some h3 (fun h => h), hk.heap_some h4 (fun h => h)⟩))))
theorem ErrIs.kept2 {aL aI aS : Addr} {D : Nat → Prop} {W W' : World} {v : Value} {code n : Nat} (h : ErrIs aL aI aS W v code n) (hk : Keeps D W W')
    (hD : ∀ a x, D a → W.heap[a]? ≠ some (.cells x 125 (0, 0)) ∧ W.heap[a]? ≠ some (.cells x 123 (0, 0)) ∧ W.heap[a]? ≠ some (.cells x 297 (0, 0))) : ErrIs aL aI aS W' v code n := by
  rcases h with h | h | h | ⟨h1, a, h2, h3⟩ | ⟨h1, a, c, x, h2, h3, h4⟩ | ⟨h1, a, c, x, h2, h3, h4⟩
  · exact .inl h
  · exact .inr (.inl h)
  · exact .inr (.inr (.inl h))
  · exact .inr (.inr (.inr (.inl ⟨h1, a, h2, hk.heap_some h3 (fun h => (hD a _ h).1 h3)⟩)))
  · exact .inr (.inr (.inr (.inr (.inl ⟨h1, a, c, x, h2, hk.heap_some h3 (fun h => (hD a _ h).2.1 h3), hk.heap_some h4 (fun h => (hD c _ h).2.2 h4)⟩))))
  · exact .inr (.inr (.inr (.inr (.inr ⟨h1, a, c, x, h2, hk.heap_some h3 (fun h => (hD a _ h).1 h3), hk.heap_some h4 (fun h => (hD c _ h).2.2 h4)⟩))))
theorem ErrIs.three {aL aI aS : Addr} {W : World} {v : Value} {code n : Nat} (h : ErrIs aL aI aS W v code n) : (code = 0 ∧ n = 0 ∧ v = .nilIface) ∨ (code ≠ 0 ∧ ((∃ a, v = .iface 283 (.pointer (some a))) ∨ (∃ a, v = .iface 124 (.pointer (some ⟨a, 0, Option.none⟩))) ∨ ∃ a, v = .iface 117 (.pointer (some ⟨a, 0, Option.none⟩)))) := by
  rcases h with h | ⟨h1, h2, h3⟩ | ⟨h1, h2, h3⟩ | ⟨h1, a, h2, h3⟩ | ⟨h1, a, c, x, h2, h3, h4⟩ | ⟨h1, a, c, x, h2, h3, h4⟩
  · exact .inl h
  · exact .inr ⟨by omega, .inl ⟨_, h3⟩⟩
  · exact .inr ⟨by omega, .inl ⟨_, h3⟩⟩
  · exact .inr ⟨by omega, .inr (.inl ⟨_, h2⟩)⟩
  · exact .inr ⟨by omega, .inr (.inr ⟨_, h2⟩)⟩
  · exact .inr ⟨by omega, .inr (.inl ⟨_, h2⟩)⟩
theorem Of_err (aL aI aS : Addr) (w : World) (v : Value) (code n : Nat) (h : LaidVars aL aI aS w) (he : ErrIs aL aI aS w v code n) :
    Calls Tryz.prog 30 #[v] w fun e w' => e = .returned (.agg #[.int .i64 code, .int .i64 n]) ∧ Fresh w w' := by
  rcases he with ⟨rfl, rfl, rfl⟩ | ⟨rfl, rfl, rfl⟩ | ⟨rfl, rfl, rfl⟩ | ⟨rfl, a, rfl, ha⟩ | ⟨rfl, a, c, x, rfl, ha, _⟩ | ⟨rfl, a, c, x, rfl, ha, _⟩
  · exact Of_nil w
  · exact Of_long aL aI aS w h
  · exact Of_idle aL aI aS w h
  · exact Of_sink aL aI aS a n w h ha
  · exact Of_read aL aI aS a c n w h ha
  · exact Of_write aL aI aS a c n w h ha
end Go.Proofs.YtbioecifiogffaaGreatDoor
namespace Go.Proofs.YtbioecifiogffaaGreatDoor
open Go.RowKit
theorem WS.lt {w0 : World} {S C : Nat} {tv : Value} {w : World} {bs : List UInt8} {n : Nat} {s : Option Snk} {o : Nat → Prop} (h : WS w0 S C tv w bs n s o) : ∀ b, o b → b < w.heap.size := by
  obtain ⟨v, gv, hC, hw, hsk, hvg, ho, -, -⟩ := h
  intro b hb
  rcases (ho b).1 hb with h1 | h1 | ⟨h1, h2⟩
  · rw [h1]; exact (Array.getElem?_eq_some_iff.1 hC).1
  · exact hw.lt h1
  · cases s with
    | none => exact absurd rfl h1
    | some sk =>
      obtain ⟨q, -⟩ := hsk sk rfl
      rcases h2 with h2 | h2
      · rw [h2]; exact (Array.getElem?_eq_some_iff.1 q.1).1
      · exact own_lt q.2 h2
theorem WS.keep {D : Nat → Prop} {w0 : World} {S C : Nat} {tv : Value} {w w' : World} {bs : List UInt8} {n : Nat} {s : Option Snk} {o : Nat → Prop} (h : WS w0 S C tv w bs n s o) (hk : Keeps D w w') (hD : ∀ b, D b → ¬ o b) (h0 : ∀ b, D b → w0.heap.size ≤ b) : WS w0 S C tv w' bs n s o := by
  obtain ⟨v, gv, hC, hw, hsk, hvg, ho, hF, hge⟩ := h
  refine ⟨v, gv, hk.heap_some hC (fun h => hD _ h ((ho _).2 (.inl rfl))), hw.kept hk (fun b hb h => hD _ h ((ho _).2 (.inr (.inl hb)))), fun sk hs => ?_, hvg, ho, hF.trans hk (fun j h1 h2 => by have := h0 j h2; omega), hge⟩
  obtain ⟨q1, q2, q3, q4⟩ := hsk sk hs
  have hne : s ≠ none := by rw [hs]; simp
  exact ⟨q1.kept hk (fun h => hD _ h ((ho _).2 (.inr (.inr ⟨hne, .inl rfl⟩)))) (fun b hb h => hD _ h ((ho _).2 (.inr (.inr ⟨hne, .inr hb⟩)))), q2, q3, q4⟩
theorem WS.snk {w0 : World} {S C : Nat} {tv : Value} {w : World} {bs : List UInt8} {n : Nat} {s : Option Snk} {o : Nat → Prop} (h : WS w0 S C tv w bs n s o) : ∀ sk, s = some sk → ∃ gv, SnkAt w S tv gv sk := by
  obtain ⟨v, gv, hC, hw, hsk, -⟩ := h
  exact fun sk hs => ⟨gv, (hsk sk hs).1⟩
theorem WS.fr {w0 : World} {S C : Nat} {tv : Value} {w : World} {bs : List UInt8} {n : Nat} {s : Option Snk} {o : Nat → Prop} (h : WS w0 S C tv w bs n s o) : Fresh w0 w ∧ ∀ b, o b → w0.heap.size ≤ b := by
  obtain ⟨v, gv, hC, hw, hsk, hvg, ho, hF, hge⟩ := h
  exact ⟨hF, hge⟩
theorem wide_depth : Fence.wide.depth = none := rfl
theorem wide_fn (f : FuncId) : Fence.wide.fn f = True := rfl
theorem WErr.kept2 {aS : Addr} {D : Nat → Prop} {W W' : World} {e : WEnd} {v : Value} {n : Nat} (h : WErr aS e v n W) (hk : Keeps D W W')
    (hD : ∀ a x, D a → W.heap[a]? ≠ some (.cells x 125 (0, 0)) ∧ W.heap[a]? ≠ some (.cells x 297 (0, 0))) : WErr aS e v n W' := by
  cases e with
  | fine => exact h
  | sink =>
    obtain ⟨a, h2, h3⟩ := h
    exact ⟨a, h2, hk.heap_some h3 (fun h => (hD a _ h).1 h3)⟩
  | write =>
    obtain ⟨a, c, x, h2, h3, h4⟩ := h
    exact ⟨a, c, x, h2, hk.heap_some h3 (fun h => (hD a _ h).1 h3), hk.heap_some h4 (fun h => (hD c _ h).2 h4)⟩
theorem WErr.form {aS : Addr} {W : World} {e : WEnd} {v : Value} {n : Nat} (h : WErr aS e v n W) (he : e ≠ .fine) : ∃ a, v = .iface 124 (.pointer (some ⟨a, 0, none⟩)) := by
  cases e with
  | fine => exact absurd rfl he
  | sink => obtain ⟨a, h2, -⟩ := h; exact ⟨a, h2⟩
  | write => obtain ⟨a, c, x, h2, -⟩ := h; exact ⟨a, h2⟩
theorem load_int {w : World} {a : Addr} {v : Value} (h : w.cell? a = some v) : (loadVar 3 a).run Tryz.prog w = .ok v w := by go_simp
theorem load_err {w : World} {a : Addr} {v : Value} (h : w.cell? a = some v) : (loadVar 75 a).run Tryz.prog w = .ok v w := by go_simp
theorem cells_ne {W : World} {a : Nat} {c x : Array Value} {t u : TypeId} (h : W.heap[a]? = some (.cells c t (0, 0))) (hne : t ≠ u) : W.heap[a]? ≠ some (.cells x u (0, 0)) := fun h2 => by
  rw [h] at h2
  injection h2 with h2
  injection h2 with _ h2 _
  exact hne h2
theorem loop_ne {W : World} {a : Nat} {r : Loop} {x : Array Value} {u : TypeId} (h : W.heap[a]? = some (.loop r)) : W.heap[a]? ≠ some (.cells x u (0, 0)) := fun h2 => by
  rw [h] at h2
  cases h2
structure WA (Bw C l D R0 R1 : Nat) (rec : Loop) (w : World) : Prop where
  bw : w.heap[Bw]? = some (.cells #[.pointer (some ⟨C, 0, none⟩)] 109 (0, 0))
  l : w.heap[l]? = some (.loop rec)
  d : w.heap[D]? = some (.deferred (some []))
  r0 : w.heap[R0]? = some (.cells #[.int .i64 0] 3 (0, 0))
  r1 : w.heap[R1]? = some (.cells #[.nilIface] 75 (0, 0))
def WO (Bw l D R0 R1 : Nat) (b : Nat) : Prop := b = Bw ∨ b = l ∨ b = D ∨ b = R0 ∨ b = R1
theorem WA.keep {Bw C l D R0 R1 : Nat} {rec : Loop} {E : Nat → Prop} {w w' : World} (h : WA Bw C l D R0 R1 rec w) (hk : Keeps E w w') (hE : ∀ b, E b → ¬ WO Bw l D R0 R1 b) : WA Bw C l D R0 R1 rec w' :=
  ⟨hk.heap_some h.bw (fun h => hE _ h (.inl rfl)), hk.heap_some h.l (fun h => hE _ h (.inr (.inl rfl))), hk.heap_some h.d (fun h => hE _ h (.inr (.inr (.inl rfl)))), hk.heap_some h.r0 (fun h => hE _ h (.inr (.inr (.inr (.inl rfl))))), hk.heap_some h.r1 (fun h => hE _ h (.inr (.inr (.inr (.inr rfl)))))⟩
theorem WA.lt {Bw C l D R0 R1 : Nat} {rec : Loop} {w : World} (h : WA Bw C l D R0 R1 rec w) : ∀ b, WO Bw l D R0 R1 b → b < w.heap.size := by
  rintro b (h1 | h1 | h1 | h1 | h1) <;> rw [h1]
  · exact (Array.getElem?_eq_some_iff.1 h.bw).1
  · exact (Array.getElem?_eq_some_iff.1 h.l).1
  · exact (Array.getElem?_eq_some_iff.1 h.d).1
  · exact (Array.getElem?_eq_some_iff.1 h.r0).1
  · exact (Array.getElem?_eq_some_iff.1 h.r1).1
theorem WA.ne {Bw C l D R0 R1 : Nat} {rec : Loop} {w : World} (h : WA Bw C l D R0 R1 rec w) : Bw ≠ l ∧ l ≠ D ∧ R0 ≠ l ∧ R1 ≠ l ∧ R0 ≠ R1 ∧ Bw ≠ R0 ∧ Bw ≠ R1 ∧ D ≠ R0 ∧ D ≠ R1 ∧ D ≠ Bw := by
  have q : ∀ {a b : Nat} {x y : Obj}, w.heap[a]? = some x → w.heap[b]? = some y → x ≠ y → a ≠ b := fun h1 h2 h3 e => by
    subst e; rw [h1] at h2; exact h3 (Option.some.inj h2)
  refine ⟨q h.bw h.l (by simp), q h.l h.d (by simp), q h.r0 h.l (by simp), q h.r1 h.l (by simp), q h.r0 h.r1 ?_, q h.bw h.r0 ?_, q h.bw h.r1 ?_, q h.d h.r0 (by simp), q h.d h.r1 (by simp), q h.d h.bw (by simp)⟩
  all_goals (intro e; injection e with e1 e2 e3; revert e2; decide)
def wsT (s0 : Option Snk) (L : List Ev) : WEnd × List UInt8 × Nat × Option Snk := wst (L.map htm) [] 0 s0
def WJ (w0 : World) (S C Bw l D R0 R1 : Nat) (tv : Value) (rec : Loop) (s0 : Option Snk) (w : World) (L : List Ev) (o : Nat → Prop) : Prop :=
  (wsT s0 L).1 = .fine ∧ WA Bw C l D R0 R1 rec w ∧ ∃ oj, WS w0 S C tv w (wsT s0 L).2.1 (wsT s0 L).2.2.1 (wsT s0 L).2.2.2 oj ∧ (∀ b, o b ↔ (oj b ∨ WO Bw l D R0 R1 b)) ∧ ∀ b, oj b → ¬ WO Bw l D R0 R1 b
def WX (aS : Addr) (w0 : World) (S C Bw l D R0 R1 : Nat) (tv : Value) (rec : Loop) (s0 : Option Snk) (w : World) (L : List Ev) (o : Nat → Prop) : Prop :=
  (wsT s0 L).1 ≠ .fine ∧ ∃ ev oj, WErr aS (wsT s0 L).1 ev (wsT s0 L).2.2.1 w ∧ WS w0 S C tv w (wsT s0 L).2.1 (wsT s0 L).2.2.1 (wsT s0 L).2.2.2 oj ∧ w.heap[l]? = some (.loop { rec with state := .done, pending := some .ret }) ∧ w.heap[D]? = some (.deferred (some [])) ∧
    w.heap[R0]? = some (.cells #[.int .i64 (wsT s0 L).2.2.1] 3 (0, 0)) ∧ w.heap[R1]? = some (.cells #[ev] 75 (0, 0)) ∧ (∀ b, o b ↔ (oj b ∨ WO Bw l D R0 R1 b)) ∧ ∀ b, oj b → ¬ WO Bw l D R0 R1 b
theorem WJ.lt {w0 : World} {S C Bw l D R0 R1 : Nat} {tv : Value} {rec : Loop} {s0 : Option Snk} {w : World} {L : List Ev} {o : Nat → Prop} (h : WJ w0 S C Bw l D R0 R1 tv rec s0 w L o) : ∀ b, o b → b < w.heap.size := by
  obtain ⟨-, hA, oj, hw, ho, -⟩ := h
  intro b hb
  rcases (ho b).1 hb with h1 | h1
  · exact hw.lt b h1
  · exact hA.lt b h1
theorem WJ.keep {w0 : World} {S C Bw l D R0 R1 : Nat} {tv : Value} {rec : Loop} {s0 : Option Snk} {E : Nat → Prop} {w w' : World} {L : List Ev} {o : Nat → Prop} (h : WJ w0 S C Bw l D R0 R1 tv rec s0 w L o) (hk : Keeps E w w') (hE : ∀ b, E b → ¬ o b) (h0 : ∀ b, E b → w0.heap.size ≤ b) :
    WJ w0 S C Bw l D R0 R1 tv rec s0 w' L o := by
  obtain ⟨hf, hA, oj, hw, ho, hd⟩ := h
  exact ⟨hf, hA.keep hk (fun b hb h => hE b hb ((ho b).2 (.inr h))), oj, hw.keep hk (fun b hb h => hE b hb ((ho b).2 (.inl h))) h0, ho, hd⟩
theorem wsT_snoc {s0 : Option Snk} {L : List Ev} (h : (wsT s0 L).1 = .fine) (x : Ev) : wsT s0 (L ++ [x]) = drain 16 ((wsT s0 L).2.1 ++ htm x).length ((wsT s0 L).2.1 ++ htm x) (wsT s0 L).2.2.1 (wsT s0 L).2.2.2 := by
  unfold wsT at h ⊢
  rw [List.map_append, List.map_cons, List.map_nil]
  exact wst_snoc (htm x) _ _ _ _ h
theorem wsT_bd {s0 : Option Snk} {L : List Ev} (hq : SnkQ 0 s0) (h : (wsT s0 L).1 = .fine) : SnkQ (wsT s0 L).2.2.1 (wsT s0 L).2.2.2 ∧ (wsT s0 L).2.2.1 + (wsT s0 L).2.1.length = (htms L).length := by
  have := wst_q (L.map htm) [] 0 s0 hq h
  refine ⟨this.1, ?_⟩
  unfold wsT
  rw [this.2]
  simp [htms, List.flatMap]
theorem snkP_of {n B : Nat} {b : List UInt8} {s : Option Snk} (h : SnkQ n s) (hb : n + b.length ≤ B) : SnkP B b s := fun sk hs => by
  obtain ⟨h1, h2, h3, h4⟩ := h sk hs
  exact ⟨by omega, h2, h3, h4⟩
theorem htms_le {T L r : List Ev} {x : Ev} (h : L ++ x :: r = T) : (htms L).length + (htm x).length ≤ (htms T).length := by
  subst h
  simp [htms]
end Go.Proofs.YtbioecifiogffaaGreatDoor
