/- Append of a number of zero values ('append(l, make([]T, n)...)') onto a row that the call owns, elements of one cell. No condition. -/
import Derived.Test.YtbioecifiogffaaDoorEvRow
import Derived.IntWalk
namespace Go.Proofs.YtbioecifiogffaaDoor
open Go.RowKit

section
variable {P : Program} (w : World)
theorem zeroCells_one {z : Value} (hz : z.cells = #[z]) (m : Nat) : (Builtin.zeroCells z.cells m).toList = List.replicate m z := by
  rw [hz]
  unfold Builtin.zeroCells
  apply List.ext_getElem
  · simp
  · intro j h1 h2
    simp [Nat.mod_one]
theorem wrap_small (m : Nat) (h : m ≤ 1073741824) : IntKind.i64.wrap (m : Int) = (m : Int) := IntWalk.i64_in _ (by omega)
theorem run_append_zeros_room (t u ty e : TypeId) (i : TypeInfo) (z : Value) (ht : P.underlying t = some (.slice e)) (hu : P.underlying u = some (.int .i64)) (hi : P.info? e = some i) (hz : i.zero = some z) (hs1 : i.size = 1) (hb : i.bytes ≤ 100)
    (hzc : z.cells = #[z]) (h1 : z.oneCell' = true) (g sLen sCap : Nat) (cur : Array Value) (hg : w.heap[g]? = some (.cells cur e (0, 0))) (m : Nat) (hm : m ≤ 1073741824)
    (hroom : sLen + m ≤ sCap) (hfit : sLen + m ≤ cur.size) :
    (Builtin.append_ #[t, u] ty #[.slice (some ⟨g, 0, none⟩) sLen sCap, .int .i64 m]).run P w =
      .ok (.slice (some ⟨g, 0, none⟩) (sLen + m) sCap) (w.setRow g (cur.toList.take sLen ++ List.replicate m z ++ cur.toList.drop (sLen + m)).toArray) := by
  have hst := run_storeCells_at P g sLen e (List.replicate m z) 0 cur w hg (by simpa using hfit) (fun u hu => by rw [(List.mem_replicate.1 hu).2]; exact h1)
  simp only [Nat.add_zero, List.length_replicate] at hst
  have hw := wrap_small m hm
  have hneg : ¬ ((m : Int) < 0) := by omega
  have hbig : ¬ (281474976710656 < (m : Int) * (i.bytes : Int)) := by
    have : m * i.bytes ≤ 1073741824 * 100 := Nat.mul_le_mul hm hb
    have h2 : (m : Int) * (i.bytes : Int) = ((m * i.bytes : Nat) : Int) := by simp
    rw [h2]
    omega
  have hzl := zeroCells_one hzc m
  by_cases h0 : m = 0
  · subst h0
    have hw0 : IntKind.i64.wrap 0 = 0 := hw
    have hst2 : Sem.run P (storeCells ⟨g, sLen, none⟩ []) w = .ok () (w.setRow g (cur.toList.take sLen ++ cur.toList.drop sLen).toArray) := by simpa using hst
    have hroom2 : sLen ≤ sCap := hroom
    simp [Builtin.append_, run_underlying ht, run_underlying hu, sizeOf, typeInfo, hi, hs1, hroom2, asInt, asIntOf, hw0, Addr.add_lit, hst2]
  · have hpos : 0 < m := by omega
    simp [Builtin.append_, run_underlying ht, run_underlying hu, sizeOf, typeInfo, zeroValue, hi, hz, hs1, hroom, asInt, asIntOf, hw, hneg, hbig, h0, Addr.add_lit, hzl, hst]
theorem run_append_zeros_grow (t u ty e : TypeId) (i : TypeInfo) (z : Value) (ht : P.underlying t = some (.slice e)) (hu : P.underlying u = some (.int .i64)) (hi : P.info? e = some i) (hz : i.zero = some z) (hs1 : i.size = 1) (hb : i.bytes ≤ 100)
    (hzc : z.cells = #[z]) (b : Addr) (sLen sCap : Nat) (olds : List Value) (hlo : olds.length = sLen) (holds : ∀ j v, olds[j]? = some v → w.cell? (b.add j) = some v) (m : Nat) (hm : m ≤ 1073741824)
    (hg : sCap < sLen + m) (h63 : ((sLen + m : Nat) : Int) ≤ 9223372036854775807) (hfit : Builtin.nextslicecap (sLen + m) sCap * i.bytes ≤ 281474976710656) (hc : sLen ≤ sCap) :
    (Builtin.append_ #[t, u] ty #[.slice (some b) sLen sCap, .int .i64 m]).run P w =
      .ok (.slice (some ⟨w.heap.size, 0, none⟩) (sLen + m) (grownCap w (sLen + m) sCap e))
        (w.drew.alloc (.cells (olds.toArray ++ (List.replicate m z).toArray ++ Builtin.zeroCells z.cells (grownCap w (sLen + m) sCap e - (sLen + m))) e)) := by
  have hn : ¬ (sLen + m ≤ sCap) := by omega
  have h63' : ¬ (9223372036854775807 < ((sLen : Int) + (m : Int))) := by omega
  have h48' : ¬ (281474976710656 < Builtin.nextslicecap (sLen + m) sCap * i.bytes) := by omega
  have hfo := run_firstCells_some (P := P) w.drew 1 sLen b sLen sCap olds (by simpa using hlo) (by simpa using holds)
  have hw := wrap_small m hm
  have hneg : ¬ ((m : Int) < 0) := by omega
  have hbig : ¬ (281474976710656 < (m : Int) * (i.bytes : Int)) := by
    have : m * i.bytes ≤ 1073741824 * 100 := Nat.mul_le_mul hm hb
    have h2 : (m : Int) * (i.bytes : Int) = ((m * i.bytes : Nat) : Int) := by simp
    rw [h2]
    omega
  have h0 : m ≠ 0 := by omega
  have hzl : Builtin.zeroCells z.cells m = (List.replicate m z).toArray := by
    apply Array.ext'
    rw [zeroCells_one hzc m]
  simp [Builtin.append_, run_underlying ht, run_underlying hu, sizeOf, typeInfo, zeroValue, hi, hz, hs1, asInt, asIntOf, hw, hneg, hbig, h0, hn, h63', h48', Question.forced, hfo, hzl, newRow, grownCap]
  try (congr 2; apply Array.ext'; simp [List.append_assoc])
/-- The law. -/
theorem run_append_zeros {t u ty e : TypeId} {z : Value} {bytes : Nat} (ht : P.underlying t = some (.slice e)) (hu : P.underlying u = some (.int .i64)) (hi : (P.info? e).map (fun i => (i.zero, i.size, i.bytes)) = some (some z, 1, bytes)) (hb : bytes ≤ 100)
    (hzc : z.cells = #[z]) (h1 : z.oneCell' = true) {g n cap : Nat} {xs : List Value} (hrow : w.ownsRow 0 e 1 (.slice (some ⟨g, 0, none⟩) n cap) n xs) (m : Nat) (hm : n + m ≤ 1073741824) :
    ∃ p c' w', (Builtin.append_ #[t, u] ty #[.slice (some ⟨g, 0, none⟩) n cap, .int .i64 m]).run P w = .ok (.slice p (n + m) c') w' ∧ w'.ownsRow 0 e 1 (.slice p (n + m) c') (n + m) (xs ++ List.replicate m z) ∧ Grow w (.slice (some ⟨g, 0, none⟩) n cap) (.slice p (n + m) c') ∧ Keeps (fun k => k = g) w w' := by
  obtain ⟨i, hi', hz, h2, h3⟩ := info_parts hi
  have hxl : xs.length = n := by simpa using hrow.1
  have hlen : (xs ++ List.replicate m z).length = (n + m) * 1 := by rw [List.length_append, hxl, List.length_replicate, Nat.mul_one]
  rcases hrow.2 with ⟨h0, _⟩ | ⟨g', cap', cur, he, hbg, hg, hnc, hcm, hcs, htake⟩
  · cases h0
  · cases he
    by_cases hroom : n + m ≤ cap
    · have hcs' : cur.size = cap := by simpa using hcs
      have hr := run_append_zeros_room (P := P) w t u ty e i z ht hu hi' hz h2 (by omega) hzc h1 g n cap cur hg m (by omega) hroom (by omega)
      refine ⟨_, _, _, hr, ⟨hlen, .inr ⟨g, cap, _, rfl, hbg, setRow_heap w g cur _ e _ hg, hroom, hcm, ?_, ?_⟩⟩, fun k hk => .inl hk, ⟨rfl, rfl, rfl, by simp, fun k _ hk => setRow_other w g k _ hk⟩⟩
      · simp only [List.size_toArray, List.length_append, List.length_take, List.length_drop, Array.length_toList, List.length_replicate]
        omega
      · have ht' : cur.toList.take n = xs := by simpa using htake
        rw [ht', ← hlen]
        exact List.take_left
    · have holds : ∀ j u, xs[j]? = some u → w.cell? ((⟨g, 0, none⟩ : Addr).add j) = some u := World.ownsRow.cells (v := .slice (some ⟨g, 0, none⟩) n cap) hrow (g := g) rfl
      have hmul : (n + m) * i.bytes ≤ 1073741824 * 100 := Nat.mul_le_mul hm (by omega)
      have hr := run_append_zeros_grow (P := P) w t u ty e i z ht hu hi' hz h2 (by omega) hzc ⟨g, 0, none⟩ n cap xs hxl holds m (by omega) (by omega) (by omega) (growslice_fits (by omega) (by omega)) hnc
      have hge := grownCap_ge w (n + m) cap e
      have hgm : grownCap w (n + m) cap e ≤ maxLen := grownCap_le_maxLen w (n + m) cap e (by unfold maxLen; omega)
      refine ⟨_, _, _, hr, ⟨hlen, .inr ⟨w.heap.size, _, _, rfl, Nat.zero_le _, heap_alloc_new w.drew _, hge, hgm, ?_, ?_⟩⟩, fun k hk => ?_, ⟨rfl, rfl, rfl, by simp, fun k hk _ => heap_alloc_old w.drew _ hk⟩⟩
      · simp only [Array.size_append, List.size_toArray, size_zeroCells, hzc, hxl, List.length_replicate]
        simp
        omega
      · simp only [Array.toList_append, List.append_assoc]
        rw [← List.append_assoc, ← hlen]
        exact List.take_left
      · right
        simp [Value.ownBlock] at hk
        omega
theorem wpList_append_zeros {ops : Array Oper} {rest : List Oper} {o : Oper} {a : Act} {Q : Exit → Act → World → Prop} (hgd : o.guard = none) (sl x : Operand) (t u : TypeId)
    (ho : o.op = .call { callee := .builtin .append, args := #[sl, x], argTypes := #[t, u] }) {e : TypeId} {z : Value} {bytes : Nat} (ht : P.underlying t = some (.slice e)) (hu : P.underlying u = some (.int .i64)) (hi : (P.info? e).map (fun i => (i.zero, i.size, i.bytes)) = some (some z, 1, bytes)) (hb : bytes ≤ 100)
    (hzc : z.cells = #[z]) (h1 : z.oneCell' = true) {g n cap : Nat} {xs : List Value} (hs : a.eval sl = .slice (some ⟨g, 0, none⟩) n cap) (hrow : w.ownsRow 0 e 1 (.slice (some ⟨g, 0, none⟩) n cap) n xs) (m : Nat) (hx : a.eval x = .int .i64 m) (hm : n + m ≤ 1073741824)
    (h : ∀ p c' w', w'.ownsRow 0 e 1 (.slice p (n + m) c') (n + m) (xs ++ List.replicate m z) → Grow w (.slice (some ⟨g, 0, none⟩) n cap) (.slice p (n + m) c') → Keeps (fun k => k = g) w w' → wpList P ops Q rest (a.put o.dst (.slice p (n + m) c')) w') : wpList P ops Q (o :: rest) a w := by
  refine wpList_plain hgd fun K hK => ?_
  obtain ⟨p, c', w', hr, h2, h3, h4⟩ := run_append_zeros (P := P) w (ty := o.type) ht hu hi hb hzc h1 hrow m hm
  unfold Oper.wp execOp
  simp only [ho, resolve, invoke, builtin, Sem.run_bind, Sem.run_pure, Result.andThen_ok, List.map_toArray, List.map_cons, List.map_nil, hs, hx, hr]
  exact hK _ _ (h p c' w' h2 h3 h4)
end
end Go.Proofs.YtbioecifiogffaaDoor
