/- strings.Builder at this translation: a builder that the call made and only writes, its row's block named: copyCheck, Len, WriteByte, WriteString, WriteRune, String. Condition: no more than 2^46 bytes. -/
import Derived.Test.YtbioecifiogffaaDoorBase
import Derived.Test.YtbioecifiogffaaDoorShelf
import Derived.Shelf.Strings.BuilderRune
namespace Go.Proofs.YtbioecifiogffaaDoor
open Go.RowKit Go.Shelf

theorem Tryd.infoByte : (Tryd.prog.info? 5).map (fun i => (i.zero, i.size, i.bytes)) = some (some (.int .u8 0), 1, 1) := by kernel_rfl
theorem Tryd.sizeBuilder : (Tryd.prog.info? 96).map (·.size) = some 2 := by kernel_rfl
theorem Tryd.liesBuilder : liesAt Tryd.prog Tryd.prog.depth 96 (2 / Tryd.prog.cellsOf 96) 0 96 1 = true := by kernel_rfl

theorem RowIs.lift {w : World} {v : Value} {g B : Nat} {e : TypeId} {size n : Nat} {xs : List Value} (h : RowIs w v g e size n xs) (hB : B ≤ g) : w.ownsRow B e size v n xs := by
  refine ⟨h.1.1, ?_⟩
  rcases h.1.2 with hh | ⟨g', cap, cur, rfl, hb, hgg, rest⟩
  · exact .inl hh
  · have e1 : g' = g := h.2 g' rfl
    subst e1
    exact .inr ⟨g', cap, cur, rfl, hB, hgg, rest⟩

theorem RowIs.of {w : World} {v : Value} {B : Nat} {e : TypeId} {size n : Nat} {xs : List Value} (h : w.ownsRow B e size v n xs) (hB : B ≤ w.heap.size) : ∃ g, B ≤ g ∧ RowIs w v g e size n xs := by
  obtain ⟨h1, h2⟩ := h
  rcases h2 with ⟨rfl, rfl⟩ | ⟨g', cap, cur, rfl, hb, hgg, rest⟩
  · exact ⟨w.heap.size, hB, ⟨h1, .inl ⟨rfl, rfl⟩⟩, fun k hk => by simp [Value.ownBlock] at hk⟩
  · exact ⟨g', hb, ⟨h1, .inr ⟨g', cap, cur, rfl, Nat.zero_le _, hgg, rest⟩⟩, fun k hk => by simp [Value.ownBlock] at hk; exact hk.symm⟩

/-- Block b is a builder that holds the bytes bs; its row is block g. -/
def BIs (w : World) (b g : Nat) (bs : List Value) : Prop :=
  ∃ p v, w.heap[b]? = some (.cells #[p, v] 96 (0, 0)) ∧ (p = .pointer none ∨ p = .pointer (some ⟨b, 0, none⟩)) ∧ RowIs w v g 5 1 bs.length bs

theorem BIs.kept {D : Nat → Prop} {w w' : World} {b g : Nat} {bs : List Value} (h : BIs w b g bs) (hk : Keeps D w w') (h1 : ¬ D b) (h2 : g < w.heap.size → ¬ D g) : BIs w' b g bs := by
  obtain ⟨p, v, hb, hp, hr⟩ := h
  exact ⟨p, v, hk.heap_some hb h1, hp, hr.kept hk h2⟩
theorem BIs.lt {w : World} {b g : Nat} {bs : List Value} (h : BIs w b g bs) : b < w.heap.size := by
  obtain ⟨p, v, hb, hp, hr⟩ := h
  exact (Array.getElem?_eq_some_iff.1 hb).1
theorem BIs.ne {w : World} {b g : Nat} {bs : List Value} (h : BIs w b g bs) {p : Option Addr} {n c : Nat} (hc : w.cell? ⟨b, 1, none⟩ = some (.slice p n c)) (h0 : p ≠ none) : g ≠ b := by
  obtain ⟨q, v, hb, hp, hr⟩ := h
  rw [Lib.cell_of_heap hb] at hc
  have hv : v = .slice p n c := by simpa using hc
  subst hv
  rcases hr.1.2 with ⟨hh, _⟩ | ⟨g', cap, cur, hv, _, hgg, rest⟩
  · cases hh; exact absurd rfl h0
  · have e1 : g' = g := hr.2 g' (by rw [hv]; rfl)
    subst e1
    intro e2
    rw [e2, hb] at hgg
    cases hgg
theorem BIs.own_ne {w : World} {b g : Nat} {p v : Value} {n : Nat} {bs : List Value} (hb : w.heap[b]? = some (.cells #[p, v] 96 (0, 0))) (hr : RowIs w v g 5 1 n bs) : v.ownBlock ≠ some b := by
  intro e0
  rcases hr.1.2 with ⟨rfl, _⟩ | ⟨g', cap, cur, rfl, _, hgg, rest⟩
  · cases e0
  · have : g' = b := by simpa [Value.ownBlock] using e0
    subst this
    rw [hb] at hgg
    cases hgg
/-- 'var b strings.Builder' in the next new block. -/
theorem BIs.fresh (w : World) (g : Nat) : BIs (w.alloc (.cells #[.pointer none, .slice none 0 0] 96)) w.heap.size g [] :=
  ⟨_, _, heap_alloc_new w _, .inl rfl, RowIs.nil _ _ _ _⟩

/-- A store of the row's value into a builder. -/
theorem BIs.put {w : World} {b g : Nat} {p v v' : Value} {bs : List Value} (hb : w.heap[b]? = some (.cells #[p, v] 96 (0, 0))) (hp : p = .pointer none ∨ p = .pointer (some ⟨b, 0, none⟩))
    (hr : RowIs w v' g 5 1 bs.length bs) : BIs (w.setCell ⟨b, 1, none⟩ v') b g bs := by
  refine ⟨p, v', ?_, hp, ?_⟩
  · simp [World.setCell, Array.getElem?_modify, hb]
  · refine ⟨⟨hr.1.1, ?_⟩, hr.2⟩
    rcases hr.1.2 with hh | ⟨g', cap, cur, rfl, hb2, hgg, rest⟩
    · exact .inl hh
    · refine .inr ⟨g', cap, cur, rfl, hb2, ?_, rest⟩
      have hne : g' ≠ b := by
        intro e1
        subst e1
        rw [hb] at hgg
        cases hgg
      rw [Below.heap_setCell _ _ _ _ (by simpa using hne)]
      exact hgg

set_option maxHeartbeats 1000000 in
set_option maxRecDepth 100000 in
theorem Builder_copyCheck_fresh (b : Nat) (w : World) (h0 : w.cell? ⟨b, 0, none⟩ = some (.pointer none)) (hsh : w.shape? b = some (96, 2)) (hfz : w.frozen? ⟨b, 0, none⟩ = false) :
    Calls Tryd.prog 66 #[.pointer (some ⟨b, 0, none⟩)] w fun e w' => e = .returned (.tuple #[]) ∧ w' = w.setCell ⟨b, 0, none⟩ (.pointer (some ⟨b, 0, none⟩)) := by
  obtain ⟨j, hj, hjs⟩ := Option.map_eq_some_iff.1 Tryd.sizeBuilder
  go_enter Tryd.func66, Tryd.ntmps66
  go_wp2
  rw [Lib.run_to_unsafe w ⟨b, 0, none⟩ Tryd.underlying93 Tryd.underlying103 hj (by rw [hjs]; decide) hsh (Nat.zero_lt_succ 1)]
  simp only [Result.andThen]
  rw [Oper.upon_value]
  go_wp2
  rw [run_callFunc_extern Tryd.func76 (by kernel_rfl) (by kernel_rfl) (by kernel_rfl) (e := Extern.AbiNoEscape.same) (by kernel_rfl)]
  rw [Lib.run_noEscape]
  simp only [Result.andThen]
  rw [Oper.upon_value]
  go_wp2
  rw [Lib.run_from_unsafe w ⟨b, 0, none⟩ Tryd.underlying103 Tryd.underlying93 hj hsh Tryd.liesBuilder]
  simp only [Result.andThen]
  rw [Oper.upon_value]
  go_wp2
  go_end0
  exact ⟨rfl, rfl⟩

set_option maxHeartbeats 1000000 in
set_option maxRecDepth 100000 in
theorem Builder_copyCheck_used (b : Nat) (w : World) (h0 : w.cell? ⟨b, 0, none⟩ = some (.pointer (some ⟨b, 0, none⟩))) :
    Calls Tryd.prog 66 #[.pointer (some ⟨b, 0, none⟩)] w fun e w' => e = .returned (.tuple #[]) ∧ w' = w := by
  obtain ⟨j, hj, hjs⟩ := Option.map_eq_some_iff.1 Tryd.sizeBuilder
  go_enter Tryd.func66, Tryd.ntmps66
  go_wp2
  rw [Lib.run_neq_ptr_same w _ Tryd.underlying93 hj]
  go_wp2
  go_end0
  exact ⟨rfl, rfl⟩

theorem Builder_copyCheck (b g : Nat) (bs : List Value) (w : World) (h : BIs w b g bs) :
    Calls Tryd.prog 66 #[.pointer (some ⟨b, 0, none⟩)] w fun e w' => e = .returned (.tuple #[]) ∧ (∃ v, w'.heap[b]? = some (.cells #[.pointer (some ⟨b, 0, none⟩), v] 96 (0, 0)) ∧ RowIs w' v g 5 1 bs.length bs) ∧ Keeps (fun k => k = b) w w' := by
  obtain ⟨p, v, hb, hp, hr⟩ := h
  rcases hp with rfl | rfl
  · refine (Builder_copyCheck_fresh b w (by rw [Lib.cell_of_heap hb]; rfl) (by simp [World.shape?, hb]) (by simp [World.frozen?, hb])).mono ?_
    rintro e w' ⟨rfl, rfl⟩
    have hk : Keeps (fun k => k = b) w (w.setCell ⟨b, 0, none⟩ (.pointer (some ⟨b, 0, none⟩))) := (Keeps.refl (fun k => k = b) w).setCell (p := ⟨b, 0, none⟩) (fun _ => rfl) _
    refine ⟨rfl, ⟨v, by simp [World.setCell, Array.getElem?_modify, hb], ?_⟩, hk⟩
    refine ⟨⟨hr.1.1, ?_⟩, hr.2⟩
    rcases hr.1.2 with hh | ⟨g', cap, cur, rfl, hb2, hgg, rest⟩
    · exact .inl hh
    · refine .inr ⟨g', cap, cur, rfl, hb2, hk.heap_some hgg ?_, rest⟩
      intro e1
      subst e1
      rw [hb] at hgg
      cases hgg
  · refine (Builder_copyCheck_used b w (by rw [Lib.cell_of_heap hb]; rfl)).mono ?_
    rintro e w' ⟨rfl, rfl⟩
    exact ⟨rfl, ⟨v, hb, hr⟩, Keeps.refl _ _⟩

set_option maxHeartbeats 1000000 in
set_option maxRecDepth 100000 in
theorem Builder_Len (b g : Nat) (bs : List Value) (w : World) (h : BIs w b g bs) :
    Calls Tryd.prog 52 #[.pointer (some ⟨b, 0, none⟩)] w fun e w' => e = .returned (.int .i64 bs.length) ∧ w = w' := by
  obtain ⟨p, v, hb, hp, hr⟩ := h
  obtain ⟨ao, cap, rfl⟩ := hr.form
  have c1 : w.cell? ⟨b, 1, none⟩ = some (.slice ao bs.length cap) := by rw [Lib.cell_of_heap hb]; rfl
  clear hb hp hr
  go_enter Tryd.func52, Tryd.ntmps52
  go_wp2
  go_ret
  exact ⟨rfl, rfl⟩

set_option maxHeartbeats 1000000 in
set_option maxRecDepth 100000 in
theorem Builder_WriteByte (b g : Nat) (bs : List Value) (c : Int) (w : World) (h : BIs w b g bs) (hlen : bs.length + 1 ≤ 70368744177664) :
    Calls Tryd.prog 62 #[.pointer (some ⟨b, 0, none⟩), .int .u8 c] w fun e w' => e = .returned .nilIface ∧ ∃ g', BIs w' b g' (bs ++ [.int .u8 c]) ∧ (g' = g ∨ w.heap.size ≤ g') ∧ Keeps (fun k => k = b ∨ k = g) w w' := by
  obtain ⟨i0, hi, hz0, hz1, hz2⟩ := info_parts Tryd.infoByte
  have hbl := h.lt
  go_enter Tryd.func62, Tryd.ntmps62
  go_wp2_with (go_at_call 66; refine (Builder_copyCheck b g bs _ h).mono ?_)
  rintro e w1 ⟨rfl, ⟨v, hbk, hr⟩, hk1⟩
  have c0 : w1.cell? ⟨b, 0, none⟩ = some (.pointer (some ⟨b, 0, none⟩)) := by rw [Lib.cell_of_heap hbk]; rfl
  have c1 : w1.cell? ⟨b, 1, none⟩ = some v := by rw [Lib.cell_of_heap hbk]; rfl
  go_wp2_with (at_builtin; refine wpList_append_row _ rfl _ _ 94 rfl 5 i0 (.int .u8 0) 1 1 Tryd.underlying94 hi hz0 hz1 hz2 rfl (by decide) v g bs.length bs rfl (hr.kept ((Keeps.refl (fun _ => False) w1).alloc _) (fun _ h => h)) (some ⟨w1.heap.size, 0, none⟩) 1 1 [.int .u8 c] rfl rfl ?c0 ?c1 ?c2 ?c3 ?c4 ?_)
  case c0 => intro h; cases h
  case c1 => intro ad had; cases had; exact cell_one_new _ _ _
  case c2 => intro u hu; simp at hu; subst hu; rfl
  case c3 => unfold maxLen; omega
  case c4 => omega
  intro p c' g' w2 hr2 hg2 hk2
  have hs := hk1.size
  have hne : v.ownBlock ≠ some b := BIs.own_ne hbk hr
  have hb2 : w2.heap[b]? = some (.cells #[.pointer (some ⟨b, 0, none⟩), v] 96 (0, 0)) :=
    (hk2.block b (by simp; omega) hne).trans ((Below.heap_alloc w1 _ b (by omega)).trans hbk)
  have d0 : w2.cell? ⟨b, 0, none⟩ = some (.pointer (some ⟨b, 0, none⟩)) := by rw [Lib.cell_of_heap hb2]; rfl
  have d1 : w2.cell? ⟨b, 1, none⟩ = some v := by rw [Lib.cell_of_heap hb2]; rfl
  have f1 : w2.frozen? ⟨b, 1, none⟩ = false := Lib.frozen_of_heap hb2 1
  have hK : Keeps (fun k => k = b ∨ k = g) w (w2.setCell ⟨b, 1, none⟩ (.slice p (bs.length + 1) c')) :=
    (((hk1.mono (fun _ _ h => .inl h)).alloc _).trans hk2 (fun k _ h => .inr (hr.2 k h))).setCell (fun _ => .inl rfl) _
  have hB : BIs (w2.setCell ⟨b, 1, none⟩ (.slice p (bs.length + 1) c')) b g' (bs ++ [.int .u8 c]) := BIs.put hb2 (.inr rfl) (by simpa using hr2)
  have hg : g' = g ∨ w.heap.size ≤ g' := by omega
  clear hr2 hg2 hk2 hne hb2 hr hbk hk1 h
  go_wp2
  go_ret
  exact ⟨rfl, g', hB, hg, hK⟩

set_option maxHeartbeats 1000000 in
set_option maxRecDepth 100000 in
theorem Builder_WriteString (b g : Nat) (bs : List Value) (s : ByteArray) (w : World) (h : BIs w b g bs) (hlen : bs.length + s.size ≤ 70368744177664) :
    Calls Tryd.prog 53 #[.pointer (some ⟨b, 0, none⟩), .string s] w fun e w' => e = .returned (.tuple #[.int .i64 s.size, .nilIface]) ∧ ∃ g', BIs w' b g' (bs ++ Lib.strCells s) ∧ (g' = g ∨ w.heap.size ≤ g') ∧ Keeps (fun k => k = b ∨ k = g) w w' := by
  obtain ⟨i0, hi, hz0, hz1, hz2⟩ := info_parts Tryd.infoByte
  have hbl := h.lt
  go_enter Tryd.func53, Tryd.ntmps53
  go_wp2_with (go_at_call 66; refine (Builder_copyCheck b g bs _ h).mono ?_)
  rintro e w1 ⟨rfl, ⟨v, hbk, hr⟩, hk1⟩
  have c0 : w1.cell? ⟨b, 0, none⟩ = some (.pointer (some ⟨b, 0, none⟩)) := by rw [Lib.cell_of_heap hbk]; rfl
  have c1 : w1.cell? ⟨b, 1, none⟩ = some v := by rw [Lib.cell_of_heap hbk]; rfl
  have hne : v.ownBlock ≠ some b := BIs.own_ne hbk hr
  go_wp2_with (at_builtin; refine wpList_append_row_string _ rfl _ _ 94 9 rfl 5 i0 Tryd.underlying94 Tryd.underlying9 hi hz0 hz1 hz2 v g bs.length bs rfl hr s rfl ?c3 ?c4 ?_)
  case c3 => unfold maxLen; omega
  case c4 => omega
  intro p c' g' w2 hr2 hg2 hk2
  have hs := hk1.size
  have hb2 : w2.heap[b]? = some (.cells #[.pointer (some ⟨b, 0, none⟩), v] 96 (0, 0)) :=
    (hk2.block b (by omega) hne).trans hbk
  have d0 : w2.cell? ⟨b, 0, none⟩ = some (.pointer (some ⟨b, 0, none⟩)) := by rw [Lib.cell_of_heap hb2]; rfl
  have d1 : w2.cell? ⟨b, 1, none⟩ = some v := by rw [Lib.cell_of_heap hb2]; rfl
  have f1 : w2.frozen? ⟨b, 1, none⟩ = false := Lib.frozen_of_heap hb2 1
  have hK : Keeps (fun k => k = b ∨ k = g) w (w2.setCell ⟨b, 1, none⟩ (.slice p (bs.length + s.size) c')) :=
    ((hk1.mono (fun _ _ h => .inl h)).trans hk2 (fun k _ h => .inr (hr.2 k h))).setCell (fun _ => .inl rfl) _
  have hB : BIs (w2.setCell ⟨b, 1, none⟩ (.slice p (bs.length + s.size) c')) b g' (bs ++ Lib.strCells s) := BIs.put hb2 (.inr rfl) (by simpa [Lib.strCells_length] using hr2)
  have hg : g' = g ∨ w.heap.size ≤ g' := by omega
  clear hr2 hg2 hk2 hne hb2 hr hbk hk1 h
  go_wp2
  go_ret2
  exact ⟨rfl, g', hB, hg, hK⟩

set_option maxHeartbeats 1000000 in
set_option maxRecDepth 100000 in
theorem Builder_WriteRune (B b g : Nat) (bs : List Value) (r : Int) (hr0 : -2147483648 ≤ r) (hr1 : r ≤ 2147483647) (w : World) (h : BIs w b g bs) (hB1 : B ≤ g) (hB2 : B ≤ w.heap.size) (hlen : bs.length + 4 ≤ 70368744177664) :
    Calls Tryd.prog 63 #[.pointer (some ⟨b, 0, none⟩), .int .i32 r] w fun e w' => (∃ n : Int, e = .returned (.tuple #[.int .i64 n, .nilIface])) ∧ ∃ g', BIs w' b g' (bs ++ Lib.runeCells r) ∧ B ≤ g' ∧ Keeps (fun k => k = b ∨ k = g) w w' := by
  have hbl := h.lt
  go_enter Tryd.func63, Tryd.ntmps63
  go_wp2_with (go_at_call 66; refine (Builder_copyCheck b g bs _ h).mono ?_)
  rintro e w1 ⟨rfl, ⟨v, hbk, hr⟩, hk1⟩
  obtain ⟨p0, c00, rfl⟩ := hr.form
  have c0 : w1.cell? ⟨b, 0, none⟩ = some (.pointer (some ⟨b, 0, none⟩)) := by rw [Lib.cell_of_heap hbk]; rfl
  have c1 : w1.cell? ⟨b, 1, none⟩ = some (.slice p0 bs.length c00) := by rw [Lib.cell_of_heap hbk]; rfl
  have hne := BIs.own_ne hbk hr
  have hs := hk1.size
  go_wp2_with (go_at_call 71; refine (Tryd.utf8_AppendRune_plain B _ _ bs r hr0 hr1 _ (hr.lift hB1) (by omega) (by omega)).mono ?_)
  rintro e w2 ⟨v2, rfl, hown2, o, hgr⟩
  have hk2 : Keeps (fun k => (Value.slice p0 bs.length c00).ownBlock = some k) w1 w2 := ((Keeps.refl _ w1).alloc o).grown hgr (fun k e _ => e)
  have hs2 := hk2.size
  obtain ⟨g', hg', hr2⟩ := RowIs.of hown2 (by omega)
  obtain ⟨p, c', rfl⟩ := hr2.form
  have hb2 : w2.heap[b]? = some (.cells #[.pointer (some ⟨b, 0, none⟩), .slice p0 bs.length c00] 96 (0, 0)) :=
    (hk2.block b (by omega) hne).trans hbk
  have d0 : w2.cell? ⟨b, 0, none⟩ = some (.pointer (some ⟨b, 0, none⟩)) := by rw [Lib.cell_of_heap hb2]; rfl
  have d1 : w2.cell? ⟨b, 1, none⟩ = some (.slice p0 bs.length c00) := by rw [Lib.cell_of_heap hb2]; rfl
  have f1 : w2.frozen? ⟨b, 1, none⟩ = false := Lib.frozen_of_heap hb2 1
  have hK : Keeps (fun k => k = b ∨ k = g) w (w2.setCell ⟨b, 1, none⟩ (.slice p (bs.length + (Lib.runeCells r).length) c')) :=
    ((hk1.mono (fun _ _ h => .inl h)).trans hk2 (fun k _ h => .inr (hr.2 k h))).setCell (fun _ => .inl rfl) _
  have hBI : BIs (w2.setCell ⟨b, 1, none⟩ (.slice p (bs.length + (Lib.runeCells r).length) c')) b g' (bs ++ Lib.runeCells r) := BIs.put hb2 (.inr rfl) (by simpa using hr2)
  clear hr2 hk2 hne hb2 hr hbk hk1 h hown2 hgr
  go_wp2
  go_ret2
  exact ⟨⟨_, rfl⟩, g', hBI, hg', hK⟩

set_option maxHeartbeats 1000000 in
set_option maxRecDepth 100000 in
/-- String: the bytes; behind it the row's head is frozen: of the builder nothing more is said. -/
theorem Builder_String (b g : Nat) (l : List UInt8) (w : World) (h : BIs w b g (Lib.byteCells l)) :
    Calls Tryd.prog 54 #[.pointer (some ⟨b, 0, none⟩)] w fun e w' => e = .returned (.string ⟨l.toArray⟩) ∧ Keeps (fun k => k = g) w w' := by
  obtain ⟨p, v, hb, hp, hr⟩ := h
  obtain ⟨ao, cap, rfl⟩ := hr.form
  have c1 : w.drew.cell? ⟨b, 1, none⟩ = some (.slice ao (Lib.byteCells l).length cap) := by
    have : w.drew.heap[b]? = some (.cells #[p, .slice ao (Lib.byteCells l).length cap] 96 (0, 0)) := hb
    rw [Lib.cell_of_heap this]; rfl
  rw [Lib.byteCells_length] at c1 hr hb
  by_cases h0 : l = []
  · subst h0
    have hUS : ∀ q, (Builtin.unsafeString_ #[126, 3] 9 #[.pointer q, .int .i64 0]).run Tryd.prog w.drew = .ok (.string .empty) w.drew := fun q => Lib.run_unsafeString_none _ _ _ _ q
    rcases hr.1.2 with ⟨hv, _⟩ | ⟨g', cap', cur, hv, hb3, hgg, rest⟩
    · cases hv
      have hSD : (Builtin.unsafeSliceData_ #[94] 126 #[.slice none 0 0]).run Tryd.prog w.drew = .ok (.pointer none) w.drew := rfl
      clear hr hb hp
      go_enter Tryd.func54, Tryd.ntmps54
      go_wp2
      go_region
      all_goals (go_wp2; go_ret; exact ⟨rfl, (Keeps.refl _ _).drew⟩)
    · cases hv
      have hgd : w.drew.heap[g']? = some (.cells cur 5 (0, 0)) := hgg
      have hbl : b < w.heap.size := (Array.getElem?_eq_some_iff.1 hb).1
      by_cases hc0 : cap = 0
      · subst hc0
        have hSD : (Builtin.unsafeSliceData_ #[94] 126 #[.slice (some ⟨g', 0, none⟩) 0 0]).run Tryd.prog w.drew = .ok (.pointer (some ⟨w.drew.heap.size, 0, none⟩)) (w.drew.alloc (.view ⟨g', 0, none⟩ 5)) :=
          Lib.run_unsafeSliceData_zero w.drew _ _ 5 Tryd.underlying126 ⟨g', 0, none⟩ 0 (5, cur.size) (by simp [World.shape?, hgd])
        have c2 : (w.drew.alloc (.view ⟨g', 0, none⟩ 5)).cell? ⟨b, 1, none⟩ = some (.slice (some ⟨g', 0, none⟩) 0 0) := by
          have : (w.drew.alloc (.view ⟨g', 0, none⟩ 5)).heap[b]? = _ := (Lib.alloc_old w.drew _ b hbl).trans hb
          rw [Lib.cell_of_heap this]; rfl
        have c3 : (w.alloc (.view ⟨g', 0, none⟩ 5)).drew.cell? ⟨b, 1, none⟩ = some (.slice (some ⟨g', 0, none⟩) 0 0) := c2
        have c0 : w.cell? ⟨b, 1, none⟩ = some (.slice (some ⟨g', 0, none⟩) 0 0) := c1
        have hUS2 : ∀ (W : World) q, (Builtin.unsafeString_ #[126, 3] 9 #[.pointer q, .int .i64 0]).run Tryd.prog W = .ok (.string .empty) W := fun W q => Lib.run_unsafeString_none _ _ _ _ q
        clear hr hb hp rest hgg hgd hUS
        go_enter Tryd.func54, Tryd.ntmps54
        go_wp2
        go_region
        all_goals (go_wp2; go_ret; exact ⟨rfl, ((Keeps.refl _ _).drew).alloc _⟩)
      · have hSD : (Builtin.unsafeSliceData_ #[94] 126 #[.slice (some ⟨g', 0, none⟩) 0 cap]).run Tryd.prog w.drew = .ok (.pointer (some ⟨g', 0, none⟩)) w.drew :=
          Lib.run_unsafeSliceData_row _ _ _ _ _ _ hc0
        clear hc0 hr hb hp rest hgg hgd
        go_enter Tryd.func54, Tryd.ntmps54
        go_wp2
        go_region
        all_goals (go_wp2; go_ret; exact ⟨rfl, (Keeps.refl _ _).drew⟩)
  · have hl0 : l.length ≠ 0 := by simpa using h0
    rcases hr.1.2 with ⟨_, h00⟩ | ⟨g', cap', cur, hv, hb3, hgg, hnc, hcm, hcs, htake⟩
    · exact absurd h00 hl0
    · cases hv
      have e1 : g' = g := hr.2 g' rfl
      subst e1
      have hSD : (Builtin.unsafeSliceData_ #[94] 126 #[.slice (some ⟨g', 0, none⟩) l.length cap]).run Tryd.prog w.drew = .ok (.pointer (some ⟨g', 0, none⟩)) w.drew :=
        Lib.run_unsafeSliceData_row _ _ _ _ _ _ (by omega)
      have hUS : (Builtin.unsafeString_ #[126, 3] 9 #[.pointer (some ⟨g', 0, none⟩), .int .i64 l.length]).run Tryd.prog w.drew = .ok (.string ⟨l.toArray⟩) (w.drew.freeze ⟨g', 0, none⟩ l.length) := by
        refine Lib.run_unsafeString_row w.drew 126 3 9 5 Tryd.underlying126 (by kernel_rfl) g' cur.size (by have hg' : w.drew.heap[g']? = some (.cells cur 5 (0, 0)) := hgg; simp [World.shape?, hg']) l h0 (by omega) (by unfold maxLen at hcm; omega) ?_
        intro j x hx
        have := World.ownsRow.cells (v := .slice (some ⟨g', 0, none⟩) l.length cap) hr.1 (g := g') rfl j (.int .u8 x.toNat) (by simp [Lib.byteCells, hx])
        exact this
      clear hr hb hp hgg hnc hcm hcs htake hl0
      go_enter Tryd.func54, Tryd.ntmps54
      go_wp2
      go_region
      all_goals (go_wp2; go_ret; exact ⟨rfl, ((Keeps.refl (fun k => k = g') w).drew).freeze (p := ⟨g', 0, none⟩) (fun _ => rfl) _⟩)
end Go.Proofs.YtbioecifiogffaaDoor
